import Derived.Test.YtlfeoiagemlbiaaGreatDoorCAs
/- A text without the digits at its begin. -/
set_option linter.unusedVariables false
set_option linter.unusedSectionVars false
set_option maxRecDepth 100000
noncomputable section
namespace Go.Proofs.YtlfeoiagemlbiaaGreatDoor
open Go.Den Go.Proofs Go.Extern Go.RowKit
variable [Msr]
noncomputable def setD : List UInt8 := [48, 49, 50, 51, 52, 53, 54, 55, 56, 57]
noncomputable def setH : List UInt8 := [48, 49, 50, 51, 52, 53, 54, 55, 56, 57, 97, 98, 99, 100, 101, 102, 65, 66, 67, 68, 69, 70]
noncomputable def asciiF (t : SE) : Fact := (.eq, .app 19 t (.n 0) (.n 0), .n 1, true)
noncomputable def fs1 : Func := Tryz.f139
noncomputable def clC (set : List UInt8) (sym : Nat) : Ctr := ⟨[.sstr (.v 0), .str set], 9 + 1, [], [short (.v 0), asciiF (.v 0)], .sstr (.app sym (.v 0) (.n 0) (.n 0)), [], []⟩
noncomputable def clT (set : List UInt8) : Tm := putLT [(0, .sstr (.v 0)), (1, .str set)]
noncomputable def clS (set : List UInt8) (sym : Nat) : SRes := startS Tryz.prog call1 fs1 100000 (stpL [0]) (bodyOf fs1) (clC set sym) (clT set) []
noncomputable def clL (set : List UInt8) (sym : Nat) : Lp := ⟨0, srB (clS set sym), srK (clS set sym), ⟨[(0, .sstr (.v 0)), (1, .str set), (4, .str []), (11, .ptr (9 + 1) 0)], [(9 + 1, .siter (.v 0) (.v 1))], 9 + 2⟩⟩
noncomputable def clF (b : Nat) : List Fact := [(.lt, .v 1, .n 0, false), (.lt, .v 1, tLen (.v 0), true), (.le, .v 1, tLen (.v 0), true), (.eq, tByte (.v 0) (.v 1), .n b, true)]
noncomputable def clE : List Fact := [(.lt, .v 1, .n 0, false), (.lt, .v 1, tLen (.v 0), false)]
noncomputable def clR (set : List UInt8) (sym : Nat) (F : List Fact) : SRes := roundS Tryz.prog call1 fs1.ntmps 100000 (stpL [0]) 0 (clL set sym) F
noncomputable def clChk (set : List UInt8) (sym : Nat) (p : UInt8 → Bool) (b : Nat) : Bool := bif p (UInt8.ofNat b) then chkAgain Tryz.prog 9 [(0, .v 0), (1, .app 7 (.v 1) (.n 1) (.n 0))] [] (clL set sym).can 0 (clR set sym (clF b))
  else needsB Tryz.prog 9 fs1 (clC set sym) [] (clR set sym (clF b)) [.s (.app sym (.v 0) (.n 0) (.n 0)) (tSub (.v 0) (.v 1) (tLen (.v 0)))]
theorem clD_ok : allBytes (clChk setD 20 isDec) 128 = true := by kernel_rfl
theorem clH_ok : allBytes (clChk setH 21 isHex) 128 = true := by kernel_rfl
noncomputable def clI (p : UInt8 → Bool) (_ : Nat) (ρ0 ρ : Rho) (n : Nat) : Prop := ∃ j : Nat, (ρ 0) = (ρ0 0) ∧ (ρ 1).i = (j : Int) ∧ j ≤ (ρ0 0).s.length ∧ (ρ0 0).s.dropWhile p = ((ρ0 0).s.drop j).dropWhile p ∧ n = (ρ0 0).s.length - j ∧ ascii (ρ0 0).s = true
theorem cl_ctr {set : List UInt8} {sym : Nat} {p : UInt8 → Bool} (ht : enterD (clC set sym).args fs1.ntmps 0 .nil = some (clT set)) (hc : chkStop Tryz.prog 9 [(0, .v 0), (1, .n 0)] [] (clL set sym).can 0 (clS set sym) = true) (hl : ([clL set sym].all (lpB (clC set sym).nx)) = true)
    (hB : allBytes (clChk set sym p) 128 = true) (hend : needsB Tryz.prog 9 fs1 (clC set sym) [] (clR set sym clE) [.s (.app sym (.v 0) (.n 0) (.n 0)) (.lit [])] = true)
    (hsym : ∀ ρ : Rho, (SE.app sym (.v 0) (.n 0) (.n 0)).str ρ = (ρ 0).s.dropWhile p) : CtrOK Tryz.prog 139 (clC set sym) := by
  refine ctr_loops (loops := [clL set sym]) (inv := clI p) (fuel := 100000) (stp := stpL [0]) gsz mixed (runD_ok static kn1_ok 20) Tryz.func139 (by kernel_rfl) (show fs1.body = some (bodyOf fs1) by kernel_rfl) (by kernel_rfl) ht hl ?_ ?_
  · intro ρ hF
    refine ⟨[], fl_nil, .stop 0 (clL set sym) [(0, .v 0), (1, .n 0)] [] ((ρ 0).s.length) rfl (fun i m h => by cases h) rfl rfl hc rfl ?_⟩
    refine ⟨0, rfl, rfl, Nat.zero_le _, by simp, by simp, ?_⟩
    have h1 := hF _ (List.mem_cons_of_mem _ (List.mem_singleton.2 rfl))
    have h2 : (b01 (ascii (ρ 0).s) == 1) = true := h1
    cases ha : ascii (ρ 0).s with
    | true => rfl
    | false => rw [ha] at h2; exact absurd h2 (by decide)
  · intro i lp hlp ρ0 ρ n hF hI
    cases i with
    | succ i => simp at hlp
    | zero =>
      simp at hlp; subst hlp
      obtain ⟨j, h1, h2, h3, h4, h5, h6⟩ := hI
      have hlen : (tLen (.v 0)).den ρ = ((ρ0 0).s.length : Int) := by rw [← h1]; rfl
      have hj : (SE.v 1).den ρ = (j : Int) := h2
      by_cases hlt : j < (ρ0 0).s.length
      · obtain ⟨b, hb⟩ : ∃ b, b = (ρ0 0).s[j] := ⟨_, rfl⟩
        have hdrop : (ρ0 0).s.drop j = b :: (ρ0 0).s.drop (j + 1) := by rw [hb]; exact List.drop_eq_getElem_cons hlt
        have hb128 : b.toNat < 128 := by
          have := List.all_eq_true.1 h6 b (by rw [hb]; exact List.getElem_mem hlt)
          simpa [Nat.blt_eq] using this
        have hbyte : (tByte (.v 0) (.v 1)).den ρ = (b.toNat : Int) := by
          show ((((ρ 0).s[((ρ 1).i).toNat]?).getD 0).toNat : Int) = _
          rw [h1, h2, hb]; simp [hlt]
        have hk := allBytes_ok hB b.toNat hb128
        have hbb : UInt8.ofNat b.toNat = b := by simp
        unfold clChk at hk
        rw [hbb] at hk
        refine ⟨clF b.toNat, fl_cons (ltN (by rw [hj, den_n]; omega)) (fl_cons (ltT (by rw [hj, hlen]; omega)) (fl_cons (leT (by rw [hj, hlen]; omega)) (fl_cons (eqF_ok hbyte) fl_nil))), ?_⟩
        cases hp : p b with
        | true =>
          rw [hp] at hk
          refine .again 0 n (clL set sym) _ [] ((ρ0 0).s.length - (j + 1)) rfl rfl (by omega) hk rfl ⟨j + 1, h1, ?_, by omega, ?_, rfl, h6⟩
          · show (ρ 1).i + 1 = _
            rw [h2]; simp
          · rw [h4, hdrop, List.dropWhile_cons, hp]; simp
        | false =>
          rw [hp] at hk
          refine .fin [] _ (needsB_ok hk) fun x hx => ?_
          rw [List.mem_singleton] at hx
          subst hx
          show (SE.app sym (.v 0) (.n 0) (.n 0)).str ρ0 = ((ρ 0).s.take ((tLen (.v 0)).den ρ).toNat).drop ((ρ 1).i).toNat
          rw [hsym, h4, hlen, h1, h2, hdrop, List.dropWhile_cons, hp]
          simp only [Int.toNat_natCast, List.take_length]
          rw [hdrop]; simp
      · have hje : j = (ρ0 0).s.length := by omega
        refine ⟨clE, fl_cons (ltN (by rw [hj, den_n]; omega)) (fl_cons (ltN (by rw [hj, hlen]; omega)) fl_nil), .fin [] _ (needsB_ok hend) fun x hx => ?_⟩
        rw [List.mem_singleton] at hx
        subst hx
        show (SE.app sym (.v 0) (.n 0) (.n 0)).str ρ0 = []
        rw [hsym, h4, hje]; simp
theorem clD : CtrOK Tryz.prog 139 (clC setD 20) := cl_ctr (p := isDec) (by kernel_rfl) (by kernel_rfl) (by kernel_rfl) clD_ok (by kernel_rfl) (fun ρ => rfl)
theorem clH : CtrOK Tryz.prog 139 (clC setH 21) := cl_ctr (p := isHex) (by kernel_rfl) (by kernel_rfl) (by kernel_rfl) clH_ok (by kernel_rfl) (fun ρ => rfl)
end Go.Proofs.YtlfeoiagemlbiaaGreatDoor

/- A text without the digits at its end. -/
set_option linter.unusedVariables false
set_option linter.unusedSectionVars false
set_option maxRecDepth 100000
noncomputable section
namespace Go.Proofs.YtlfeoiagemlbiaaGreatDoor
open Go.Den Go.Proofs Go.Extern Go.RowKit
variable [Msr]
noncomputable def fs2 : Func := Tryz.f138
noncomputable def crC (set : List UInt8) (sym : Nat) : Ctr := ⟨[.sstr (.v 0), .str set], 9 + 1, [], [short (.v 0), asciiF (.v 0)], .sstr (.app sym (.v 0) (.n 0) (.n 0)), [], []⟩
noncomputable def crS (set : List UInt8) (sym : Nat) : SRes := startS Tryz.prog call1 fs2 100000 (stpL [0]) (bodyOf fs2) (crC set sym) (clT set) []
noncomputable def crL (set : List UInt8) (sym : Nat) : Lp := ⟨0, srB (crS set sym), srK (crS set sym), ⟨[(0, .sstr (.v 0)), (1, .str set), (4, .str [])], [], 9 + 1⟩⟩
noncomputable def crN : SE := .bin .sub .i64 (tLen (.v 0)) (.n 1)
noncomputable def crF (b : Nat) : List Fact := [(.lt, .n 0, tLen (.v 0), true), (.eq, tLen (.v 0), .n 0, false), (.lt, crN, .n 0, false), (.lt, crN, tLen (.v 0), true), (.le, crN, tLen (.v 0), true), (.eq, tByte (.v 0) crN, .n b, true)]
noncomputable def crE : List Fact := [(.lt, .n 0, tLen (.v 0), false)]
noncomputable def crR (set : List UInt8) (sym : Nat) (F : List Fact) : SRes := roundS Tryz.prog call1 fs2.ntmps 100000 (stpL [0]) 0 (crL set sym) F
noncomputable def crChk (set : List UInt8) (sym : Nat) (p : UInt8 → Bool) (b : Nat) : Bool := bif p (UInt8.ofNat b) then chkAgain Tryz.prog 9 [(0, tSub (.v 0) (.n 0) crN)] [] (crL set sym).can 0 (crR set sym (crF b))
  else needsB Tryz.prog 9 fs2 (crC set sym) [] (crR set sym (crF b)) [.s (.app sym (.v 0) (.n 0) (.n 0)) (.v 0)]
theorem crD_ok : allBytes (crChk setD 24 isDec) 128 = true := by kernel_rfl
theorem crH_ok : allBytes (crChk setH 25 isHex) 128 = true := by kernel_rfl
noncomputable def crI (p : UInt8 → Bool) (_ : Nat) (ρ0 ρ : Rho) (n : Nat) : Prop := cutR p (ρ0 0).s = cutR p (ρ 0).s ∧ (ρ 0).s.length < 1000000 ∧ n = (ρ 0).s.length ∧ ascii (ρ 0).s = true
theorem cr_ctr {set : List UInt8} {sym : Nat} {p : UInt8 → Bool} (ht : enterD (crC set sym).args fs2.ntmps 0 .nil = some (clT set)) (hc : chkStop Tryz.prog 9 [(0, .v 0)] [] (crL set sym).can 0 (crS set sym) = true) (hl : ([crL set sym].all (lpB (crC set sym).nx)) = true)
    (hB : allBytes (crChk set sym p) 128 = true) (hend : needsB Tryz.prog 9 fs2 (crC set sym) [] (crR set sym crE) [.s (.app sym (.v 0) (.n 0) (.n 0)) (.v 0)] = true)
    (hsym : ∀ ρ : Rho, (SE.app sym (.v 0) (.n 0) (.n 0)).str ρ = cutR p (ρ 0).s) : CtrOK Tryz.prog 138 (crC set sym) := by
  refine ctr_loops (loops := [crL set sym]) (inv := crI p) (fuel := 100000) (stp := stpL [0]) gsz mixed (runD_ok static kn1_ok 20) Tryz.func138 (by kernel_rfl) (show fs2.body = some (bodyOf fs2) by kernel_rfl) (by kernel_rfl) ht hl ?_ ?_
  · intro ρ hF
    have h1 := short_of (hF _ (List.mem_cons_self))
    have h2 := ascii_of (hF _ (List.mem_cons_of_mem _ (List.mem_singleton.2 rfl)))
    exact ⟨[], fl_nil, .stop 0 (crL set sym) [(0, .v 0)] [] ((ρ 0).s.length) rfl (fun i m h => by cases h) rfl rfl hc rfl ⟨rfl, (by omega : (ρ 0).s.length < 1000000), rfl, h2⟩⟩
  · intro i lp hlp ρ0 ρ n hF hI
    cases i with
    | succ i => simp at hlp
    | zero =>
      simp at hlp; subst hlp
      obtain ⟨h1, h2, h3, h4⟩ := hI
      have hlen : (tLen (.v 0)).den ρ = ((ρ 0).s.length : Int) := rfl
      rcases List.eq_nil_or_concat (ρ 0).s with he | ⟨t, b, ht⟩
      · refine ⟨crE, fl_cons (ltN (by rw [hlen, den_n, he]; simp)) fl_nil, .fin [] _ (needsB_ok hend) fun x hx => ?_⟩
        rw [List.mem_singleton] at hx
        subst hx
        show (SE.app sym (.v 0) (.n 0) (.n 0)).str ρ0 = (ρ 0).s
        rw [hsym, h1, he]; rfl
      · rw [List.concat_eq_append] at ht
        have htl : (ρ 0).s.length = t.length + 1 := by rw [ht]; simp
        have hn : crN.den ρ = (t.length : Int) := by
          show IntKind.i64.wrap (((ρ 0).s.length : Int) - 1) = _
          rw [htl, wrap64 (by omega) (by omega)]; omega
        have hb128 : b.toNat < 128 := ascii_at h4 (by rw [ht]; simp)
        have hbyte : (tByte (.v 0) crN).den ρ = (b.toNat : Int) := by
          show ((((ρ 0).s[(crN.den ρ).toNat]?).getD 0).toNat : Int) = _
          rw [hn, ht]; simp
        have hk := allBytes_ok hB b.toNat hb128
        have hbb : UInt8.ofNat b.toNat = b := by simp
        unfold crChk at hk
        rw [hbb] at hk
        refine ⟨crF b.toNat, fl_cons (ltT (by rw [hlen, den_n]; omega)) (fl_cons (by show ((tLen (.v 0)).den ρ == 0) = false; rw [hlen, htl, beq_eq_false_iff_ne]; omega) (fl_cons (ltN (by rw [hn, den_n]; omega)) (fl_cons (ltT (by rw [hn, hlen]; omega)) (fl_cons (leT (by rw [hn, hlen]; omega)) (fl_cons (eqF_ok hbyte) fl_nil))))), ?_⟩
        cases hp : p b with
        | true =>
          rw [hp] at hk
          have hs : subρ [(0, tSub (.v 0) (.n 0) crN)] ρ 0 = dyS t := by
            show dyS (((ρ 0).s.take (crN.den ρ).toNat).drop (0 : Int).toNat) = _
            rw [hn, ht]; simp
          refine .again 0 n (crL set sym) _ [] t.length rfl rfl (by omega) hk rfl ?_
          unfold crI
          rw [hs]
          refine ⟨?_, by show t.length < _; omega, rfl, ?_⟩
          · rw [h1, ht, cutR_snoc, hp]; rfl
          · rw [ht] at h4
            unfold ascii at h4 ⊢
            rw [List.all_append] at h4
            simp only [Bool.and_eq_true] at h4
            exact h4.1
        | false =>
          rw [hp] at hk
          refine .fin [] _ (needsB_ok hk) fun x hx => ?_
          rw [List.mem_singleton] at hx
          subst hx
          show (SE.app sym (.v 0) (.n 0) (.n 0)).str ρ0 = (ρ 0).s
          rw [hsym, h1, ht, cutR_snoc, hp]; rfl
theorem crD : CtrOK Tryz.prog 138 (crC setD 24) := cr_ctr (p := isDec) (by kernel_rfl) (by kernel_rfl) (by kernel_rfl) crD_ok (by kernel_rfl) (fun ρ => rfl)
theorem crH : CtrOK Tryz.prog 138 (crC setH 25) := cr_ctr (p := isHex) (by kernel_rfl) (by kernel_rfl) (by kernel_rfl) crH_ok (by kernel_rfl) (fun ρ => rfl)
end Go.Proofs.YtlfeoiagemlbiaaGreatDoor

/- A number out of its digits. -/
set_option linter.unusedVariables false
set_option linter.unusedSectionVars false
set_option maxRecDepth 100000
noncomputable section
namespace Go.Proofs.YtlfeoiagemlbiaaGreatDoor
open Go.Den Go.Proofs Go.Extern Go.RowKit
variable [Msr]
noncomputable def fs3 : Func := Tryz.f182
/-- base, greatest before the last step, symbols of 'all are digits', 'the value' -/
structure Bs where
  base : Nat
  cut : Nat
  all : Nat
  val : Nat
noncomputable def bsD : Bs := ⟨10, 1844674407370955162, 22, 26⟩
noncomputable def bsH : Bs := ⟨16, 1152921504606846976, 23, 27⟩
noncomputable def puVal (B : Bs) (t : SE) : SE := .app B.val t (.n 0) (.n 0)
noncomputable def puC (B : Bs) (ov : Bool) : Ctr := ⟨[.sstr (.v 0), .int .i64 (Int.ofNat B.base), .int .i64 64], 9 + 1, [], [short (.v 0), (.seq, .v 0, .lit [], false), (.eq, .app B.all (.v 0) (.n 0) (.n 0), .n 1, true), (.lt, puVal B (.v 0), .n 18446744073709551616, !ov)],
  bif ov then .tuple [.int .u64 18446744073709551615, .iface 226 (.int .i64 1)] else .tuple [.sint .u64 (puVal B (.v 0)), .nilIface], [], []⟩
noncomputable def puT (B : Bs) : Tm := putLT [(0, .sstr (.v 0)), (1, .int .i64 (Int.ofNat B.base)), (2, .int .i64 64)]
noncomputable def puS (B : Bs) (ov : Bool) : SRes := startS Tryz.prog call1 fs3 100000 (stpL [3]) (bodyOf fs3) (puC B ov) (puT B) (puC B ov).facts
noncomputable def puL (B : Bs) : Lp := ⟨3, srB (puS B false), srK (puS B false), ⟨[(0, .sstr (.v 0)), (1, .int .i64 (Int.ofNat B.base)), (8, .bool false), (9, .sstr (.v 0)), (10, .int .u64 (Int.ofNat B.cut)), (11, .int .u64 18446744073709551615), (12, .bool false), (13, .sint .u64 (.v 2)), (99, .sslice (9 + 1) 1 (.n 0) (tLen (.v 0)) (.n 9223372036854775808)), (100, .sint .i64 (tLen (.v 0))), (101, .sint .i64 (.v 1))],
  [(9 + 1, .rows 5 1 [.int .u8 0] (tBytes (.v 0)) 1)], 9 + 2⟩⟩
noncomputable def puCell : SE := tCell (tBytes (.v 0)) (.v 1) 0
noncomputable def puD (b : Nat) : SE := bif Nat.ble b 57 then .wrap .u64 (.bin .sub .u8 puCell (.n 48)) else .wrap .u64 (.bin .add .u8 (.bin .sub .u8 (.bin .or .u8 puCell (.n 32)) (.n 97)) (.n 10))
noncomputable def puMul (B : Bs) : SE := .bin .mul .u64 (.v 2) (.n (Int.ofNat B.base))
noncomputable def puAdd (B : Bs) (b : Nat) : SE := .bin .add .u64 (puMul B) (puD b)
noncomputable def puF (b : Nat) : List Fact := [(.lt, .v 1, tLen (.v 0), true), (.lt, .v 1, .n 0, false), (.lt, .v 1, tRows (tBytes (.v 0)), true), (.eq, puCell, .n (Int.ofNat b), true)]
noncomputable def puOk (B : Bs) (b : Nat) : List Fact := puF b ++ [(.le, .n (Int.ofNat B.cut), .v 2, false), (.lt, puAdd B b, puMul B, false), (.lt, .n 18446744073709551615, puAdd B b, false)]
noncomputable def puO1 (B : Bs) (b : Nat) : List Fact := puF b ++ [(.le, .n (Int.ofNat B.cut), .v 2, true)]
noncomputable def puO2 (B : Bs) (b : Nat) : List Fact := puF b ++ [(.le, .n (Int.ofNat B.cut), .v 2, false), (.lt, puAdd B b, puMul B, true)]
noncomputable def puE : List Fact := [(.lt, .v 1, tLen (.v 0), false)]
noncomputable def puR (B : Bs) (F : List Fact) : SRes := roundS Tryz.prog call1 fs3.ntmps 100000 (stpL [3]) 0 (puL B) F
noncomputable def puChk (B : Bs) (p : UInt8 → Bool) (b : Nat) : Bool := bif p (UInt8.ofNat b) then
  (chkAgain Tryz.prog 9 [(0, .v 0), (1, .bin .add .i64 (.v 1) (.n 1)), (2, puAdd B b)] [] (puL B).can 0 (puR B (puOk B b)) &&
   (needsB Tryz.prog 9 fs3 (puC B true) [] (puR B (puO1 B b)) [] && needsB Tryz.prog 9 fs3 (puC B true) [] (puR B (puO2 B b)) [])) &&
  eqD (valT [(.eq, puCell, .n (Int.ofNat b), true)] (puD b)) (digV (UInt8.ofNat b)) B.base
  else true
where eqD (x : Option Int) (d : Nat) (base : Nat) : Bool := match x with
  | some (.ofNat y) => Nat.beq y d && Nat.blt d base
  | _ => false
theorem puD_ok : allBytes (puChk bsD isDec) 256 = true := by kernel_rfl
theorem puH_ok : allBytes (puChk bsH isHex) 256 = true := by kernel_rfl

noncomputable def puI (B : Bs) (p : UInt8 → Bool) (ov : Bool) (_ : Nat) (ρ0 ρ : Rho) (n : Nat) : Prop := ∃ j : Nat, (ρ 0) = (ρ0 0) ∧ (ρ 1).i = (j : Int) ∧ j ≤ (ρ0 0).s.length ∧ (ρ 2).i = (valF B.base ((ρ0 0).s.take j) : Int) ∧ valF B.base ((ρ0 0).s.take j) < 18446744073709551616 ∧ n = (ρ0 0).s.length - j ∧ (ρ0 0).s.length < 1000000 ∧ (ρ0 0).s.all p = true ∧ (ov = true → 18446744073709551616 ≤ valF B.base (ρ0 0).s) ∧ (ov = false → valF B.base (ρ0 0).s < 18446744073709551616)
theorem pu_ctr {B : Bs} {p : UInt8 → Bool} (ov : Bool) (ht : enterD (puC B ov).args fs3.ntmps 0 .nil = some (puT B)) (hc : chkStop Tryz.prog 9 [(0, .v 0), (1, .n 0), (2, .n 0)] [] (puL B).can 3 (puS B ov) = true) (hsb : srB (puS B ov) = (puL B).b) (hsk : srK (puS B ov) = (puL B).K)
    (hl : ([puL B].all (lpB (puC B ov).nx)) = true) (hB : allBytes (puChk B p) 256 = true) (hend : needsB Tryz.prog 9 fs3 (puC B false) [] (puR B puE) [.i (puVal B (.v 0)) (.v 2)] = true)
    (hall : ∀ ρ : Rho, (SE.app B.all (.v 0) (.n 0) (.n 0)).den ρ = b01 ((ρ 0).s.all p)) (hval : ∀ ρ : Rho, (puVal B (.v 0)).den ρ = (valF B.base (ρ 0).s : Int))
    (hb1 : 1 ≤ B.base) (hb2 : B.base ≤ 16) (hcut1 : (B.cut - 1) * B.base < 18446744073709551616) (hcut2 : 18446744073709551616 ≤ B.cut * B.base) : CtrOK Tryz.prog 182 (puC B ov) := by
  refine ctr_loops (loops := [puL B]) (inv := puI B p ov) (fuel := 100000) (stp := stpL [3]) gsz mixed (runD_ok static kn1_ok 20) Tryz.func182 (by kernel_rfl) (show fs3.body = some (bodyOf fs3) by kernel_rfl) (by kernel_rfl) ht hl ?_ ?_
  · intro ρ hF
    have h1 := short_of (hF _ (List.mem_cons_self))
    have h3 : ((SE.app B.all (.v 0) (.n 0) (.n 0)).den ρ == 1) = true := hF _ (List.mem_cons_of_mem _ (List.mem_cons_of_mem _ (List.mem_cons_self)))
    have h4 : decide ((puVal B (.v 0)).den ρ < 18446744073709551616) = !ov := hF _ (List.mem_cons_of_mem _ (List.mem_cons_of_mem _ (List.mem_cons_of_mem _ (List.mem_cons_self))))
    rw [hval] at h4
    rw [hall] at h3
    refine ⟨(puC B ov).facts, hF, .stop 0 (puL B) [(0, .v 0), (1, .n 0), (2, .n 0)] [] ((ρ 0).s.length) rfl (fun i m h => by cases h) hsb hsk hc rfl ?_⟩
    refine ⟨0, rfl, rfl, Nat.zero_le _, rfl, by simp [valF], by simp, by omega, ?_, fun ho => ?_, fun ho => ?_⟩
    · cases ha : (ρ 0).s.all p with
      | true => rfl
      | false => rw [ha] at h3; exact absurd h3 (by decide)
    · rw [ho] at h4; simp at h4; omega
    · rw [ho] at h4; simp at h4; omega
  · intro i lp hlp ρ0 ρ n hF hI
    cases i with
    | succ i => simp at hlp
    | zero =>
      simp at hlp; subst hlp
      obtain ⟨j, h1, h2, h3, h4, h5, h6, h7, h8, h9, h10⟩ := hI
      have hlen : (tLen (.v 0)).den ρ = ((ρ0 0).s.length : Int) := by rw [← h1]; rfl
      have hrows : (tRows (tBytes (.v 0))).den ρ = ((ρ0 0).s.length : Int) := by
        show ((((ρ 0).s.map fun b => [((b.toNat : Int), ([] : List UInt8))]).length : Nat) : Int) = _
        rw [List.length_map, h1]
      have hj : (SE.v 1).den ρ = (j : Int) := h2
      have hv2 : (SE.v 2).den ρ = (valF B.base ((ρ0 0).s.take j) : Int) := h4
      generalize hN : valF B.base ((ρ0 0).s.take j) = N at *
      by_cases hlt : j < (ρ0 0).s.length
      · obtain ⟨b, hb⟩ : ∃ b, b = (ρ0 0).s[j] := ⟨_, rfl⟩
        have htake : (ρ0 0).s.take (j + 1) = (ρ0 0).s.take j ++ [b] := by rw [hb]; simp
        have hp : p b = true := List.all_eq_true.1 h8 b (by rw [hb]; exact List.getElem_mem hlt)
        have hcell : puCell.den ρ = (b.toNat : Int) := by
          show (cellAt ((ρ 0).s.map fun b => [((b.toNat : Int), ([] : List UInt8))]) ((ρ 1).i).toNat 0).1 = _
          unfold cellAt
          rw [h1, h2, List.getElem?_map, Int.toNat_natCast, List.getElem?_eq_getElem hlt, hb]
          rfl
        have hk := allBytes_ok hB b.toNat (UInt8.toNat_lt b)
        have hbb : UInt8.ofNat b.toNat = b := by simp
        unfold puChk at hk
        rw [hbb, hp] at hk
        simp only [cond_true, Bool.and_eq_true] at hk
        obtain ⟨⟨k1, k2, k3⟩, k4⟩ := hk
        have hdig : (puD b.toNat).den ρ = (digV b : Int) ∧ digV b < B.base := by
          unfold puChk.eqD at k4
          split at k4
          · rename_i y hy
            simp only [Bool.and_eq_true] at k4
            have e1 := Nat.eq_of_beq_eq_true k4.1
            have e2 : digV b < B.base := by simpa [Nat.blt_eq] using k4.2
            have := valT_ok (ρ := ρ) (F := [(.eq, puCell, .n (Int.ofNat b.toNat), true)]) (fl_cons (eqF_ok hcell) fl_nil) hy
            rw [this, e1]; exact ⟨rfl, e2⟩
          · cases k4
        obtain ⟨hd1, hd2⟩ := hdig
        have hFb : ∀ x ∈ puF b.toNat, x.holds ρ := fl_cons (ltT (by rw [hj, hlen]; omega)) (fl_cons (ltN (by rw [hj, den_n]; omega)) (fl_cons (ltT (by rw [hj, hrows]; omega)) (fl_cons (eqF_ok hcell) fl_nil)))
        have hval1 : valF B.base ((ρ0 0).s.take (j + 1)) = N * B.base + digV b := by rw [htake, valF_snoc, hN]
        have hmono : N * B.base + digV b ≤ valF B.base (ρ0 0).s := by
          rw [← hval1]
          have := valF_mono hb1 ((ρ0 0).s.take (j + 1)) ((ρ0 0).s.drop (j + 1))
          rwa [List.take_append_drop] at this
        by_cases hcut : B.cut ≤ N
        · -- too great already
          have hbig : 18446744073709551616 ≤ valF B.base (ρ0 0).s := by
            have := Nat.mul_le_mul_right B.base hcut
            omega
          have hov : ov = true := by
            cases ov with
            | true => rfl
            | false => have := h10 rfl; omega
          subst hov
          exact ⟨puO1 B b.toNat, fl_app hFb (fl_cons (leT (by rw [hv2, den_n]; exact Int.ofNat_le.2 hcut)) fl_nil), .fin [] _ (needsB_ok k2) (fun x hx => by cases hx)⟩
        · have hmulN : N * B.base < 18446744073709551616 := by
            have : N * B.base ≤ (B.cut - 1) * B.base := Nat.mul_le_mul_right _ (by omega)
            omega
          have hmul : (puMul B).den ρ = ((N * B.base : Nat) : Int) := by
            show IntKind.u64.wrap ((SE.v 2).den ρ * (Int.ofNat B.base)) = _
            rw [hv2]
            have : (N : Int) * Int.ofNat B.base = ((N * B.base : Nat) : Int) := by simp
            rw [this, wrapU (by omega) (by omega)]
          have hadd : (puAdd B b.toNat).den ρ = IntKind.u64.wrap ((N * B.base + digV b : Nat) : Int) := by
            show IntKind.u64.wrap ((puMul B).den ρ + (puD b.toNat).den ρ) = _
            rw [hmul, hd1]; simp
          by_cases hfit : N * B.base + digV b < 18446744073709551616
          · have hadd' : (puAdd B b.toNat).den ρ = ((N * B.base + digV b : Nat) : Int) := by rw [hadd, wrapU (by omega) (by omega)]
            refine ⟨puOk B b.toNat, fl_app hFb (fl_cons (leN (by rw [hv2, den_n]; exact Int.ofNat_lt.2 (by omega))) (fl_cons (ltN (by rw [hmul, hadd']; omega)) (fl_cons (ltN (by rw [hadd', den_n]; omega)) fl_nil))), .again 0 n (puL B) _ [] ((ρ0 0).s.length - (j + 1)) rfl rfl (by omega) k1 rfl ⟨j + 1, h1, ?_, by omega, ?_, by rw [hval1]; exact hfit, rfl, h7, h8, h9, h10⟩⟩
            · show IntKind.i64.wrap ((ρ 1).i + 1) = _
              rw [h2, wrap64 (by omega) (by omega)]; simp
            · show (puAdd B b.toNat).den ρ = _
              rw [hadd', hval1]
          · have hov : ov = true := by
              cases ov with
              | true => rfl
              | false => have := h10 rfl; omega
            subst hov
            have hadd' : (puAdd B b.toNat).den ρ = ((N * B.base + digV b : Nat) : Int) - 18446744073709551616 := by rw [hadd, wrapU2 (by omega) (by omega)]
            exact ⟨puO2 B b.toNat, fl_app hFb (fl_cons (leN (by rw [hv2, den_n]; exact Int.ofNat_lt.2 (by omega))) (fl_cons (ltT (by rw [hmul, hadd']; omega)) fl_nil)), .fin [] _ (needsB_ok k3) (fun x hx => by cases hx)⟩
      · have hje : j = (ρ0 0).s.length := by omega
        have hN' : N = valF B.base (ρ0 0).s := by rw [← hN, hje, List.take_length]
        have hov : ov = false := by
          cases ov with
          | false => rfl
          | true => have := h9 rfl; omega
        subst hov
        refine ⟨puE, fl_cons (ltN (by rw [hj, hlen]; omega)) fl_nil, .fin [] _ (needsB_ok hend) fun x hx => ?_⟩
        rw [List.mem_singleton] at hx
        subst hx
        show (puVal B (.v 0)).den ρ0 = (SE.v 2).den ρ
        rw [hval, hv2, hN']
theorem puDf : CtrOK Tryz.prog 182 (puC bsD false) := pu_ctr (p := isDec) false (by kernel_rfl) (by kernel_rfl) rfl rfl (by kernel_rfl) puD_ok (by kernel_rfl) (fun ρ => rfl) (fun ρ => rfl) (by decide) (by decide) (by decide) (by decide)
theorem puDt : CtrOK Tryz.prog 182 (puC bsD true) := pu_ctr (p := isDec) true (by kernel_rfl) (by kernel_rfl) (by kernel_rfl) (by kernel_rfl) (by kernel_rfl) puD_ok (by kernel_rfl) (fun ρ => rfl) (fun ρ => rfl) (by decide) (by decide) (by decide) (by decide)
theorem puHf : CtrOK Tryz.prog 182 (puC bsH false) := pu_ctr (p := isHex) false (by kernel_rfl) (by kernel_rfl) rfl rfl (by kernel_rfl) puH_ok (by kernel_rfl) (fun ρ => rfl) (fun ρ => rfl) (by decide) (by decide) (by decide) (by decide)
theorem puHt : CtrOK Tryz.prog 182 (puC bsH true) := pu_ctr (p := isHex) true (by kernel_rfl) (by kernel_rfl) (by kernel_rfl) (by kernel_rfl) (by kernel_rfl) puH_ok (by kernel_rfl) (fun ρ => rfl) (fun ρ => rfl) (by decide) (by decide) (by decide) (by decide)
end Go.Proofs.YtlfeoiagemlbiaaGreatDoor

/- What is known of calls: texts without digits, numbers. -/
set_option linter.unusedVariables false
set_option linter.unusedSectionVars false
set_option maxRecDepth 100000
noncomputable section
namespace Go.Proofs.YtlfeoiagemlbiaaGreatDoor
open Go.Den Go.Proofs Go.Extern Go.RowKit
variable [Msr]
noncomputable def allF (all : Nat) (b : Bool) : Fact := (.eq, .app all (.v 0) (.n 0) (.n 0), .n 1, b)
noncomputable def clA (set : List UInt8) (all : Nat) : Ctr := ⟨[.sstr (.v 0), .str set], 9 + 1, [], [short (.v 0), asciiF (.v 0), allF all true], .str [], [], []⟩
noncomputable def clB (set : List UInt8) (sym all : Nat) : Ctr := ⟨[.sstr (.v 0), .str set], 9 + 1, [], [short (.v 0), asciiF (.v 0), allF all false], .sstr (.app sym (.v 0) (.n 0) (.n 0)), [], []⟩
theorem dropWhile_all {p : UInt8 → Bool} : ∀ {s : List UInt8}, s.all p = true → s.dropWhile p = []
  | [], _ => rfl
  | c :: s, h => by
    simp only [List.all_cons, Bool.and_eq_true] at h
    rw [List.dropWhile_cons, h.1]; simpa using dropWhile_all h.2
theorem clA_ok {set : List UInt8} {sym all : Nat} {p : UInt8 → Bool} (h : CtrOK Tryz.prog 139 (clC set sym)) (hall : ∀ ρ : Rho, (SE.app all (.v 0) (.n 0) (.n 0)).den ρ = b01 ((ρ 0).s.all p)) (hsym : ∀ ρ : Rho, (SE.app sym (.v 0) (.n 0) (.n 0)).str ρ = (ρ 0).s.dropWhile p) : CtrOK Tryz.prog 139 (clA set all) := by
  refine CtrOK.withV h (fun ρ hF => fl_cons (hF _ (by simp)) (fl_cons (hF _ (by simp)) fl_nil)) (fun e hF => ?_)
  have h1 : ((SE.app all (.v 0) (.n 0) (.n 0)).den e.ρ == 1) = true := hF (allF all true) (by simp)
  rw [hall] at h1
  have h2 : (e.ρ 0).s.all p = true := by
    cases ha : (e.ρ 0).s.all p with
    | true => rfl
    | false => rw [ha] at h1; exact absurd h1 (by decide)
  show some (Value.string ⟨((SE.app sym (.v 0) (.n 0) (.n 0)).str e.ρ).toArray⟩) = some (Value.string ⟨[].toArray⟩)
  rw [hsym, dropWhile_all h2]
theorem clB_ok {set : List UInt8} {sym all : Nat} (h : CtrOK Tryz.prog 139 (clC set sym)) : CtrOK Tryz.prog 139 (clB set sym all) :=
  CtrOK.withV h (fun ρ hF => fl_cons (hF _ (by simp)) (fl_cons (hF _ (by simp)) fl_nil)) (fun e hF => rfl)
theorem two {P : Program} {f : FuncId} {a b : Ctr} (ha : CtrOK P f a) (hb : CtrOK P f b) : ∀ x ∈ [a, b], CtrOK P f x := fun x hx => by
  simp only [List.mem_cons, List.mem_nil_iff, or_false] at hx
  rcases hx with rfl | rfl
  · exact ha
  · exact hb
theorem one1 {P : Program} {f : FuncId} {a : Ctr} (ha : CtrOK P f a) : ∀ x ∈ [a], CtrOK P f x := fun x hx => by
  rw [List.mem_singleton] at hx; subst hx; exact ha
noncomputable def gCl : Gn := gOr (gC Tryz.prog 9 (clA setD 22) [clB setD 20 22]) (gC Tryz.prog 9 (clA setH 23) [clB setH 21 23])
theorem gCl_ok : GoodAt Tryz.prog 139 gCl := good_or (good_C gsz (by kernel_rfl) (two (clA_ok (p := isDec) clD (fun ρ => rfl) (fun ρ => rfl)) (clB_ok clD))) (good_C gsz (by kernel_rfl) (two (clA_ok (p := isHex) clH (fun ρ => rfl) (fun ρ => rfl)) (clB_ok clH)))
noncomputable def gCr : Gn := gOr (gC Tryz.prog 9 (crC setD 24) []) (gC Tryz.prog 9 (crC setH 25) [])
theorem gCr_ok : GoodAt Tryz.prog 138 gCr := good_or (good_C gsz (by kernel_rfl) (one1 crD)) (good_C gsz (by kernel_rfl) (one1 crH))
noncomputable def gPu : Gn := gOr (gC Tryz.prog 9 (puC bsD false) [puC bsD true]) (gC Tryz.prog 9 (puC bsH false) [puC bsH true])
theorem gPu_ok : GoodAt Tryz.prog 182 gPu := good_or (good_C gsz (by kernel_rfl) (two puDf puDt)) (good_C gsz (by kernel_rfl) (two puHf puHt))
noncomputable def kn2 : Known := knCons 139 (gRun Tryz.prog kn1 20 139 gCl) (knCons 138 (gRun Tryz.prog kn1 20 138 gCr) (knCons 182 (gRun Tryz.prog kn1 20 182 gPu) kn1))
theorem kn2_ok : KnownOK Tryz.prog kn2 := knCons_ok (good_runC static kn1_ok 20 gCl_ok) (knCons_ok (good_runC static kn1_ok 20 gCr_ok) (knCons_ok (good_runC static kn1_ok 20 gPu_ok) kn1_ok))
noncomputable def call2 : CallFn := runD Tryz.prog kn2 20
end Go.Proofs.YtlfeoiagemlbiaaGreatDoor
