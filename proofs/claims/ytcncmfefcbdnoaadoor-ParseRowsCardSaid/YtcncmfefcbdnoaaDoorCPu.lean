/- A number out of its digits. -/
import Derived.Test.YtcncmfefcbdnoaaDoorCCr
set_option linter.unusedVariables false
set_option linter.unusedSectionVars false
set_option maxRecDepth 100000
noncomputable section
namespace Go.Proofs.YtcncmfefcbdnoaaDoor
open Go.Den Go.Proofs Go.Extern Go.RowKit
variable [Msr]
noncomputable def fs3 : Func := Tryd.f68
/-- base, greatest before the last step, symbols of 'all are digits', 'the value' -/
structure Bs where
  base : Nat
  cut : Nat
  all : Nat
  val : Nat
noncomputable def bsD : Bs := ⟨10, 1844674407370955162, 22, 26⟩
noncomputable def bsH : Bs := ⟨16, 1152921504606846976, 23, 27⟩
noncomputable def puVal (B : Bs) (t : SE) : SE := .app B.val t (.n 0) (.n 0)
noncomputable def puC (B : Bs) (ov : Bool) : Ctr := ⟨[.sstr (.v 0), .int .i64 (Int.ofNat B.base), .int .i64 64], 9 + 1, [], [short (.v 0), (.seq, .v 0, .lit [], false), (.eq, .app B.all (.v 0) (.n 0) (.n 0), .n 1, true), (.lt, puVal B (.v 0), .n 18446744073709551616, !ov)],
  bif ov then .tuple [.int .u64 18446744073709551615, .iface 107 (.int .i64 1)] else .tuple [.sint .u64 (puVal B (.v 0)), .nilIface], [], []⟩
noncomputable def puT (B : Bs) : Tm := putLT [(0, .sstr (.v 0)), (1, .int .i64 (Int.ofNat B.base)), (2, .int .i64 64)]
noncomputable def puS (B : Bs) (ov : Bool) : SRes := startS Tryd.prog call1 fs3 100000 (stpL [3]) (bodyOf fs3) (puC B ov) (puT B) (puC B ov).facts
noncomputable def puL (B : Bs) : Lp := ⟨3, srB (puS B false), srK (puS B false), ⟨[(0, .sstr (.v 0)), (1, .int .i64 (Int.ofNat B.base)), (8, .bool false), (9, .sstr (.v 0)), (10, .int .u64 (Int.ofNat B.cut)), (11, .int .u64 18446744073709551615), (12, .bool false), (13, .sint .u64 (.v 2)), (99, .sslice (9 + 1) 1 (.n 0) (tLen (.v 0)) (.n 9223372036854775808)), (100, .sint .i64 (tLen (.v 0))), (101, .sint .i64 (.v 1))],
  [(9 + 1, .rows 5 1 [.int .u8 0] (tBytes (.v 0)) 1)], 9 + 2⟩⟩
noncomputable def puCell : SE := tCell (tBytes (.v 0)) (.v 1) 0
noncomputable def puD (b : Nat) : SE := bif Nat.ble b 57 then .wrap .u64 (.bin .sub .u8 puCell (.n 48)) else .wrap .u64 (.bin .add .u8 (.bin .sub .u8 (.bin .or .u8 puCell (.n 32)) (.n 97)) (.n 10))
noncomputable def puMul (B : Bs) : SE := .bin .mul .u64 (.v 2) (.n (Int.ofNat B.base))
noncomputable def puAdd (B : Bs) (b : Nat) : SE := .bin .add .u64 (puMul B) (puD b)
noncomputable def puF (b : Nat) : List Fact := [(.lt, .v 1, tLen (.v 0), true), (.lt, .v 1, .n 0, false), (.lt, .v 1, tRows (tBytes (.v 0)), true), (.eq, puCell, .n (Int.ofNat b), true)]
noncomputable def puOk (B : Bs) (b : Nat) : List Fact := puF b ++ [(.le, .n (Int.ofNat B.cut), .v 2, false), (.lt, puAdd B b, puMul B, false), (.lt, .n 18446744073709551615, puAdd B b, false)]
noncomputable def puO1 (B : Bs) (b : Nat) : List Fact := puF b ++ [(.le, .n (Int.ofNat B.cut), .v 2, true)]
noncomputable def puO2 (B : Bs) (b : Nat) : List Fact := puF b ++ [(.le, .n (Int.ofNat B.cut), .v 2, false), (.lt, puAdd B b, puMul B, true)]
noncomputable def puE : List Fact := [(.lt, .v 1, tLen (.v 0), false)]
noncomputable def puR (B : Bs) (F : List Fact) : SRes := roundS Tryd.prog call1 fs3.ntmps 100000 (stpL [3]) 0 (puL B) F
noncomputable def puChk (B : Bs) (p : UInt8 → Bool) (b : Nat) : Bool := bif p (UInt8.ofNat b) then
  (chkAgain Tryd.prog 9 [(0, .v 0), (1, .bin .add .i64 (.v 1) (.n 1)), (2, puAdd B b)] [] (puL B).can 0 (puR B (puOk B b)) &&
   (needsB Tryd.prog 9 fs3 (puC B true) [] (puR B (puO1 B b)) [] && needsB Tryd.prog 9 fs3 (puC B true) [] (puR B (puO2 B b)) [])) &&
  eqD (valT [(.eq, puCell, .n (Int.ofNat b), true)] (puD b)) (digV (UInt8.ofNat b)) B.base
  else true
where eqD (x : Option Int) (d : Nat) (base : Nat) : Bool := match x with
  | some (.ofNat y) => Nat.beq y d && Nat.blt d base
  | _ => false
theorem puD_ok : allBytes (puChk bsD isDec) 256 = true := by kernel_rfl
theorem puH_ok : allBytes (puChk bsH isHex) 256 = true := by kernel_rfl

noncomputable def puI (B : Bs) (p : UInt8 → Bool) (ov : Bool) (_ : Nat) (ρ0 ρ : Rho) (n : Nat) : Prop := ∃ j : Nat, (ρ 0) = (ρ0 0) ∧ (ρ 1).i = (j : Int) ∧ j ≤ (ρ0 0).s.length ∧ (ρ 2).i = (valF B.base ((ρ0 0).s.take j) : Int) ∧ valF B.base ((ρ0 0).s.take j) < 18446744073709551616 ∧ n = (ρ0 0).s.length - j ∧ (ρ0 0).s.length < 1000000 ∧ (ρ0 0).s.all p = true ∧ (ov = true → 18446744073709551616 ≤ valF B.base (ρ0 0).s) ∧ (ov = false → valF B.base (ρ0 0).s < 18446744073709551616)
theorem pu_ctr {B : Bs} {p : UInt8 → Bool} (ov : Bool) (ht : enterD (puC B ov).args fs3.ntmps 0 .nil = some (puT B)) (hc : chkStop Tryd.prog 9 [(0, .v 0), (1, .n 0), (2, .n 0)] [] (puL B).can 3 (puS B ov) = true) (hsb : srB (puS B ov) = (puL B).b) (hsk : srK (puS B ov) = (puL B).K)
    (hl : ([puL B].all (lpB (puC B ov).nx)) = true) (hB : allBytes (puChk B p) 256 = true) (hend : needsB Tryd.prog 9 fs3 (puC B false) [] (puR B puE) [.i (puVal B (.v 0)) (.v 2)] = true)
    (hall : ∀ ρ : Rho, (SE.app B.all (.v 0) (.n 0) (.n 0)).den ρ = b01 ((ρ 0).s.all p)) (hval : ∀ ρ : Rho, (puVal B (.v 0)).den ρ = (valF B.base (ρ 0).s : Int))
    (hb1 : 1 ≤ B.base) (hb2 : B.base ≤ 16) (hcut1 : (B.cut - 1) * B.base < 18446744073709551616) (hcut2 : 18446744073709551616 ≤ B.cut * B.base) : CtrOK Tryd.prog 68 (puC B ov) := by
  refine ctr_loops (loops := [puL B]) (inv := puI B p ov) (fuel := 100000) (stp := stpL [3]) gsz mixed (runD_ok static kn1_ok 20) Tryd.func68 (by kernel_rfl) (show fs3.body = some (bodyOf fs3) by kernel_rfl) (by kernel_rfl) ht hl ?_ ?_
  · intro ρ hF
    have h1 := short_of (hF _ (List.mem_cons_self))
    have h3 : ((SE.app B.all (.v 0) (.n 0) (.n 0)).den ρ == 1) = true := hF _ (List.mem_cons_of_mem _ (List.mem_cons_of_mem _ (List.mem_cons_self)))
    have h4 : decide ((puVal B (.v 0)).den ρ < 18446744073709551616) = !ov := hF _ (List.mem_cons_of_mem _ (List.mem_cons_of_mem _ (List.mem_cons_of_mem _ (List.mem_cons_self))))
    rw [hval] at h4
    rw [hall] at h3
    refine ⟨(puC B ov).facts, hF, .stop 0 (puL B) [(0, .v 0), (1, .n 0), (2, .n 0)] [] ((ρ 0).s.length) rfl (fun i m h => by cases h) hsb hsk hc rfl ?_⟩
    refine ⟨0, rfl, rfl, Nat.zero_le _, rfl, by simp [valF], by simp, by omega, ?_, fun ho => ?_, fun ho => ?_⟩
    · cases ha : (ρ 0).s.all p with
      | true => rfl
      | false => rw [ha] at h3; exact absurd h3 (by decide)
    · rw [ho] at h4; simp at h4; omega
    · rw [ho] at h4; simp at h4; omega
  · intro i lp hlp ρ0 ρ n hF hI
    cases i with
    | succ i => simp at hlp
    | zero =>
      simp at hlp; subst hlp
      obtain ⟨j, h1, h2, h3, h4, h5, h6, h7, h8, h9, h10⟩ := hI
      have hlen : (tLen (.v 0)).den ρ = ((ρ0 0).s.length : Int) := by rw [← h1]; rfl
      have hrows : (tRows (tBytes (.v 0))).den ρ = ((ρ0 0).s.length : Int) := by
        show ((((ρ 0).s.map fun b => [((b.toNat : Int), ([] : List UInt8))]).length : Nat) : Int) = _
        rw [List.length_map, h1]
      have hj : (SE.v 1).den ρ = (j : Int) := h2
      have hv2 : (SE.v 2).den ρ = (valF B.base ((ρ0 0).s.take j) : Int) := h4
      generalize hN : valF B.base ((ρ0 0).s.take j) = N at *
      by_cases hlt : j < (ρ0 0).s.length
      · obtain ⟨b, hb⟩ : ∃ b, b = (ρ0 0).s[j] := ⟨_, rfl⟩
        have htake : (ρ0 0).s.take (j + 1) = (ρ0 0).s.take j ++ [b] := by rw [hb]; simp
        have hp : p b = true := List.all_eq_true.1 h8 b (by rw [hb]; exact List.getElem_mem hlt)
        have hcell : puCell.den ρ = (b.toNat : Int) := by
          show (cellAt ((ρ 0).s.map fun b => [((b.toNat : Int), ([] : List UInt8))]) ((ρ 1).i).toNat 0).1 = _
          unfold cellAt
          rw [h1, h2, List.getElem?_map, Int.toNat_natCast, List.getElem?_eq_getElem hlt, hb]
          rfl
        have hk := allBytes_ok hB b.toNat (UInt8.toNat_lt b)
        have hbb : UInt8.ofNat b.toNat = b := by simp
        unfold puChk at hk
        rw [hbb, hp] at hk
        simp only [cond_true, Bool.and_eq_true] at hk
        obtain ⟨⟨k1, k2, k3⟩, k4⟩ := hk
        have hdig : (puD b.toNat).den ρ = (digV b : Int) ∧ digV b < B.base := by
          unfold puChk.eqD at k4
          split at k4
          · rename_i y hy
            simp only [Bool.and_eq_true] at k4
            have e1 := Nat.eq_of_beq_eq_true k4.1
            have e2 : digV b < B.base := by simpa [Nat.blt_eq] using k4.2
            have := valT_ok (ρ := ρ) (F := [(.eq, puCell, .n (Int.ofNat b.toNat), true)]) (fl_cons (eqF_ok hcell) fl_nil) hy
            rw [this, e1]; exact ⟨rfl, e2⟩
          · cases k4
        obtain ⟨hd1, hd2⟩ := hdig
        have hFb : ∀ x ∈ puF b.toNat, x.holds ρ := fl_cons (ltT (by rw [hj, hlen]; omega)) (fl_cons (ltN (by rw [hj, den_n]; omega)) (fl_cons (ltT (by rw [hj, hrows]; omega)) (fl_cons (eqF_ok hcell) fl_nil)))
        have hval1 : valF B.base ((ρ0 0).s.take (j + 1)) = N * B.base + digV b := by rw [htake, valF_snoc, hN]
        have hmono : N * B.base + digV b ≤ valF B.base (ρ0 0).s := by
          rw [← hval1]
          have := valF_mono hb1 ((ρ0 0).s.take (j + 1)) ((ρ0 0).s.drop (j + 1))
          rwa [List.take_append_drop] at this
        by_cases hcut : B.cut ≤ N
        · -- too great already
          have hbig : 18446744073709551616 ≤ valF B.base (ρ0 0).s := by
            have := Nat.mul_le_mul_right B.base hcut
            omega
          have hov : ov = true := by
            cases ov with
            | true => rfl
            | false => have := h10 rfl; omega
          subst hov
          exact ⟨puO1 B b.toNat, fl_app hFb (fl_cons (leT (by rw [hv2, den_n]; exact Int.ofNat_le.2 hcut)) fl_nil), .fin [] _ (needsB_ok k2) (fun x hx => by cases hx)⟩
        · have hmulN : N * B.base < 18446744073709551616 := by
            have : N * B.base ≤ (B.cut - 1) * B.base := Nat.mul_le_mul_right _ (by omega)
            omega
          have hmul : (puMul B).den ρ = ((N * B.base : Nat) : Int) := by
            show IntKind.u64.wrap ((SE.v 2).den ρ * (Int.ofNat B.base)) = _
            rw [hv2]
            have : (N : Int) * Int.ofNat B.base = ((N * B.base : Nat) : Int) := by simp
            rw [this, wrapU (by omega) (by omega)]
          have hadd : (puAdd B b.toNat).den ρ = IntKind.u64.wrap ((N * B.base + digV b : Nat) : Int) := by
            show IntKind.u64.wrap ((puMul B).den ρ + (puD b.toNat).den ρ) = _
            rw [hmul, hd1]; simp
          by_cases hfit : N * B.base + digV b < 18446744073709551616
          · have hadd' : (puAdd B b.toNat).den ρ = ((N * B.base + digV b : Nat) : Int) := by rw [hadd, wrapU (by omega) (by omega)]
            refine ⟨puOk B b.toNat, fl_app hFb (fl_cons (leN (by rw [hv2, den_n]; exact Int.ofNat_lt.2 (by omega))) (fl_cons (ltN (by rw [hmul, hadd']; omega)) (fl_cons (ltN (by rw [hadd', den_n]; omega)) fl_nil))), .again 0 n (puL B) _ [] ((ρ0 0).s.length - (j + 1)) rfl rfl (by omega) k1 rfl ⟨j + 1, h1, ?_, by omega, ?_, by rw [hval1]; exact hfit, rfl, h7, h8, h9, h10⟩⟩
            · show IntKind.i64.wrap ((ρ 1).i + 1) = _
              rw [h2, wrap64 (by omega) (by omega)]; simp
            · show (puAdd B b.toNat).den ρ = _
              rw [hadd', hval1]
          · have hov : ov = true := by
              cases ov with
              | true => rfl
              | false => have := h10 rfl; omega
            subst hov
            have hadd' : (puAdd B b.toNat).den ρ = ((N * B.base + digV b : Nat) : Int) - 18446744073709551616 := by rw [hadd, wrapU2 (by omega) (by omega)]
            exact ⟨puO2 B b.toNat, fl_app hFb (fl_cons (leN (by rw [hv2, den_n]; exact Int.ofNat_lt.2 (by omega))) (fl_cons (ltT (by rw [hmul, hadd']; omega)) fl_nil)), .fin [] _ (needsB_ok k3) (fun x hx => by cases hx)⟩
      · have hje : j = (ρ0 0).s.length := by omega
        have hN' : N = valF B.base (ρ0 0).s := by rw [← hN, hje, List.take_length]
        have hov : ov = false := by
          cases ov with
          | false => rfl
          | true => have := h9 rfl; omega
        subst hov
        refine ⟨puE, fl_cons (ltN (by rw [hj, hlen]; omega)) fl_nil, .fin [] _ (needsB_ok hend) fun x hx => ?_⟩
        rw [List.mem_singleton] at hx
        subst hx
        show (puVal B (.v 0)).den ρ0 = (SE.v 2).den ρ
        rw [hval, hv2, hN']
theorem puDf : CtrOK Tryd.prog 68 (puC bsD false) := pu_ctr (p := isDec) false (by kernel_rfl) (by kernel_rfl) rfl rfl (by kernel_rfl) puD_ok (by kernel_rfl) (fun ρ => rfl) (fun ρ => rfl) (by decide) (by decide) (by decide) (by decide)
theorem puDt : CtrOK Tryd.prog 68 (puC bsD true) := pu_ctr (p := isDec) true (by kernel_rfl) (by kernel_rfl) (by kernel_rfl) (by kernel_rfl) (by kernel_rfl) puD_ok (by kernel_rfl) (fun ρ => rfl) (fun ρ => rfl) (by decide) (by decide) (by decide) (by decide)
theorem puHf : CtrOK Tryd.prog 68 (puC bsH false) := pu_ctr (p := isHex) false (by kernel_rfl) (by kernel_rfl) rfl rfl (by kernel_rfl) puH_ok (by kernel_rfl) (fun ρ => rfl) (fun ρ => rfl) (by decide) (by decide) (by decide) (by decide)
theorem puHt : CtrOK Tryd.prog 68 (puC bsH true) := pu_ctr (p := isHex) true (by kernel_rfl) (by kernel_rfl) (by kernel_rfl) (by kernel_rfl) (by kernel_rfl) puH_ok (by kernel_rfl) (fun ρ => rfl) (fun ρ => rfl) (by decide) (by decide) (by decide) (by decide)
end Go.Proofs.YtcncmfefcbdnoaaDoor
