/- A text without the digits at its end. -/
import Derived.Test.YtcncmfefcbdnoaaDoorCCl
set_option linter.unusedVariables false
set_option linter.unusedSectionVars false
set_option maxRecDepth 100000
noncomputable section
namespace Go.Proofs.YtcncmfefcbdnoaaDoor
open Go.Den Go.Proofs Go.Extern Go.RowKit
variable [Msr]
noncomputable def fs2 : Func := Tryd.f57
noncomputable def crC (set : List UInt8) (sym : Nat) : Ctr := ⟨[.sstr (.v 0), .str set], 9 + 1, [], [short (.v 0), asciiF (.v 0)], .sstr (.app sym (.v 0) (.n 0) (.n 0)), [], []⟩
noncomputable def crS (set : List UInt8) (sym : Nat) : SRes := startS Tryd.prog call1 fs2 100000 (stpL [0]) (bodyOf fs2) (crC set sym) (clT set) []
noncomputable def crL (set : List UInt8) (sym : Nat) : Lp := ⟨0, srB (crS set sym), srK (crS set sym), ⟨[(0, .sstr (.v 0)), (1, .str set), (4, .str [])], [], 9 + 1⟩⟩
noncomputable def crN : SE := .bin .sub .i64 (tLen (.v 0)) (.n 1)
noncomputable def crF (b : Nat) : List Fact := [(.lt, .n 0, tLen (.v 0), true), (.eq, tLen (.v 0), .n 0, false), (.lt, crN, .n 0, false), (.lt, crN, tLen (.v 0), true), (.le, crN, tLen (.v 0), true), (.eq, tByte (.v 0) crN, .n b, true)]
noncomputable def crE : List Fact := [(.lt, .n 0, tLen (.v 0), false)]
noncomputable def crR (set : List UInt8) (sym : Nat) (F : List Fact) : SRes := roundS Tryd.prog call1 fs2.ntmps 100000 (stpL [0]) 0 (crL set sym) F
noncomputable def crChk (set : List UInt8) (sym : Nat) (p : UInt8 → Bool) (b : Nat) : Bool := bif p (UInt8.ofNat b) then chkAgain Tryd.prog 9 [(0, tSub (.v 0) (.n 0) crN)] [] (crL set sym).can 0 (crR set sym (crF b))
  else needsB Tryd.prog 9 fs2 (crC set sym) [] (crR set sym (crF b)) [.s (.app sym (.v 0) (.n 0) (.n 0)) (.v 0)]
theorem crD_ok : allBytes (crChk setD 24 isDec) 128 = true := by kernel_rfl
theorem crH_ok : allBytes (crChk setH 25 isHex) 128 = true := by kernel_rfl
noncomputable def crI (p : UInt8 → Bool) (_ : Nat) (ρ0 ρ : Rho) (n : Nat) : Prop := cutR p (ρ0 0).s = cutR p (ρ 0).s ∧ (ρ 0).s.length < 1000000 ∧ n = (ρ 0).s.length ∧ ascii (ρ 0).s = true
theorem cr_ctr {set : List UInt8} {sym : Nat} {p : UInt8 → Bool} (ht : enterD (crC set sym).args fs2.ntmps 0 .nil = some (clT set)) (hc : chkStop Tryd.prog 9 [(0, .v 0)] [] (crL set sym).can 0 (crS set sym) = true) (hl : ([crL set sym].all (lpB (crC set sym).nx)) = true)
    (hB : allBytes (crChk set sym p) 128 = true) (hend : needsB Tryd.prog 9 fs2 (crC set sym) [] (crR set sym crE) [.s (.app sym (.v 0) (.n 0) (.n 0)) (.v 0)] = true)
    (hsym : ∀ ρ : Rho, (SE.app sym (.v 0) (.n 0) (.n 0)).str ρ = cutR p (ρ 0).s) : CtrOK Tryd.prog 57 (crC set sym) := by
  refine ctr_loops (loops := [crL set sym]) (inv := crI p) (fuel := 100000) (stp := stpL [0]) gsz mixed (runD_ok static kn1_ok 20) Tryd.func57 (by kernel_rfl) (show fs2.body = some (bodyOf fs2) by kernel_rfl) (by kernel_rfl) ht hl ?_ ?_
  · intro ρ hF
    have h1 := short_of (hF _ (List.mem_cons_self))
    have h2 := ascii_of (hF _ (List.mem_cons_of_mem _ (List.mem_singleton.2 rfl)))
    exact ⟨[], fl_nil, .stop 0 (crL set sym) [(0, .v 0)] [] ((ρ 0).s.length) rfl (fun i m h => by cases h) rfl rfl hc rfl ⟨rfl, (by omega : (ρ 0).s.length < 1000000), rfl, h2⟩⟩
  · intro i lp hlp ρ0 ρ n hF hI
    cases i with
    | succ i => simp at hlp
    | zero =>
      simp at hlp; subst hlp
      obtain ⟨h1, h2, h3, h4⟩ := hI
      have hlen : (tLen (.v 0)).den ρ = ((ρ 0).s.length : Int) := rfl
      rcases List.eq_nil_or_concat (ρ 0).s with he | ⟨t, b, ht⟩
      · refine ⟨crE, fl_cons (ltN (by rw [hlen, den_n, he]; simp)) fl_nil, .fin [] _ (needsB_ok hend) fun x hx => ?_⟩
        rw [List.mem_singleton] at hx
        subst hx
        show (SE.app sym (.v 0) (.n 0) (.n 0)).str ρ0 = (ρ 0).s
        rw [hsym, h1, he]; rfl
      · rw [List.concat_eq_append] at ht
        have htl : (ρ 0).s.length = t.length + 1 := by rw [ht]; simp
        have hn : crN.den ρ = (t.length : Int) := by
          show IntKind.i64.wrap (((ρ 0).s.length : Int) - 1) = _
          rw [htl, wrap64 (by omega) (by omega)]; omega
        have hb128 : b.toNat < 128 := ascii_at h4 (by rw [ht]; simp)
        have hbyte : (tByte (.v 0) crN).den ρ = (b.toNat : Int) := by
          show ((((ρ 0).s[(crN.den ρ).toNat]?).getD 0).toNat : Int) = _
          rw [hn, ht]; simp
        have hk := allBytes_ok hB b.toNat hb128
        have hbb : UInt8.ofNat b.toNat = b := by simp
        unfold crChk at hk
        rw [hbb] at hk
        refine ⟨crF b.toNat, fl_cons (ltT (by rw [hlen, den_n]; omega)) (fl_cons (by show ((tLen (.v 0)).den ρ == 0) = false; rw [hlen, htl, beq_eq_false_iff_ne]; omega) (fl_cons (ltN (by rw [hn, den_n]; omega)) (fl_cons (ltT (by rw [hn, hlen]; omega)) (fl_cons (leT (by rw [hn, hlen]; omega)) (fl_cons (eqF_ok hbyte) fl_nil))))), ?_⟩
        cases hp : p b with
        | true =>
          rw [hp] at hk
          have hs : subρ [(0, tSub (.v 0) (.n 0) crN)] ρ 0 = dyS t := by
            show dyS (((ρ 0).s.take (crN.den ρ).toNat).drop (0 : Int).toNat) = _
            rw [hn, ht]; simp
          refine .again 0 n (crL set sym) _ [] t.length rfl rfl (by omega) hk rfl ?_
          unfold crI
          rw [hs]
          refine ⟨?_, by show t.length < _; omega, rfl, ?_⟩
          · rw [h1, ht, cutR_snoc, hp]; rfl
          · rw [ht] at h4
            unfold ascii at h4 ⊢
            rw [List.all_append] at h4
            simp only [Bool.and_eq_true] at h4
            exact h4.1
        | false =>
          rw [hp] at hk
          refine .fin [] _ (needsB_ok hk) fun x hx => ?_
          rw [List.mem_singleton] at hx
          subst hx
          show (SE.app sym (.v 0) (.n 0) (.n 0)).str ρ0 = (ρ 0).s
          rw [hsym, h1, ht, cutR_snoc, hp]; rfl
theorem crD : CtrOK Tryd.prog 57 (crC setD 24) := cr_ctr (p := isDec) (by kernel_rfl) (by kernel_rfl) (by kernel_rfl) crD_ok (by kernel_rfl) (fun ρ => rfl)
theorem crH : CtrOK Tryd.prog 57 (crC setH 25) := cr_ctr (p := isHex) (by kernel_rfl) (by kernel_rfl) (by kernel_rfl) crH_ok (by kernel_rfl) (fun ρ => rfl)
end Go.Proofs.YtcncmfefcbdnoaaDoor
