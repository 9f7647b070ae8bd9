/- A text without the digits at its begin. -/
import Derived.Test.YtcncmfefcbdnoaaDoorCSn
set_option linter.unusedVariables false
set_option linter.unusedSectionVars false
set_option maxRecDepth 100000
noncomputable section
namespace Go.Proofs.YtcncmfefcbdnoaaDoor
open Go.Den Go.Proofs Go.Extern Go.RowKit
variable [Msr]
noncomputable def setD : List UInt8 := [48, 49, 50, 51, 52, 53, 54, 55, 56, 57]
noncomputable def setH : List UInt8 := [48, 49, 50, 51, 52, 53, 54, 55, 56, 57, 97, 98, 99, 100, 101, 102, 65, 66, 67, 68, 69, 70]
noncomputable def asciiF (t : SE) : Fact := (.eq, .app 19 t (.n 0) (.n 0), .n 1, true)
noncomputable def fs1 : Func := Tryd.f58
noncomputable def clC (set : List UInt8) (sym : Nat) : Ctr := ⟨[.sstr (.v 0), .str set], 9 + 1, [], [short (.v 0), asciiF (.v 0)], .sstr (.app sym (.v 0) (.n 0) (.n 0)), [], []⟩
noncomputable def clT (set : List UInt8) : Tm := putLT [(0, .sstr (.v 0)), (1, .str set)]
noncomputable def clS (set : List UInt8) (sym : Nat) : SRes := startS Tryd.prog call1 fs1 100000 (stpL [0]) (bodyOf fs1) (clC set sym) (clT set) []
noncomputable def clL (set : List UInt8) (sym : Nat) : Lp := ⟨0, srB (clS set sym), srK (clS set sym), ⟨[(0, .sstr (.v 0)), (1, .str set), (4, .str []), (11, .ptr (9 + 1) 0)], [(9 + 1, .siter (.v 0) (.v 1))], 9 + 2⟩⟩
noncomputable def clF (b : Nat) : List Fact := [(.lt, .v 1, .n 0, false), (.lt, .v 1, tLen (.v 0), true), (.le, .v 1, tLen (.v 0), true), (.eq, tByte (.v 0) (.v 1), .n b, true)]
noncomputable def clE : List Fact := [(.lt, .v 1, .n 0, false), (.lt, .v 1, tLen (.v 0), false)]
noncomputable def clR (set : List UInt8) (sym : Nat) (F : List Fact) : SRes := roundS Tryd.prog call1 fs1.ntmps 100000 (stpL [0]) 0 (clL set sym) F
noncomputable def clChk (set : List UInt8) (sym : Nat) (p : UInt8 → Bool) (b : Nat) : Bool := bif p (UInt8.ofNat b) then chkAgain Tryd.prog 9 [(0, .v 0), (1, .app 7 (.v 1) (.n 1) (.n 0))] [] (clL set sym).can 0 (clR set sym (clF b))
  else needsB Tryd.prog 9 fs1 (clC set sym) [] (clR set sym (clF b)) [.s (.app sym (.v 0) (.n 0) (.n 0)) (tSub (.v 0) (.v 1) (tLen (.v 0)))]
theorem clD_ok : allBytes (clChk setD 20 isDec) 128 = true := by kernel_rfl
theorem clH_ok : allBytes (clChk setH 21 isHex) 128 = true := by kernel_rfl
noncomputable def clI (p : UInt8 → Bool) (_ : Nat) (ρ0 ρ : Rho) (n : Nat) : Prop := ∃ j : Nat, (ρ 0) = (ρ0 0) ∧ (ρ 1).i = (j : Int) ∧ j ≤ (ρ0 0).s.length ∧ (ρ0 0).s.dropWhile p = ((ρ0 0).s.drop j).dropWhile p ∧ n = (ρ0 0).s.length - j ∧ ascii (ρ0 0).s = true
theorem cl_ctr {set : List UInt8} {sym : Nat} {p : UInt8 → Bool} (ht : enterD (clC set sym).args fs1.ntmps 0 .nil = some (clT set)) (hc : chkStop Tryd.prog 9 [(0, .v 0), (1, .n 0)] [] (clL set sym).can 0 (clS set sym) = true) (hl : ([clL set sym].all (lpB (clC set sym).nx)) = true)
    (hB : allBytes (clChk set sym p) 128 = true) (hend : needsB Tryd.prog 9 fs1 (clC set sym) [] (clR set sym clE) [.s (.app sym (.v 0) (.n 0) (.n 0)) (.lit [])] = true)
    (hsym : ∀ ρ : Rho, (SE.app sym (.v 0) (.n 0) (.n 0)).str ρ = (ρ 0).s.dropWhile p) : CtrOK Tryd.prog 58 (clC set sym) := by
  refine ctr_loops (loops := [clL set sym]) (inv := clI p) (fuel := 100000) (stp := stpL [0]) gsz mixed (runD_ok static kn1_ok 20) Tryd.func58 (by kernel_rfl) (show fs1.body = some (bodyOf fs1) by kernel_rfl) (by kernel_rfl) ht hl ?_ ?_
  · intro ρ hF
    refine ⟨[], fl_nil, .stop 0 (clL set sym) [(0, .v 0), (1, .n 0)] [] ((ρ 0).s.length) rfl (fun i m h => by cases h) rfl rfl hc rfl ?_⟩
    refine ⟨0, rfl, rfl, Nat.zero_le _, by simp, by simp, ?_⟩
    have h1 := hF _ (List.mem_cons_of_mem _ (List.mem_singleton.2 rfl))
    have h2 : (b01 (ascii (ρ 0).s) == 1) = true := h1
    cases ha : ascii (ρ 0).s with
    | true => rfl
    | false => rw [ha] at h2; exact absurd h2 (by decide)
  · intro i lp hlp ρ0 ρ n hF hI
    cases i with
    | succ i => simp at hlp
    | zero =>
      simp at hlp; subst hlp
      obtain ⟨j, h1, h2, h3, h4, h5, h6⟩ := hI
      have hlen : (tLen (.v 0)).den ρ = ((ρ0 0).s.length : Int) := by rw [← h1]; rfl
      have hj : (SE.v 1).den ρ = (j : Int) := h2
      by_cases hlt : j < (ρ0 0).s.length
      · obtain ⟨b, hb⟩ : ∃ b, b = (ρ0 0).s[j] := ⟨_, rfl⟩
        have hdrop : (ρ0 0).s.drop j = b :: (ρ0 0).s.drop (j + 1) := by rw [hb]; exact List.drop_eq_getElem_cons hlt
        have hb128 : b.toNat < 128 := by
          have := List.all_eq_true.1 h6 b (by rw [hb]; exact List.getElem_mem hlt)
          simpa [Nat.blt_eq] using this
        have hbyte : (tByte (.v 0) (.v 1)).den ρ = (b.toNat : Int) := by
          show ((((ρ 0).s[((ρ 1).i).toNat]?).getD 0).toNat : Int) = _
          rw [h1, h2, hb]; simp [hlt]
        have hk := allBytes_ok hB b.toNat hb128
        have hbb : UInt8.ofNat b.toNat = b := by simp
        unfold clChk at hk
        rw [hbb] at hk
        refine ⟨clF b.toNat, fl_cons (ltN (by rw [hj, den_n]; omega)) (fl_cons (ltT (by rw [hj, hlen]; omega)) (fl_cons (leT (by rw [hj, hlen]; omega)) (fl_cons (eqF_ok hbyte) fl_nil))), ?_⟩
        cases hp : p b with
        | true =>
          rw [hp] at hk
          refine .again 0 n (clL set sym) _ [] ((ρ0 0).s.length - (j + 1)) rfl rfl (by omega) hk rfl ⟨j + 1, h1, ?_, by omega, ?_, rfl, h6⟩
          · show (ρ 1).i + 1 = _
            rw [h2]; simp
          · rw [h4, hdrop, List.dropWhile_cons, hp]; simp
        | false =>
          rw [hp] at hk
          refine .fin [] _ (needsB_ok hk) fun x hx => ?_
          rw [List.mem_singleton] at hx
          subst hx
          show (SE.app sym (.v 0) (.n 0) (.n 0)).str ρ0 = ((ρ 0).s.take ((tLen (.v 0)).den ρ).toNat).drop ((ρ 1).i).toNat
          rw [hsym, h4, hlen, h1, h2, hdrop, List.dropWhile_cons, hp]
          simp only [Int.toNat_natCast, List.take_length]
          rw [hdrop]; simp
      · have hje : j = (ρ0 0).s.length := by omega
        refine ⟨clE, fl_cons (ltN (by rw [hj, den_n]; omega)) (fl_cons (ltN (by rw [hj, hlen]; omega)) fl_nil), .fin [] _ (needsB_ok hend) fun x hx => ?_⟩
        rw [List.mem_singleton] at hx
        subst hx
        show (SE.app sym (.v 0) (.n 0) (.n 0)).str ρ0 = []
        rw [hsym, h4, hje]; simp
theorem clD : CtrOK Tryd.prog 58 (clC setD 20) := cl_ctr (p := isDec) (by kernel_rfl) (by kernel_rfl) (by kernel_rfl) clD_ok (by kernel_rfl) (fun ρ => rfl)
theorem clH : CtrOK Tryd.prog 58 (clC setH 21) := cl_ctr (p := isHex) (by kernel_rfl) (by kernel_rfl) (by kernel_rfl) clH_ok (by kernel_rfl) (fun ρ => rfl)
end Go.Proofs.YtcncmfefcbdnoaaDoor
