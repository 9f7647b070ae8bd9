/- How many operands an op has; an op by its name: contracts. -/
import Derived.Test.YtlfeoiagemlbiaaGreatDoorCZa
import Derived.Test.YtlfeoiagemlbiaaGreatDoorCZb
set_option linter.unusedVariables false
set_option linter.unusedSectionVars false
set_option linter.unusedSimpArgs false
set_option maxRecDepth 100000
noncomputable section
namespace Go.Proofs.YtlfeoiagemlbiaaGreatDoor
open Go.Den Go.Proofs Go.Extern Go.RowKit
variable [Msa]
theorem oa_all (k : Nat) (hk : k < 73) : oaB k = true := by
  have g : ∀ j n : Nat, allBytes (fun i => oaB (i + j)) n = true → j ≤ k → k < j + n → oaB k = true := fun j n h h1 h2 => by
    have := allBytes_ok h (k - j) (by omega)
    rwa [show k - j + j = k by omega] at this
  by_cases h0 : k < 6
  · exact g 0 6 oa_t0 (by omega) (by omega)
  by_cases h1 : k < 12
  · exact g 6 6 oa_t1 (by omega) (by omega)
  by_cases h2 : k < 18
  · exact g 12 6 oa_t2 (by omega) (by omega)
  by_cases h3 : k < 24
  · exact g 18 6 oa_t3 (by omega) (by omega)
  by_cases h4 : k < 30
  · exact g 24 6 oa_t4 (by omega) (by omega)
  by_cases h5 : k < 36
  · exact g 30 6 oa_t5 (by omega) (by omega)
  by_cases h6 : k < 42
  · exact g 36 6 oa_t6 (by omega) (by omega)
  by_cases h7 : k < 48
  · exact g 42 6 oa_t7 (by omega) (by omega)
  by_cases h8 : k < 54
  · exact g 48 6 oa_t8 (by omega) (by omega)
  by_cases h9 : k < 60
  · exact g 54 6 oa_t9 (by omega) (by omega)
  by_cases h10 : k < 66
  · exact g 60 6 oa_t10 (by omega) (by omega)
  by_cases h11 : k < 72
  · exact g 66 6 oa_t11 (by omega) (by omega)
  exact g 72 1 oa_t12 (by omega) (by omega)
theorem nd_all (k : Nat) (hk : k < 68) : ndB k = true := by
  have g : ∀ j n : Nat, allBytes (fun i => ndB (i + j)) n = true → j ≤ k → k < j + n → ndB k = true := fun j n h h1 h2 => by
    have := allBytes_ok h (k - j) (by omega)
    rwa [show k - j + j = k by omega] at this
  by_cases h0 : k < 6
  · exact g 0 6 nd_t0 (by omega) (by omega)
  by_cases h1 : k < 12
  · exact g 6 6 nd_t1 (by omega) (by omega)
  by_cases h2 : k < 18
  · exact g 12 6 nd_t2 (by omega) (by omega)
  by_cases h3 : k < 24
  · exact g 18 6 nd_t3 (by omega) (by omega)
  by_cases h4 : k < 30
  · exact g 24 6 nd_t4 (by omega) (by omega)
  by_cases h5 : k < 36
  · exact g 30 6 nd_t5 (by omega) (by omega)
  by_cases h6 : k < 42
  · exact g 36 6 nd_t6 (by omega) (by omega)
  by_cases h7 : k < 48
  · exact g 42 6 nd_t7 (by omega) (by omega)
  by_cases h8 : k < 54
  · exact g 48 6 nd_t8 (by omega) (by omega)
  by_cases h9 : k < 60
  · exact g 54 6 nd_t9 (by omega) (by omega)
  by_cases h10 : k < 66
  · exact g 60 6 nd_t10 (by omega) (by omega)
  exact g 66 2 nd_t11 (by omega) (by omega)
theorem nmNo_ok {ρ : Nat → Dy} : ∀ n : Nat, (∀ j, j < n → (ρ 0).s ≠ opNm j) → ∀ x ∈ nmNo n, x.holds ρ
  | 0, _ => fl_nil
  | n + 1, h => fl_app (nmNo_ok n fun j hj => h j (by omega)) (fl_cons (by
      show (opNm n == (ρ 0).s) = false
      rw [beq_eq_false_iff_ne]
      exact fun he => h n (by omega) he.symm) fl_nil)
/-- what is known of a name: it is the k-th; none -/
def isNm (ρ : Nat → Dy) (k : Nat) : Prop := (k < 72 ∧ (ρ 0).s = opNm k) ∨ (k = 72 ∧ ∀ j, j < 72 → (ρ 0).s ≠ opNm j)
theorem isNm_ne {ρ : Nat → Dy} {k : Nat} (h : isNm ρ k) {j : Nat} (hj : j < 72) (hne : j ≠ k) : (ρ 0).s ≠ opNm j := fun he => by
  rcases h with ⟨hk, h⟩ | ⟨rfl, h⟩
  · have := opNm_inj ⟨j, hj⟩ ⟨k, hk⟩ (he.symm.trans h)
    simp at this
    exact hne this
  · exact h j hj he
theorem nmFs_ok {ρ : Nat → Dy} {k : Nat} (h : isNm ρ k) : ∀ x ∈ nmFs k, x.holds ρ := by
  have hps : ∀ j, j < 72 → Fact.holds ρ (.seq, .v 0, .lit (opNm j), Nat.beq k j) := fun j hj => seqB _ (by
    show decide ((ρ 0).s = opNm j) = _
    cases hb : Nat.beq k j with
    | true =>
      have := Nat.eq_of_beq_eq_true hb
      subst this
      rcases h with ⟨_, h⟩ | ⟨hk, _⟩
      · exact decide_eq_true h
      · omega
    | false => exact decide_eq_false (isNm_ne h hj fun he => by rw [he] at hb; simp at hb))
  by_cases hk : k < 67
  · have e : nmFs k = nmNo k ++ [(.seq, .lit (opNm k), .v 0, true)] := by
      unfold nmFs
      rw [show Nat.blt k 67 = true from by simpa using hk]; rfl
    rw [e]
    refine fl_app (nmNo_ok k fun j hj => isNm_ne h (by omega) (by omega)) (fl_cons ?_ fl_nil)
    show (opNm k == (ρ 0).s) = true
    rcases h with ⟨_, h⟩ | ⟨hk, _⟩
    · rw [h]; simp
    · omega
  · have e : nmFs k = nmPs k ++ nmNo 67 := by
      unfold nmFs
      rw [show Nat.blt k 67 = false from Bool.eq_false_iff.2 (fun h => hk (Nat.blt_eq.mp h))]; rfl
    rw [e]
    exact fl_app (fl_cons (hps 67 (by omega)) (fl_cons (hps 68 (by omega)) (fl_cons (hps 69 (by omega)) (fl_cons (hps 70 (by omega)) (fl_cons (hps 71 (by omega)) fl_nil))))) (nmNo_ok 67 fun j hj => isNm_ne h (by omega) (by omega))
theorem isNm_or (ρ : Nat → Dy) : ∃ k, k ≤ 72 ∧ isNm ρ k := by
  rcases op_or (ρ 0).s with ⟨k, hk, he⟩ | ⟨_, h⟩
  · exact ⟨k, by omega, .inl ⟨hk, he⟩⟩
  · exact ⟨72, by omega, .inr ⟨rfl, h⟩⟩
theorem oa_ctr (ok : Bool) (hS : ∀ F, startS Tryz.prog (runD Tryz.prog kn 40) fsOa 100000 (stpL []) (bodyOf fsOa) (oaC ok) nmT F = oaS F) (ht : enterD (oaC ok).args fsOa.ntmps 0 .nil = some nmT) : CtrOK Tryz.prog 29 (oaC ok) := by
  refine ctr_fin (fuel := 100000) (stp := stpL []) gsz mixed (runD_ok static kn_ok 40) Tryz.func29 (by kernel_rfl) (show fsOa.body = some (bodyOf fsOa) by kernel_rfl) (by kernel_rfl) ht (fun ρ hF => ?_)
  have hok : Fact.holds ρ (.eq, ze 96, .n 1, ok) := hF _ (by unfold oaC; exact List.mem_cons_self)
  have hok' : (b01 (isOp (ρ 0).s) == 1) = ok := hok
  obtain ⟨k, hk, h⟩ := isNm_or ρ
  have hB := oa_all k (by omega)
  unfold oaB at hB
  rcases h with ⟨hk2, he⟩ | ⟨rfl, hn⟩
  · have hat := op_at ⟨k, hk2⟩
    have hio : isOp (ρ 0).s = true := by unfold isOp; rw [he, hat.1]; rfl
    rw [hio] at hok'
    have : ok = true := hok'.symm
    subst this
    rw [show Nat.blt k 72 = true from by simpa using hk2] at hB
    have hB2 : needsB Tryz.prog 9 fsOa (oaC true) [] (oaS (nmFs k)) [.i (ze 97) (.n (Int.ofNat (opsT[k]?.getD ([], 0, 0)).2.2))] = true := hB
    rw [← hS] at hB2
    refine ⟨nmFs k, [], _, nmFs_ok (.inl ⟨hk2, he⟩), ?_, nd_cons (f := .i (ze 97) (.n (Int.ofNat (opsT[k]?.getD ([], 0, 0)).2.2))) ?_ nd_nil⟩
    · exact hB2
    · show ((opGet opsT (ρ 0).s).2 : Int) = Int.ofNat (opsT[k]?.getD ([], 0, 0)).2.2
      rw [he, hat.2.1]; rfl
  · have hio : isOp (ρ 0).s = false := by
      unfold isOp
      cases hx : opIx opsT (ρ 0).s with
      | none => rfl
      | some j =>
        obtain ⟨x, h1, h2⟩ := opIx_some hx
        have hj := (List.getElem?_eq_some_iff.1 h1).1
        rw [opsT_len] at hj
        exact absurd (by unfold opNm; rw [h1]; exact h2.symm) (hn j hj)
    rw [hio] at hok'
    have : ok = false := hok'.symm
    subst this
    have hB2 : needsB Tryz.prog 9 fsOa (oaC false) [] (oaS (nmFs 72)) [] = true := hB
    rw [← hS] at hB2
    exact ⟨nmFs 72, [], [], nmFs_ok (.inr ⟨rfl, hn⟩), hB2, nd_nil⟩
noncomputable def gOa : Gn := gC Tryz.prog 9 (oaC true) [oaC false]
theorem gOa_ok : GoodAt Tryz.prog 29 gOa := good_C gsz (by kernel_rfl) (fun x hx => by
  simp only [List.mem_cons, List.mem_nil_iff, or_false] at hx
  rcases hx with rfl | rfl
  · exact oa_ctr true (fun _ => rfl) (by kernel_rfl)
  · exact oa_ctr false (fun _ => rfl) (by kernel_rfl))
theorem nd_no : needsB Tryz.prog 9 fsNd (ndC false) [] (ndS (nmNo 67)) [] = true := by kernel_rfl
theorem nd_ctr (ok : Bool) (hS : ∀ F, startS Tryz.prog (runD Tryz.prog kn 40) fsNd 100000 (stpL []) (bodyOf fsNd) (ndC ok) nmT F = ndS F) (ht : enterD (ndC ok).args fsNd.ntmps 0 .nil = some nmT) : CtrOK Tryz.prog 30 (ndC ok) := by
  refine ctr_fin (fuel := 100000) (stp := stpL []) gsz mixed (runD_ok static kn_ok 40) Tryz.func30 (by kernel_rfl) (show fsNd.body = some (bodyOf fsNd) by kernel_rfl) (by kernel_rfl) ht (fun ρ hF => ?_)
  have hok : Fact.holds ρ (.eq, ze 98, .n 1, ok) := hF _ (by unfold ndC; exact List.mem_cons_self)
  have hok' : (b01 (isMach (ρ 0).s) == 1) = ok := hok
  obtain ⟨k, hk, h⟩ := isNm_or ρ
  by_cases hk2 : k < 67
  · have hB := nd_all k (by omega)
    unfold ndB at hB
    have he : (ρ 0).s = opNm k := by
      rcases h with ⟨_, he⟩ | ⟨hk, _⟩
      · exact he
      · omega
    have hat := op_at ⟨k, by omega⟩
    have h3 : opIx machT (opNm k) = some k := by rw [hat.2.2.1]; exact if_pos hk2
    have hio : isMach (ρ 0).s = true := by unfold isMach; rw [he, h3]; rfl
    rw [hio] at hok'
    have : ok = true := hok'.symm
    subst this
    rw [show Nat.blt k 67 = true from by simpa using hk2] at hB
    have hB2 : needsB Tryz.prog 9 fsNd (ndC true) [] (ndS (nmFs k)) [.i (ze 100) (.n (Int.ofNat (k + 1))), .s (.v 0) (.lit (opNm k)), .i (ze 101) (.n (Int.ofNat (opsT[k]?.getD ([], 0, 0)).2.1))] = true := hB
    rw [← hS] at hB2
    refine ⟨nmFs k, [], _, nmFs_ok h, ?_, nd_cons (f := .i (ze 100) (.n (Int.ofNat (k + 1)))) ?_ (nd_cons (f := .s (.v 0) (.lit (opNm k))) he (nd_cons (f := .i (ze 101) (.n (Int.ofNat (opsT[k]?.getD ([], 0, 0)).2.1))) ?_ nd_nil))⟩
    · exact hB2
    · show optI ((opIx machT (ρ 0).s).map (· + 1)) = _
      rw [he, h3]; rfl
    · show ((opGet machT (ρ 0).s).1 : Int) = _
      rw [he, hat.2.2.2 hk2]; rfl
  · have hio : isMach (ρ 0).s = false := by
      rcases h with ⟨hk3, he⟩ | ⟨_, hn⟩
      · have hat := op_at ⟨k, hk3⟩
        unfold isMach
        rw [he, hat.2.2.1, if_neg hk2]; rfl
      · exact mach_none hn
    rw [hio] at hok'
    have : ok = false := hok'.symm
    subst this
    have hB2 := nd_no
    rw [← hS] at hB2
    exact ⟨nmNo 67, [], [], nmNo_ok 67 fun j hj => isNm_ne h (by omega) (by omega), hB2, nd_nil⟩
noncomputable def gNd : Gn := gC Tryz.prog 9 (ndC true) [ndC false]
theorem gNd_ok : GoodAt Tryz.prog 30 gNd := good_C gsz (by kernel_rfl) (fun x hx => by
  simp only [List.mem_cons, List.mem_nil_iff, or_false] at hx
  rcases hx with rfl | rfl
  · exact nd_ctr true (fun _ => rfl) (by kernel_rfl)
  · exact nd_ctr false (fun _ => rfl) (by kernel_rfl))
end Go.Proofs.YtlfeoiagemlbiaaGreatDoor
