/- How much a line's op takes: the law's contract. -/
import Derived.Test.YtlfeoiagemlbiaaGreatDoorCLz
set_option linter.unusedVariables false
set_option linter.unusedSectionVars false
set_option linter.unusedSimpArgs false
set_option maxRecDepth 100000
noncomputable section
namespace Go.Proofs.YtlfeoiagemlbiaaGreatDoor
open Go.Den Go.Proofs Go.Extern Go.RowKit
/-- what a name is -/
def nmIs (n : List UInt8) (x : Nat) : Bool := (isOp n == Nat.blt 1 x) && ((isMach n == Nat.beq x 7) && ((decide (n = []) == Nat.beq x 1) && ((decide (n = opNm 67) == Nat.beq x 2) && ((decide (n = opNm 68) == Nat.beq x 3) && ((decide (n = opNm 69) == Nat.beq x 4) && ((decide (n = opNm 70) == Nat.beq x 5) && (decide (n = opNm 71) == Nat.beq x 6)))))))
theorem nm_mach : ∀ k : Fin 67, nmIs (opNm k.val) 7 = true := by decide +kernel
theorem nm_psd : nmIs (opNm 67) 2 = true ∧ nmIs (opNm 68) 3 = true ∧ nmIs (opNm 69) 4 = true ∧ nmIs (opNm 70) 5 = true ∧ nmIs (opNm 71) 6 = true ∧ nmIs [] 1 = true := by decide +kernel
theorem nm_some (n : List UInt8) : ∃ x, x < 8 ∧ nmIs n x = true := by
  rcases op_or n with ⟨k, hk, rfl⟩ | ⟨ho, hn⟩
  · by_cases h : k < 67
    · exact ⟨7, by omega, nm_mach ⟨k, h⟩⟩
    · obtain rfl | rfl | rfl | rfl | rfl : k = 67 ∨ k = 68 ∨ k = 69 ∨ k = 70 ∨ k = 71 := by omega
      · exact ⟨2, by omega, nm_psd.1⟩
      · exact ⟨3, by omega, nm_psd.2.1⟩
      · exact ⟨4, by omega, nm_psd.2.2.1⟩
      · exact ⟨5, by omega, nm_psd.2.2.2.1⟩
      · exact ⟨6, by omega, nm_psd.2.2.2.2.1⟩
  · by_cases he : n = []
    · subst he; exact ⟨1, by omega, nm_psd.2.2.2.2.2⟩
    · refine ⟨0, by omega, ?_⟩
      have hm := mach_none hn
      unfold nmIs
      rw [ho, hm, decide_eq_false he, decide_eq_false (hn 67 (by omega)), decide_eq_false (hn 68 (by omega)), decide_eq_false (hn 69 (by omega)), decide_eq_false (hn 70 (by omega)), decide_eq_false (hn 71 (by omega))]
      rfl
theorem lexG_err' : ∀ (f : Nat) (s : List UInt8) (p : Nat), (lexG f s p).2.1 = 0 ∨ (lexG f s p).2.1 = 11 ∨ (lexG f s p).2.1 = 14 ∨ (lexG f s p).2.1 = 15
  | 0, s, p => .inl rfl
  | f + 1, s, p => by
    unfold lexG
    cases hd : s.drop (tw isBlank s) with
    | nil => exact .inl rfl
    | cons c r =>
      simp only
      cases Nat.beq (kindF c.toNat) 7 with
      | true => exact .inl rfl
      | false =>
        cases he : Nat.beq (wordF (c :: r)).err 0 with
        | false => exact wordF_err
        | true => exact lexG_err' f ((c :: r).drop (wordF (c :: r)).len) (p + tw isBlank s + (wordF (c :: r)).len)
variable [Msa]
theorem szNm_ok {ρ : Nat → Dy} {x : Nat} (h : nmIs (parT (ρ 0).s).name x = true) : ∀ f ∈ szNm x, f.holds ρ := by
  unfold nmIs at h
  simp only [Bool.and_eq_true, beq_iff_eq] at h
  obtain ⟨h1, h2, h3, h4, h5, h6, h7, h8⟩ := h
  have hb : ∀ a b : Bool, a = b → (b01 a == 1) = b := fun a b h => by subst h; cases a <;> rfl
  exact fl_cons (hb _ _ h1) (fl_cons (hb _ _ h2) (fl_cons (seqB _ h3) (fl_cons (seqB _ h4) (fl_cons (seqB _ h5) (fl_cons (seqB _ h6) (fl_cons (seqB _ h7) (fl_cons (seqB _ h8) fl_nil)))))))
theorem sz_ctr : CtrOK Tryz.prog 3 szC := by
  refine ctr_fin (fuel := 100000) (stp := stpL []) gsz mixed (runD_ok static knz_ok 20) Tryz.func3 (by kernel_rfl) (show fsSz.body = some (bodyOf fsSz) by kernel_rfl) (by kernel_rfl) (show enterD szC.args fsSz.ntmps 0 .nil = some nmT by kernel_rfl) (fun ρ _ => ?_)
  show ∃ (F : List Fact) (rn : List (Nat × Nat)) (L : List Need), (∀ x ∈ F, x.holds ρ) ∧ needsB Tryz.prog 9 fsSz szC rn (szS F) L = true ∧ ∀ n ∈ L, n.ok ρ ρ
  have fin : ∀ F : List Fact, szOk F = true → (∀ x ∈ F, x.holds ρ) → ∃ (F : List Fact) (rn : List (Nat × Nat)) (L : List Need), (∀ x ∈ F, x.holds ρ) ∧ needsB Tryz.prog 9 fsSz szC rn (szS F) L = true ∧ ∀ n ∈ L, n.ok ρ ρ := fun F h hF => ⟨F, [], [], hF, h, nd_nil⟩
  by_cases hl : 200 < (ρ 0).s.length
  · exact fin _ sz_len (fl_cons (ltT (by rw [tLen_den, den_n]; show (200 : Int) < ((ρ 0).s.length : Int); omega)) fl_nil)
  have hL : ∀ x ∈ szL, x.holds ρ := fl_cons (ltN (by rw [tLen_den, den_n]; show ((ρ 0).s.length : Int) ≤ 200; omega)) fl_nil
  have hS : Fact.holds ρ (Go.Proofs.YtlfeoiagemlbiaaGreatDoor.short (.v 0)) := ltT (by rw [tLen_den, den_n]; show ((ρ 0).s.length : Int) < 1000000; omega)
  have hE : ∀ e : Nat, (lexF (ρ 0).s).2.1 = e → Fact.holds ρ (lnErr e) := fun e h => by
    show ((((lexF (ρ 0).s).2.1 : Nat) : Int) == Int.ofNat e) = true
    rw [h]; simp
  have hlx : ∀ e : Nat, (lexF (ρ 0).s).2.1 = e → ∀ x ∈ szLex e, x.holds ρ := fun e h => fl_app hL (fl_cons hS (fl_cons (hE e h) fl_nil))
  have hc := sz_lex
  simp only [Bool.and_eq_true] at hc
  rcases lexG_err' ((ρ 0).s.length + 1) (ρ 0).s 0 with h | h | h | h
  · have hp : ∀ x ∈ pzF, x.holds ρ := fl_cons hS (fl_cons (hE 0 h) fl_nil)
    by_cases hpe : (parT (ρ 0).s).err = 0
    · obtain ⟨x, hx, hn⟩ := nm_some (parT (ρ 0).s).name
      have ok : ∀ d n : Bool, (parT (ρ 0).s).dot = d → decide ((parT (ρ 0).s).args = []) = n → ∀ f ∈ szM d n x, f.holds ρ := fun d n h1 h2 =>
        fl_app hL (fl_app (fl_app hp (fl_cons (eqF_ok (by rw [par80, hpe]; rfl)) (fl_cons (by
          show ((sy 84 (.v 0)).den ρ == 1) = d
          rw [par84, h1]; cases d <;> rfl) (fl_cons (eqB_ok n (by
          rw [par85n, ← h2, Bool.eq_iff_iff]
          simp only [decide_eq_true_eq]
          constructor
          · exact fun h => List.eq_nil_of_length_eq_zero (by omega)
          · exact fun h => by rw [h]; rfl)) fl_nil)))) (szNm_ok hn))
      have hm := allBytes_ok sz_main x hx
      simp only [Bool.and_eq_true] at hm
      obtain ⟨⟨⟨m1, m2⟩, m3⟩, m4⟩ := hm
      cases hd : (parT (ρ 0).s).dot <;> cases ha : decide ((parT (ρ 0).s).args = [])
      · exact fin _ m1 (ok _ _ hd ha)
      · exact fin _ m2 (ok _ _ hd ha)
      · exact fin _ m3 (ok _ _ hd ha)
      · exact fin _ m4 (ok _ _ hd ha)
    · exact fin _ sz_bad (fl_app hL (fl_app hp (fl_cons (neF_ok (by rw [par80]; omega)) fl_nil)))
  · exact fin _ hc.1.1 (hlx 11 h)
  · exact fin _ hc.1.2 (hlx 14 h)
  · exact fin _ hc.2 (hlx 15 h)
end Go.Proofs.YtlfeoiagemlbiaaGreatDoor
