/- The word that begins a text: its contracts. -/
import Derived.Test.YtcncmfefcbdnoaaDoorCWd
set_option linter.unusedVariables false
set_option linter.unusedSectionVars false
set_option maxRecDepth 100000
noncomputable section
namespace Go.Proofs.YtcncmfefcbdnoaaDoor
open Go.Den Go.Proofs Go.Extern Go.RowKit
variable [Msr]
noncomputable def wdI (i : Nat) (ρ0 ρ : Rho) (n : Nat) : Prop := ∃ (c : UInt8) (r : List UInt8) (j : Nat), ρ 0 = ρ0 0 ∧ (ρ0 0).s = c :: r ∧ (ρ 1).i = (j : Int) + 1 ∧ n = r.length - j ∧ r.length < 999999 ∧ kindF c.toNat = i + 3 ∧ (i = 0 → j ≤ tw isLow r) ∧ (i = 1 → j ≤ tw isText r) ∧ i ≤ 1
theorem wdS_eq (e : Nat) (F : List Fact) : wdS e F = wdS 0 F := rfl
theorem wd_fin {e : Nat} {ρ0 ρ : Rho} {cur : Option (Nat × Nat)} {r : SRes} {k t n l : SE} (h : needsB Tryd.prog 9 fs5 (wdC e) [] r (wdL k t n l) = true) {W : Wd} (hW : wordF (ρ0 0).s = W)
    (h1 : (W.kind : Int) = k.den ρ) (h2 : W.text = t.str ρ) (h3 : (W.n : Int) = n.den ρ) (h4 : (W.len : Int) = l.den ρ) : OutP Tryd.prog 9 fs5 (wdC e) [lp3, lp4] wdI ρ0 ρ cur r := by
  refine .fin [] _ (needsB_ok h) fun x hx => ?_
  simp only [wdL, List.mem_cons, List.mem_nil_iff, or_false] at hx
  rcases hx with rfl | rfl | rfl | rfl
  · show (((wordF (ρ0 0).s).kind : Nat) : Int) = k.den ρ; rw [hW]; exact h1
  · show (wordF (ρ0 0).s).text = t.str ρ; rw [hW]; exact h2
  · show (((wordF (ρ0 0).s).n : Nat) : Int) = n.den ρ; rw [hW]; exact h3
  · show (((wordF (ρ0 0).s).len : Nat) : Int) = l.den ρ; rw [hW]; exact h4
theorem cond_le {b : Bool} {x y n : Nat} (hx : x ≤ n) (hy : y ≤ n) : (bif b then x else y) ≤ n := by cases b <;> assumption
theorem kindF_le (c : Nat) : kindF c ≤ 8 := cond_le (by decide) (cond_le (by decide) (cond_le (by decide) (cond_le (by decide) (cond_le (by decide) (cond_le (by decide) (cond_le (by decide) (cond_le (by decide) (by decide))))))))
theorem wd_start (e : Nat) (ρ : Rho) (hF : ∀ x ∈ (wdC e).facts, x.holds ρ) : ∃ F : List Fact, (∀ x ∈ F, x.holds ρ) ∧ OutP Tryd.prog 9 fs5 (wdC e) [lp3, lp4] wdI ρ ρ none (wdS e F) := by
  have h1 := hF _ (List.mem_cons_self)
  have h2 := hF _ (List.mem_cons_of_mem _ (List.mem_cons_self))
  have h3 : ((((wordF (ρ 0).s).err : Nat) : Int) == (e : Int)) = true := hF _ (List.mem_cons_of_mem _ (List.mem_cons_of_mem _ (List.mem_cons_self)))
  have he : (wordF (ρ 0).s).err = e := by have := eq_of_beq h3; omega
  have hsh := short_of h2
  have hpos : (0 : Int) < ((ρ 0).s.length : Int) := by
    have h : decide ((0 : Int) < ((ρ 0).s.length : Int)) = true := h1
    simpa using h
  have hlen : (tLen (.v 0)).den ρ = ((ρ 0).s.length : Int) := rfl
  cases hs : (ρ 0).s with
  | nil => rw [hs] at hpos; simp at hpos
  | cons c r =>
    have hb0 : wdB0.den ρ = (c.toNat : Int) := by
      show ((((ρ 0).s[(0 : Int).toNat]?).getD 0).toNat : Int) = _
      rw [hs]; rfl
    have hk : ∀ k, kindF c.toNat = k → ∀ x ∈ wdF k, x.holds ρ := fun k hk => fl_cons h1 (fl_cons h2 (fl_cons (eqF_ok (by
      show ((kindF (wdB0.den ρ).toNat : Nat) : Int) = _
      rw [hb0, Int.toNat_natCast, hk]; rfl)) fl_nil))
    have hsub : ∀ t : SE, (wdSub t).str ρ = (ρ 0).s.take (t.den ρ).toNat := fun t => by
      show ((ρ 0).s.take (t.den ρ).toNat).drop (0 : Int).toNat = _
      simp
    have hW : wordF (ρ 0).s = wordF (c :: r) := by rw [hs]
    rw [hW] at he
    have hl2 : (c :: r).length < 1000000 := by rw [← hs]; omega
    have hlc : (tLen (.v 0)).den ρ = ((r.length + 1 : Nat) : Int) := by rw [hlen, hs]; simp
    have hle := kindF_le c.toNat
    generalize hkk : kindF c.toNat = k at *
    have hkf := hk k rfl
    match k, hkk, hkf, hle with
    | 0, hkk, hkf, _ =>
      have hw : wordF (c :: r) = ⟨0, [], 0, 0, 11⟩ := by unfold wordF; simp only [hkk]
      rw [hw] at he; have he' : 11 = e := he; subst he'
      exact ⟨_, hkf, wd_fin c0 (hW.trans hw) rfl rfl rfl rfl⟩
    | 7, hkk, hkf, _ =>
      have hw : wordF (c :: r) = ⟨0, [], 0, 0, 11⟩ := by unfold wordF; simp only [hkk]
      rw [hw] at he; have he' : 11 = e := he; subst he'
      exact ⟨_, hkf, wd_fin c7 (hW.trans hw) rfl rfl rfl rfl⟩
    | 8, hkk, hkf, _ =>
      have hw : wordF (c :: r) = ⟨0, [], 0, 0, 11⟩ := by unfold wordF; simp only [hkk]
      rw [hw] at he; have he' : 11 = e := he; subst he'
      exact ⟨_, hkf, wd_fin c8 (hW.trans hw) rfl rfl rfl rfl⟩
    | 1, hkk, hkf, _ =>
      have hwd : wdW.den ρ = (tw isWord (c :: r) : Int) := by show ((tw isWord (ρ 0).s : Nat) : Int) = _; rw [hs]
      by_cases h16 : tw isWord (c :: r) ≤ 16
      · have hw : wordF (c :: r) = ⟨1, (c :: r).take (tw isWord (c :: r)), 0, tw isWord (c :: r), 0⟩ := by unfold wordF; simp only [hkk, Nat.ble_eq_true_of_le h16, cond_true]
        rw [hw] at he; have he' : 0 = e := he; subst he'
        have htl := tw_le (p := isWord) (c :: r)
        refine ⟨_, fl_app hkf (fl_cons (ltN (by rw [hwd, den_n]; omega)) (fl_cons (ltN (by rw [hwd, den_n]; omega)) (fl_cons (leT (by rw [hwd, hlc]; simp at htl; omega)) fl_nil))), wd_fin c1b (hW.trans hw) rfl ?_ rfl ?_⟩
        · rw [hsub, hwd, hs]; simp
        · rw [hwd]
      · have hw : wordF (c :: r) = ⟨0, [], 0, 0, 15⟩ := by
          unfold wordF
          have : Nat.ble (tw isWord (c :: r)) 16 = false := by
            cases hx : Nat.ble (tw isWord (c :: r)) 16 with
            | false => rfl
            | true => exact absurd (Nat.le_of_ble_eq_true hx) h16
          simp only [hkk, this, cond_false]
        rw [hw] at he; have he' : 15 = e := he; subst he'
        exact ⟨_, fl_app hkf (fl_cons (ltT (by rw [hwd, den_n]; omega)) fl_nil), wd_fin c1a (hW.trans hw) rfl rfl rfl rfl⟩
    | 2, hkk, hkf, _ =>
      have hwd : wdU.den ρ = (tw isNum (c :: r) : Int) := by show ((tw isNum (ρ 0).s : Nat) : Int) = _; rw [hs]
      have hst : (wdSub wdU).str ρ = (c :: r).take (tw isNum (c :: r)) := by rw [hsub, hwd, hs]; simp
      have htl := tw_le (p := isNum) (c :: r)
      have hw : wordF (c :: r) = ⟨2, (c :: r).take (tw isNum (c :: r)), (numF ((c :: r).take (tw isNum (c :: r)))).1, tw isNum (c :: r), (numF ((c :: r).take (tw isNum (c :: r)))).2⟩ := by unfold wordF; simp only [hkk]
      rw [hw] at he
      have he' : (numF ((c :: r).take (tw isNum (c :: r)))).2 = e := he
      have hasc : ascii ((c :: r).take (tw isNum (c :: r))) = true := isNum_ascii _
      have hfs : ∀ x ∈ wd2 e, x.holds ρ := fl_app hkf (fl_cons (ltN (by rw [hwd, den_n]; omega)) (fl_cons (leT (by rw [hwd, hlc]; simp at htl; omega)) (fl_cons (ltT (by rw [tLen_den, den_n, hst]; simp; omega)) (fl_cons (asciiF_ok (by rw [hst]; exact hasc)) (fl_cons (eqF_ok (by
        show (((numF ((wdSub wdU).str ρ)).2 : Nat) : Int) = _
        rw [hst, he']; rfl)) fl_nil)))))
      rcases numF_err ((c :: r).take (tw isNum (c :: r))) with ⟨h0, _⟩ | ⟨h0, h00⟩ | ⟨h0, h00⟩
      · rw [h0] at he'; subst he'
        refine ⟨_, hfs, wd_fin c2a (hW.trans hw) rfl hst.symm ?_ ?_⟩
        · show _ = (((numF ((wdSub wdU).str ρ)).1 : Nat) : Int); rw [hst]
        · rw [hwd]
      · rw [h0] at he'; subst he'
        exact ⟨_, hfs, wd_fin c2b (hW.trans hw) rfl hst.symm (by show (((numF _).1 : Nat) : Int) = 0; rw [h00]; rfl) (by rw [hwd])⟩
      · rw [h0] at he'; subst he'
        exact ⟨_, hfs, wd_fin c2c (hW.trans hw) rfl hst.symm (by show (((numF _).1 : Nat) : Int) = 0; rw [h00]; rfl) (by rw [hwd])⟩
    | 3, hkk, hkf, _ => exact ⟨_, hkf, .stop 0 lp3 _ [] r.length rfl (fun i m h => by cases h) (by rw [wdS_eq]; rfl) (by rw [wdS_eq]; rfl) (by rw [wdS_eq]; exact s3) rfl ⟨c, r, 0, rfl, hs, rfl, by simp, by simp at hl2; omega, hkk, fun _ => Nat.zero_le _, fun _ => Nat.zero_le _, by omega⟩⟩
    | 4, hkk, hkf, _ => exact ⟨_, hkf, .stop 1 lp4 _ [] r.length rfl (fun i m h => by cases h) (by rw [wdS_eq]; rfl) (by rw [wdS_eq]; rfl) (by rw [wdS_eq]; exact s4) rfl ⟨c, r, 0, rfl, hs, rfl, by simp, by simp at hl2; omega, hkk, fun _ => Nat.zero_le _, fun _ => Nat.zero_le _, by omega⟩⟩
    | 5, hkk, hkf, _ =>
      have hw : wordF (c :: r) = ⟨3, [c], 0, 1, 0⟩ := by unfold wordF; simp only [hkk]
      rw [hw] at he; have he' : 0 = e := he; subst he'
      exact ⟨_, fl_app hkf (fl_cons (leT (by rw [hlc, den_n]; omega)) fl_nil), wd_fin c5 (hW.trans hw) rfl (by rw [hsub, hs]; rfl) rfl rfl⟩
    | 6, hkk, hkf, _ =>
      cases r with
      | nil =>
        have hw : wordF [c] = ⟨0, [], 0, 0, 11⟩ := by unfold wordF; simp only [hkk]; rfl
        rw [hw] at he; have he' : 11 = e := he; subst he'
        exact ⟨_, fl_app hkf (fl_cons (ltT (by rw [hlc, den_n]; simp)) fl_nil), wd_fin c6a (hW.trans hw) rfl rfl rfl rfl⟩
      | cons d r =>
        have hb1 : (tByte (.v 0) (.n 1)).den ρ = (d.toNat : Int) := by
          show ((((ρ 0).s[(1 : Int).toNat]?).getD 0).toNat : Int) = _
          rw [hs]; rfl
        have hfs : ∀ b : Bool, (d == c) = b → ∀ x ∈ wd6 b, x.holds ρ := fun b hb => fl_app hkf (fl_cons (ltN (by rw [hlc, den_n]; simp; omega)) (fl_cons (ltT (by rw [hlc, den_n]; simp; omega)) (fl_cons (by
          show ((tByte (.v 0) (.n 1)).den ρ == wdB0.den ρ) = b
          rw [hb1, hb0, ← hb, int_beq, Bool.eq_iff_iff]
          simp only [beq_iff_eq]
          constructor
          · intro h; exact (UInt8.toNat_inj.1 h).symm
          · intro h; rw [h]) (fl_cons (leT (by rw [hlc, den_n]; simp; omega)) fl_nil))))
        cases hdc : (d == c) with
        | true =>
          have hdc' := eq_of_beq hdc
          have hw : wordF (c :: d :: r) = ⟨3, [c, c], 0, 2, 0⟩ := by unfold wordF; simp only [hkk, List.head?_cons, hdc']; simp
          rw [hw] at he; have he' : 0 = e := he; subst he'
          exact ⟨_, hfs _ hdc, wd_fin c6b (hW.trans hw) rfl (by rw [hsub, hs, hdc']; rfl) rfl rfl⟩
        | false =>
          have hdc' : ¬ d = c := fun h => by subst h; simp at hdc
          have hw : wordF (c :: d :: r) = ⟨0, [], 0, 0, 11⟩ := by unfold wordF; simp only [hkk, List.head?_cons]; show (bif d == c then _ else _) = _; rw [hdc]; rfl
          rw [hw] at he; have he' : 11 = e := he; subst he'
          exact ⟨_, hfs _ hdc, wd_fin c6c (hW.trans hw) rfl rfl rfl rfl⟩
    | k + 9, _, _, h => omega
end Go.Proofs.YtcncmfefcbdnoaaDoor
