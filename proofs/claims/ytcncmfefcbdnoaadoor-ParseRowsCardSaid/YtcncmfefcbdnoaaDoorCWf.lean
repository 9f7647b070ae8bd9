/- The word that begins a text: its loops; the contract. -/
import Derived.Test.YtcncmfefcbdnoaaDoorCWe
set_option linter.unusedVariables false
set_option linter.unusedSectionVars false
set_option maxRecDepth 100000
noncomputable section
namespace Go.Proofs.YtcncmfefcbdnoaaDoor
open Go.Den Go.Proofs Go.Extern Go.RowKit
variable [Msr]
theorem wd_loop (e : Nat) (i : Nat) (ρ0 ρ : Rho) (n : Nat) (hF : ∀ x ∈ (wdC e).facts, x.holds ρ0) (hI : wdI i ρ0 ρ n) :
    ∃ F : List Fact, (∀ x ∈ F, x.holds ρ) ∧ OutP Tryd.prog 9 fs5 (wdC e) [lp3, lp4] wdI ρ0 ρ (some (i, n)) (bif Nat.beq i 0 then wr3 F else wr4 F) := by
  obtain ⟨c, r, j, h1, hs, hv, hn, hr, hk, hj0, hj1, hi⟩ := hI
  have h3 : ((((wordF (ρ0 0).s).err : Nat) : Int) == (e : Int)) = true := hF _ (List.mem_cons_of_mem _ (List.mem_cons_of_mem _ (List.mem_cons_self)))
  have he : (wordF (ρ0 0).s).err = e := by have := eq_of_beq h3; omega
  have hW : wordF (ρ0 0).s = wordF (c :: r) := by rw [hs]
  rw [hW] at he
  have hlen : (tLen (.v 0)).den ρ = ((r.length + 1 : Nat) : Int) := by show ((ρ 0).s.length : Int) = _; rw [h1, hs]; simp
  have hv1 : (SE.v 1).den ρ = ((j + 1 : Nat) : Int) := by show (ρ 1).i = _; rw [hv]; simp
  have htext : wdText.str ρ = r.take j := by
    show ((ρ 0).s.take ((SE.v 1).den ρ).toNat).drop (1 : Int).toNat = _
    rw [hv1, h1, hs, Int.toNat_natCast]; simp
  have hnext : j < r.length → wdNext.den ρ = ((j + 1 + 1 : Nat) : Int) := fun _ => by
    show IntKind.i64.wrap ((SE.v 1).den ρ + 1) = _
    rw [hv1, wrap64 (by omega) (by omega)]; simp
  have hbyte : j < r.length → (tByte (.v 0) (.v 1)).den ρ = (((r[j]?).getD 0).toNat : Int) := fun _ => by
    show ((((ρ 0).s[((SE.v 1).den ρ).toNat]?).getD 0).toNat : Int) = _
    rw [hv1, h1, hs, Int.toNat_natCast]; simp
  have hE : ¬ j < r.length → j ≤ r.length → ∀ x ∈ wrE, x.holds ρ := fun _ _ => fl_cons (ltN (by rw [hv1, den_n]; omega)) (fl_cons (ltN (by rw [hv1, hlen]; omega)) fl_nil)
  have hB : j < r.length → ∀ x ∈ wrB ((r[j]?).getD 0).toNat, x.holds ρ := fun h => fl_cons (ltN (by rw [hv1, den_n]; omega)) (fl_cons (ltT (by rw [hv1, hlen]; omega)) (fl_cons (eqF_ok (hbyte h)) fl_nil))
  have hbb : UInt8.ofNat ((r[j]?).getD 0).toNat = (r[j]?).getD 0 := by simp
  have hstep : ∀ lp : Lp, j < r.length → chkAgain Tryd.prog 9 [(0, .v 0), (1, wdNext)] [] lp.can i (bif Nat.beq i 0 then wr3 (wrB ((r[j]?).getD 0).toNat) else wr4 (wrB ((r[j]?).getD 0).toNat)) = true → [lp3, lp4][i]? = some lp → (i = 0 → j + 1 ≤ tw isLow r) → (i = 1 → j + 1 ≤ tw isText r) →
      OutP Tryd.prog 9 fs5 (wdC e) [lp3, lp4] wdI ρ0 ρ (some (i, n)) (bif Nat.beq i 0 then wr3 (wrB ((r[j]?).getD 0).toNat) else wr4 (wrB ((r[j]?).getD 0).toNat)) := fun lp hlt hc hlp a0 a1 =>
    .again i n lp _ [] (r.length - (j + 1)) rfl hlp (by omega) hc rfl ⟨c, r, j + 1, h1, hs, by show wdNext.den ρ = _; rw [hnext hlt]; simp, rfl, hr, hk, a0, a1, hi⟩
  match i, hi, hk, hj0, hj1, hstep with
  | 0, _, hk, hj0, _, hstep =>
    have hj := hj0 rfl
    have hjl := Nat.le_trans hj (tw_le r)
    have out : ∀ F : List Fact, (∀ x ∈ F, x.holds ρ) → wr3Out 0 F = true → tw isLow r = j → ∃ F : List Fact, (∀ x ∈ F, x.holds ρ) ∧ OutP Tryd.prog 9 fs5 (wdC e) [lp3, lp4] wdI ρ0 ρ (some (0, n)) (wr3 F) := by
      intro F hG hO htw
      unfold wr3Out nB at hO
      simp only [Bool.and_eq_true] at hO
      have hX : ∀ b : Bool, (decide (j = 0) = b) → ∀ x ∈ wr3X b, x.holds ρ := fun b hb => fl_cons (by
        show ((SE.v 1).den ρ == 1) = b
        rw [hv1, ← hb, Bool.eq_iff_iff]; simp; omega) (fl_cons (leT (by rw [hv1, den_n]; omega)) (fl_cons (leT (by rw [hv1, hlen]; omega)) fl_nil))
      by_cases hz : j = 0
      · have hw : wordF (c :: r) = ⟨0, [], 0, 0, 11⟩ := by unfold wordF; simp only [hk, htw, hz]; rfl
        rw [hw] at he; have he' : 11 = e := he; subst he'
        exact ⟨_, fl_app hG (hX true (by simpa using hz)), wd_fin hO.1 (hW.trans hw) rfl rfl rfl rfl⟩
      · have hw : wordF (c :: r) = ⟨4, r.take j, 0, j + 1, 0⟩ := by
          unfold wordF
          have : Nat.beq j 0 = false := by cases j with | zero => exact absurd rfl hz | succ j => rfl
          simp only [hk, htw, this, cond_false]
        rw [hw] at he; have he' : 0 = e := he; subst he'
        exact ⟨_, fl_app hG (hX false (by simpa using hz)), wd_fin hO.2 (hW.trans hw) rfl htext.symm rfl hv1.symm⟩
    by_cases hlt : j < r.length
    · have hc := allBytes_ok w3_ok ((r[j]?).getD 0).toNat (UInt8.toNat_lt _)
      unfold wr3Chk at hc
      rw [hbb] at hc
      cases hp : isLow ((r[j]?).getD 0) with
      | true => rw [hp] at hc; exact ⟨_, hB hlt, hstep lp3 hlt hc rfl (fun _ => tw_next hj hlt hp) (fun h => by cases h)⟩
      | false => rw [hp] at hc; exact out _ (hB hlt) hc (tw_stop hj (fun _ => hp) hjl)
    · exact out _ (hE hlt hjl) w3_end (tw_stop hj (fun h => absurd h hlt) hjl)
  | 1, _, hk, _, hj1, hstep =>
    have hj := hj1 rfl
    have hjl := Nat.le_trans hj (tw_le r)
    by_cases hlt : j < r.length
    · have hc := allBytes_ok w4_ok ((r[j]?).getD 0).toNat (UInt8.toNat_lt _)
      unfold wr4Chk at hc
      rw [hbb] at hc
      cases hp : isText ((r[j]?).getD 0) with
      | true => rw [hp] at hc; exact ⟨_, hB hlt, hstep lp4 hlt hc rfl (fun h => by cases h) (fun _ => tw_next hj hlt hp)⟩
      | false =>
        rw [hp] at hc
        have htw := tw_stop hj (fun _ => hp) hjl
        have hX : ∀ x ∈ wrB ((r[j]?).getD 0).toNat ++ wr4X, x.holds ρ := fl_app (hB hlt) (fl_cons (by
          show ((SE.v 1).den ρ == (tLen (.v 0)).den ρ) = false
          rw [hv1, hlen, beq_eq_false_iff_ne]; omega) (fl_cons (leT (by rw [hv1, den_n]; omega)) (fl_cons (leT (by rw [hv1, hlen]; omega)) fl_nil)))
        have hhead : (r.drop j).head? = some ((r[j]?).getD 0) := by rw [List.head?_drop, List.getElem?_eq_getElem hlt]; rfl
        simp only [cond_false] at hc
        cases hq : Nat.beq ((r[j]?).getD 0).toNat 34 with
        | true =>
          rw [hq] at hc
          have hq' : (r[j]?).getD 0 = 34 := UInt8.toNat_inj.1 (Nat.eq_of_beq_eq_true hq)
          have hw : wordF (c :: r) = ⟨5, r.take j, 0, j + 2, 0⟩ := by unfold wordF; simp only [hk, htw, hhead, hq']; rfl
          rw [hw] at he; have he' : 0 = e := he; subst he'
          exact ⟨_, hX, wd_fin hc (hW.trans hw) rfl htext.symm rfl (hnext hlt).symm⟩
        | false =>
          rw [hq] at hc
          have hq' : (r[j]?).getD 0 ≠ 34 := fun h => by rw [h] at hq; exact absurd hq (by decide)
          have hw : wordF (c :: r) = ⟨0, [], 0, 0, 11⟩ := by
            unfold wordF
            have : (some ((r[j]?).getD 0) == some 34) = false := by rw [beq_eq_false_iff_ne]; intro h; exact hq' (Option.some.inj h)
            simp only [hk, htw, hhead, this]; rfl
          rw [hw] at he; have he' : 11 = e := he; subst he'
          exact ⟨_, hX, wd_fin hc (hW.trans hw) rfl rfl rfl rfl⟩
    · have htw := tw_stop hj (fun h => absurd h hlt) hjl
      have hje : j = r.length := by omega
      have hw : wordF (c :: r) = ⟨0, [], 0, 0, 11⟩ := by unfold wordF; simp only [hk, htw, hje, List.drop_length]; rfl
      rw [hw] at he; have he' : 11 = e := he; subst he'
      exact ⟨_, fl_app (hE hlt hjl) (fl_cons (by
        show ((SE.v 1).den ρ == (tLen (.v 0)).den ρ) = true
        rw [hv1, hlen, hje]; simp) fl_nil), wd_fin w4_end (hW.trans hw) rfl rfl rfl rfl⟩
  | i + 2, h, _, _, _, _ => omega
theorem wd_ctr (e : Nat) (ht : enterD (wdC e).args fs5.ntmps 0 .nil = some wdT) : CtrOK Tryd.prog 27 (wdC e) := by
  refine ctr_loops (loops := [lp3, lp4]) (inv := wdI) (fuel := 100000) (stp := stpL [1, 3]) gsz mixed (runD_ok static kn3_ok 20) Tryd.func27 (by kernel_rfl) (show fs5.body = some (bodyOf fs5) by kernel_rfl) (by kernel_rfl) ht wd_lps (fun ρ hF => wd_start e ρ hF) ?_
  intro i lp hlp ρ0 ρ n hF hI
  have := wd_loop e i ρ0 ρ n hF hI
  match i, hlp with
  | 0, hlp => simp at hlp; subst hlp; exact this
  | 1, hlp => simp at hlp; subst hlp; exact this
  | i + 2, hlp => simp at hlp
noncomputable def gWd : Gn := gC Tryd.prog 9 (wdC 0) [wdC 11, wdC 14, wdC 15]
theorem gWd_ok : GoodAt Tryd.prog 27 gWd := good_C gsz (by kernel_rfl) (fun x hx => by
  simp only [List.mem_cons, List.mem_nil_iff, or_false] at hx
  rcases hx with rfl | rfl | rfl | rfl
  · exact wd_ctr 0 (by kernel_rfl)
  · exact wd_ctr 11 (by kernel_rfl)
  · exact wd_ctr 14 (by kernel_rfl)
  · exact wd_ctr 15 (by kernel_rfl))
end Go.Proofs.YtcncmfefcbdnoaaDoor
