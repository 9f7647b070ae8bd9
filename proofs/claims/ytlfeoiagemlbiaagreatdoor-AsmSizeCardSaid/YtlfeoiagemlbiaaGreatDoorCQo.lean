/- The reference's numbers: the contract. -/
import Derived.Test.YtlfeoiagemlbiaaGreatDoorCQn
set_option linter.unusedVariables false
set_option linter.unusedSectionVars false
set_option linter.unusedSimpArgs false
set_option maxRecDepth 100000
noncomputable section
namespace Go.Proofs.YtlfeoiagemlbiaaGreatDoor
open Go.Den Go.Proofs Go.Extern Go.RowKit
variable [Mqa]
/-- by value, below a bound -/
def nmM (n : Nat) : Nat := if n ≤ 1099511627776 then n else 1099511627776
theorem nmM_le (n : Nat) : nmM n ≤ 1099511627776 := by unfold nmM; split <;> omega
theorem nmM_step {v b d : Nat} (hb : 10 ≤ b) : nmM (v * b + d) = if 1099511627776 < nmM v * b + d then 1099511627776 else nmM v * b + d := by
  unfold nmM
  by_cases h : v ≤ 1099511627776
  · rw [if_pos h]; split <;> split <;> omega
  · rw [if_neg h]
    have h1 : v * 10 ≤ v * b := Nat.mul_le_mul_left v hb
    have h2 : 1099511627776 * 10 ≤ 1099511627776 * b := Nat.mul_le_mul_left _ hb
    rw [if_neg (by omega), if_pos (by omega)]
theorem nmM_big (n : Nat) : 1099511627776 ≤ nmM n ↔ 1099511627776 ≤ n := by unfold nmM; split <;> omega
theorem nmM_small {n : Nat} (h : ¬ 1099511627776 ≤ n) : nmM n = n := by unfold nmM; rw [if_pos (by omega)]
theorem nm_digit0 : ∀ n : Fin 256, (isDec (UInt8.ofNat n.val) = true ↔ 0 ≤ hexV n.val ∧ hexV n.val < 10) ∧ (isHex (UInt8.ofNat n.val) = true ↔ 0 ≤ hexV n.val ∧ hexV n.val < 16) ∧ (0 ≤ hexV n.val → hexV n.val = ((digV (UInt8.ofNat n.val) : Nat) : Int)) := by decide +kernel
theorem nm_digit (x : Nat) (c : UInt8) : (nmP x c = true ↔ 0 ≤ hexV c.toNat ∧ hexV c.toNat < (nmBs x : Int)) ∧ (0 ≤ hexV c.toNat → hexV c.toNat = ((digV c : Nat) : Int)) := by
  have h := nm_digit0 ⟨c.toNat, UInt8.toNat_lt c⟩
  simp only [UInt8.ofNat_toNat] at h
  refine ⟨?_, h.2.2⟩
  match x with
  | 0 => exact h.1
  | x + 1 => exact h.2.1
theorem nmBs_10 (x : Nat) : 10 ≤ nmBs x := by match x with
  | 0 => exact Nat.le_refl _
  | x + 1 => show 10 ≤ 16; decide
theorem nmBs_16 (x : Nat) : nmBs x ≤ 16 := by match x with
  | 0 => show 10 ≤ 16; decide
  | x + 1 => exact Nat.le_refl _
def nmG (x : Nat) (s : List UInt8) : Rn := rnumG (nmP x) (nmBs x) (nmO x) s
noncomputable def nmI (i x : Nat) (ρ0 ρ : Rho) (m : Nat) : Prop := ∃ (s : List UInt8) (j : Nat), i = 0 ∧ x ≤ 1 ∧ ρ 0 = ρ0 0 ∧ (ρ0 0).s = s ∧ s.length < 1000000 ∧ nmO x ≤ s.length ∧ rnumF s = nmG x s ∧ (ρ 1).i = ((nmO x + j : Nat) : Int) ∧ j ≤ tw (nmP x) (s.drop (nmO x)) ∧ (ρ 2).i = ((nmM (valF (nmBs x) ((s.drop (nmO x)).take j)) : Nat) : Int) ∧ m = s.length - (nmO x + j)
theorem nm_err {e : Nat} {ρ : Rho} (hF : ∀ x ∈ (nmC e).facts, x.holds ρ) : (ρ 0).s.length < 1000000 ∧ (rnumF (ρ 0).s).err = e := by
  have h1 := short_of (hF _ List.mem_cons_self)
  have h2 : ((((rnumF (ρ 0).s).err : Nat) : Int) == (e : Int)) = true := hF _ (List.mem_cons_of_mem _ List.mem_cons_self)
  have := eq_of_beq h2
  exact ⟨by omega, by omega⟩
theorem nm_fin {e x : Nat} {ρ0 ρ : Rho} {cur : Option (Nat × Nat)} {v : SE} {F : List Fact} (h : nmNd e x v F = true) {R : Rn} (hR : rnumF (ρ0 0).s = R) (h1 : (R.n : Int) = (SE.v 1).den ρ) (h2 : (R.v : Int) = v.den ρ) :
    OutA Tryz.prog 9 fsNm (nmC e) [nmLp] nmI ρ0 ρ cur (nmRd x F) := by
  refine .fin [] _ (needsB_ok h) (nd_cons ?_ (nd_cons ?_ nd_nil))
  · show (((rnumF (ρ0 0).s).n : Nat) : Int) = _; rw [hR]; exact h1
  · show (((rnumF (ρ0 0).s).v : Nat) : Int) = _; rw [hR]; exact h2
theorem nm_loop (e : Nat) (x : Nat) (hx : x ≤ 1) (ρ0 ρ : Rho) (m : Nat) (hF : ∀ x ∈ (nmC e).facts, x.holds ρ0) (hI : nmI 0 x ρ0 ρ m) :
    ∃ F : List Fact, (∀ x ∈ F, x.holds ρ) ∧ OutA Tryz.prog 9 fsNm (nmC e) [nmLp] nmI ρ0 ρ (some (0, m)) (nmRd x F) := by
  obtain ⟨s, j, _, _, h0, hs, hsh, hol, hR, h1, hj, h2, hm⟩ := hI
  obtain ⟨_, he⟩ := nm_err hF
  rw [hs] at he
  have hs0 : (ρ 0).s = s := by rw [h0, hs]
  have hlen : (tLen (.v 0)).den ρ = (s.length : Int) := by show ((ρ 0).s.length : Int) = _; rw [hs0]
  have e1 : (SE.v 1).den ρ = ((nmO x + j : Nat) : Int) := h1
  obtain ⟨t, ht⟩ : ∃ t, t = s.drop (nmO x) := ⟨_, rfl⟩
  have htl : t.length = s.length - nmO x := by rw [ht, List.length_drop]
  rw [← ht] at hj h2
  have e2 : (SE.v 2).den ρ = ((nmM (valF (nmBs x) (t.take j)) : Nat) : Int) := h2
  have hjl : j ≤ t.length := Nat.le_trans hj (tw_le t)
  have hcan : nmLp.cans[x]? = some (nmCan x) := by match x, hx with
    | 0, _ => rfl
    | 1, _ => rfl
  have hle := nmM_le (valF (nmBs x) (t.take j))
  -- it ends here, with no byte of a word behind
  have stop : tw (nmP x) t = j → ¬(nmO x + j < s.length ∧ isNum ((s[nmO x + j]?).getD 0) = true) → ∀ F : List Fact, (∀ y ∈ F, y.holds ρ) → (nmNd 14 x (.n 0) (F ++ nmOv true) = true ∧ nmNd 0 x (.v 2) (F ++ nmOv false) = true) → ∃ F : List Fact, (∀ x ∈ F, x.holds ρ) ∧ OutA Tryz.prog 9 fsNm (nmC e) [nmLp] nmI ρ0 ρ (some (0, m)) (nmRd x F) := by
    intro htw hno F hG hck
    have hg : rnumF s = if 1099511627776 ≤ valF (nmBs x) (t.take j) then ⟨nmO x + j, 0, 14⟩ else ⟨nmO x + j, valF (nmBs x) (t.take j), 0⟩ := by
      rw [hR]
      unfold nmG rnumG
      rw [← ht, htw, if_neg hno]
    by_cases hb : 1099511627776 ≤ valF (nmBs x) (t.take j)
    · rw [if_pos hb] at hg
      rw [hg] at he; have he' : 14 = e := he; subst he'
      exact ⟨_, fl_app hG (fl_cons (leT (by rw [e2, den_n]; have := (nmM_big (valF (nmBs x) (t.take j))).2 hb; omega)) fl_nil), nm_fin hck.1 (show rnumF (ρ0 0).s = ⟨nmO x + j, 0, 14⟩ by rw [hs]; exact hg) e1.symm rfl⟩
    · rw [if_neg hb] at hg
      rw [hg] at he; have he' : 0 = e := he; subst he'
      have hv := nmM_small hb
      exact ⟨_, fl_app hG (fl_cons (leN (by rw [e2, den_n, hv]; omega)) fl_nil), nm_fin hck.2 (show rnumF (ρ0 0).s = ⟨nmO x + j, valF (nmBs x) (t.take j), 0⟩ by rw [hs]; exact hg) e1.symm (by rw [e2, hv])⟩
  by_cases hlt : nmO x + j < s.length
  · have hin : ∀ y ∈ nmIn, y.holds ρ := fl_cons (ltT (by rw [e1, hlen]; omega)) (fl_cons (ltN (by rw [e1, den_n]; omega)) fl_nil)
    obtain ⟨c, hc⟩ : ∃ c, c = (t[j]?).getD 0 := ⟨_, rfl⟩
    have hgs : (s[nmO x + j]?).getD 0 = c := by rw [hc, ht, List.getElem?_drop]
    have hbv : nmBy.den ρ = (c.toNat : Int) := by
      show ((((ρ 0).s[((SE.v 1).den ρ).toNat]?).getD 0).toNat : Int) = _
      rw [e1, hs0, Int.toNat_natCast, hgs]
    have hhv : nmH.den ρ = hexV c.toNat := by
      show hexV (nmBy.den ρ).toNat = _
      rw [hbv, Int.toNat_natCast]
    obtain ⟨hd1, hd2⟩ := nm_digit x c
    have hb10 := nmBs_10 x
    have hb16 := nmBs_16 x
    by_cases hp : nmP x c = true
    · -- a digit
      obtain ⟨q1, q2⟩ := hd1.1 hp
      have hdv := hd2 q1
      have hm1 : nmM (valF (nmBs x) (t.take j)) * nmBs x ≤ 1099511627776 * 16 := Nat.mul_le_mul hle hb16
      have hV : (nmV x).den ρ = ((nmM (valF (nmBs x) (t.take j)) * nmBs x + digV c : Nat) : Int) := by
        show IntKind.i64.wrap (IntKind.i64.wrap ((SE.v 2).den ρ * (nmBs x : Int)) + nmH.den ρ) = _
        have hdb : digV c < 16 := by omega
        rw [e2, hhv, hdv, show ((nmM (valF (nmBs x) (t.take j)) : Nat) : Int) * (nmBs x : Int) = ((nmM (valF (nmBs x) (t.take j)) * nmBs x : Nat) : Int) by simp]
        generalize nmM (valF (nmBs x) (t.take j)) * nmBs x = P at hm1
        rw [show IntKind.i64.wrap (P : Int) = (P : Int) from wrap64 (by omega) (by omega), wrap64 (by omega) (by omega)]; simp
      have hstep := nmM_step (v := valF (nmBs x) (t.take j)) (b := nmBs x) (d := digV c) hb10
      have htake : t.take (j + 1) = t.take j ++ [c] := by
        have hjt : j < t.length := by omega
        rw [List.take_add_one, hc, List.getElem?_eq_getElem hjt]; rfl
      have hval : valF (nmBs x) (t.take (j + 1)) = valF (nmBs x) (t.take j) * nmBs x + digV c := by rw [htake, valF_snoc]
      have hnx : nmNx.den ρ = ((nmO x + (j + 1) : Nat) : Int) := by
        show IntKind.i64.wrap ((SE.v 1).den ρ + 1) = _
        rw [e1, wrap64 (by omega) (by omega)]; simp; omega
      have hj1 := tw_next hj (by omega) (by rw [← hc]; exact hp)
      obtain ⟨o, ho⟩ : ∃ o, o = decide (1099511627776 < nmM (valF (nmBs x) (t.take j)) * nmBs x + digV c) := ⟨_, rfl⟩
      have hag : nmAg x o = true := by
        have := nm_again
        simp only [Bool.and_eq_true] at this
        obtain ⟨⟨⟨a1, a2⟩, a3⟩, a4⟩ := this
        match x, hx with
        | 0, _ => cases o <;> assumption
        | 1, _ => cases o <;> assumption
      refine ⟨nmD x o, fl_app hin (fl_cons (leT (by rw [hhv, den_n]; exact q1)) (fl_cons (ltT (by rw [hhv, den_n]; exact q2)) (fl_cons (ltB o (by rw [hV, den_n, ho, Bool.eq_iff_iff]; simp; omega)) fl_nil))), .again 0 m x nmLp (nmCan x) _ _ (s.length - (nmO x + (j + 1))) rfl rfl hcan (by omega) hag rfl ⟨s, j + 1, rfl, hx, h0, hs, hsh, hol, hR, hnx, by rw [← ht]; exact hj1, ?_, rfl⟩⟩
      rw [← ht, hval, hstep]
      cases o with
      | true =>
        have := of_decide_eq_true ho.symm
        rw [if_pos this]; rfl
      | false =>
        have := of_decide_eq_false ho.symm
        rw [if_neg this]; exact hV
    · have hp' : nmP x c = false := by simpa using hp
      have htw : tw (nmP x) t = j := tw_stop hj (fun _ => by rw [← hc]; exact hp') hjl
      have hck : nmOut x c.toNat = true := by match x, hx with
        | 0, _ => exact allBytes_ok nm_out0 c.toNat (UInt8.toNat_lt c)
        | 1, _ => exact allBytes_ok nm_out1 c.toNat (UInt8.toNat_lt c)
      have hcc : UInt8.ofNat c.toNat = c := by simp
      unfold nmOut at hck
      rw [hcc, hp', cond_false] at hck
      have h00 : nmH0 c.toNat = decide (0 ≤ hexV c.toNat) := by
        unfold nmH0
        rw [leZ_eq]
      have hG : ∀ y ∈ nmF x c.toNat, y.holds ρ := fl_app hin (fl_app (fl_cons (eqF_ok (by rw [hbv]; rfl)) (fl_cons (leB (nmH0 c.toNat) (by rw [hhv, den_n, h00])) fl_nil)) (by
        cases hz : nmH0 c.toNat with
        | false => exact fl_nil
        | true =>
          refine fl_cons (ltN ?_) fl_nil
          rw [hhv, den_n]
          rw [h00] at hz
          have hz' := of_decide_eq_true hz
          by_cases hq : hexV c.toNat < (nmBs x : Int)
          · exact absurd (hd1.2 ⟨hz', hq⟩) hp
          · show (nmBs x : Int) ≤ _; omega))
      cases hn : isNum c with
      | true =>
        rw [hn, cond_true] at hck
        have hg : rnumF s = ⟨nmO x + j, 0, 11⟩ := by
          rw [hR]
          unfold nmG rnumG
          rw [← ht, htw, if_pos ⟨hlt, by rw [hgs]; exact hn⟩]
        rw [hg] at he; have he' : 11 = e := he; subst he'
        exact ⟨_, hG, nm_fin hck (show rnumF (ρ0 0).s = ⟨nmO x + j, 0, 11⟩ by rw [hs]; exact hg) e1.symm rfl⟩
      | false =>
        rw [hn, cond_false, Bool.and_eq_true] at hck
        exact stop htw (fun h => by rw [hgs, hn] at h; exact absurd h.2 (by decide)) _ hG hck
  · have hjt : j = t.length := by omega
    have htw : tw (nmP x) t = j := tw_stop hj (fun h => by omega) hjl
    have hck := nm_end
    rw [Bool.and_eq_true] at hck
    have hck2 : nmE x = true := by match x, hx with
      | 0, _ => exact hck.1
      | 1, _ => exact hck.2
    unfold nmE at hck2
    rw [Bool.and_eq_true] at hck2
    exact stop htw (fun h => absurd h.1 hlt) [(.lt, .v 1, tLen (.v 0), false)] (fl_cons (ltN (by rw [e1, hlen]; omega)) fl_nil) hck2
theorem nm_start (e : Nat) (ρ : Rho) (hF : ∀ x ∈ (nmC e).facts, x.holds ρ) : ∃ F : List Fact, (∀ x ∈ F, x.holds ρ) ∧ OutA Tryz.prog 9 fsNm (nmC e) [nmLp] nmI ρ ρ none (nmS F) := by
  obtain ⟨hsh, _⟩ := nm_err hF
  obtain ⟨s, hs⟩ : ∃ s, s = (ρ 0).s := ⟨_, rfl⟩
  rw [← hs] at hsh
  have hlen : (tLen (.v 0)).den ρ = (s.length : Int) := by show ((ρ 0).s.length : Int) = _; rw [hs]
  have hby : ∀ i : Nat, (nmB i).den ρ = (((s[i]?).getD 0).toNat : Int) := fun i => by
    show ((((ρ 0).s[((i : Int)).toNat]?).getD 0).toNat : Int) = _
    rw [← hs, Int.toNat_natCast]
  have hst := nm_stop
  simp only [Bool.and_eq_true] at hst
  obtain ⟨⟨⟨⟨⟨s0, s1⟩, s2⟩, s3⟩, s4⟩, _⟩ := hst
  have go : ∀ k, k ≤ 4 → nmStB k = true → (∀ x ∈ nmSt k, x.holds ρ) → nmO (nmX k) ≤ s.length → rnumF s = nmG (nmX k) s → nmLp.cans[nmX k]? = some (nmCan (nmX k)) → srB (nmS (nmSt k)) = nmLp.b → srK (nmS (nmSt k)) = nmLp.K → ∃ F : List Fact, (∀ x ∈ F, x.holds ρ) ∧ OutA Tryz.prog 9 fsNm (nmC e) [nmLp] nmI ρ ρ none (nmS F) := by
    intro k hk hB hG hol hR hcan hb hK
    have hx1 : nmX k ≤ 1 := by unfold nmX; split <;> omega
    refine ⟨nmSt k, hG, .stop 0 (nmX k) nmLp (nmCan (nmX k)) _ [] (s.length - (nmO (nmX k) + 0)) rfl hcan (fun i m h => by cases h) hb hK hB rfl ⟨s, 0, rfl, hx1, rfl, hs.symm, hsh, hol, hR, ?_, Nat.zero_le _, ?_, rfl⟩⟩
    · rfl
    · rw [List.take_zero]; rfl
  have none16 : rhexB s = false → rnumF s = nmG 0 s := fun h => by unfold rnumF; rw [if_neg (by rw [h]; decide)]; rfl
  by_cases h2 : 2 < s.length
  · obtain ⟨a, b, c, r, hr⟩ : ∃ a b c r, s = a :: b :: c :: r := by
      match s, h2 with
      | a :: b :: c :: r, _ => exact ⟨a, b, c, r, rfl⟩
    have hB0 : (nmB 0).den ρ = (a.toNat : Int) := by have := hby 0; rw [hr] at this; exact this
    have hB1 : (nmB 1).den ρ = (b.toNat : Int) := by have := hby 1; rw [hr] at this; exact this
    have hB2 : (nmB 2).den ρ = (c.toNat : Int) := by have := hby 2; rw [hr] at this; exact this
    have f1 : ∀ x ∈ nmS1, x.holds ρ := fl_cons (ltT (by rw [hlen, den_n]; omega)) (fl_cons (ltT (by rw [hlen, den_n]; omega)) fl_nil)
    have hx : rhexB s = (a == 48 && b == 120 && isHex c) := by rw [hr]; rfl
    have ne : ∀ (u : UInt8) (n : Nat) (hn : n < 256), u ≠ UInt8.ofNat n → (u.toNat : Int) ≠ (n : Int) := fun u n hn h h2 => h (by
      have : u.toNat = n := by omega
      rw [← this]; simp)
    by_cases ha : a = 48
    · have f2 : ∀ x ∈ nmS2, x.holds ρ := fl_app f1 (fl_cons (eqF_ok (by rw [hB0, ha]; rfl)) (fl_cons (ltT (by rw [hlen, den_n]; omega)) fl_nil))
      by_cases hb : b = 120
      · have f3 : ∀ x ∈ nmS3, x.holds ρ := fl_app f2 (fl_cons (eqF_ok (by rw [hB1, hb]; rfl)) fl_nil)
        have hh : (nmHx (nmB 2)).den ρ = hexV c.toNat := by show hexV ((nmB 2).den ρ).toNat = _; rw [hB2, Int.toNat_natCast]
        obtain ⟨hd1, _⟩ := nm_digit 1 c
        have h16 : hexV c.toNat < 16 := by
          have : ∀ n : Fin 256, hexV n.val < 16 := by decide +kernel
          exact this ⟨c.toNat, UInt8.toNat_lt c⟩
        by_cases hc : isHex c = true
        · refine go 4 (by decide) s4 (fl_app f3 (fl_cons (leT (by rw [hh, den_n]; exact (hd1.1 hc).1)) fl_nil)) (by show 2 ≤ _; omega) ?_ rfl rfl rfl
          unfold rnumF
          rw [if_pos (by rw [hx, ha, hb, hc]; rfl)]; rfl
        · refine go 3 (by decide) s3 (fl_app f3 (fl_cons (leN (by
            rw [hh, den_n]
            by_cases hq : 0 ≤ hexV c.toNat
            · exact absurd (hd1.2 ⟨hq, h16⟩) hc
            · omega)) fl_nil)) (Nat.zero_le _) (none16 (by rw [hx, ha, hb]; simpa using hc)) rfl rfl rfl
      · exact go 2 (by decide) s2 (fl_app f2 (fl_cons (neF_ok (by rw [hB1]; exact ne b 120 (by decide) hb)) fl_nil)) (Nat.zero_le _) (none16 (by rw [hx]; simp [hb])) rfl rfl rfl
    · exact go 1 (by decide) s1 (fl_app f1 (fl_cons (neF_ok (by rw [hB0]; exact ne a 48 (by decide) ha)) fl_nil)) (Nat.zero_le _) (none16 (by rw [hx]; simp [ha])) rfl rfl rfl
  · refine go 0 (by decide) s0 (fl_cons (ltN (by rw [hlen, den_n]; omega)) fl_nil) (Nat.zero_le _) (none16 ?_) rfl rfl rfl
    unfold rhexB
    split
    · rename_i h; simp at h2
    · rfl
theorem nm_ctr (e : Nat) (ht : enterD (nmC e).args fsNm.ntmps 0 .nil = some nmT) : CtrOK Tryz.prog 98 (nmC e) := by
  have hst := nm_stop
  simp only [Bool.and_eq_true] at hst
  refine ctr_loopsA (loops := [nmLp]) (inv := nmI) (fuel := 100000) (stp := stpL [0]) gsz mixed (runD_ok static knq0_ok 20) Tryz.func98 (by kernel_rfl) (show fsNm.body = some (bodyOf fsNm) by kernel_rfl) (by kernel_rfl) ht (by show (laB (9 + 1) nmLp && true) = true; rw [hst.2]; rfl) (fun ρ hF => nm_start e ρ hF) ?_
  intro i lp x can hlp hx ρ0 ρ n hF hI
  match i, hlp with
  | 0, hlp =>
    obtain rfl : nmLp = lp := Option.some.inj hlp
    match x, hx with
    | 0, hx => cases hx; exact nm_loop e 0 (by omega) ρ0 ρ n hF hI
    | 1, hx => cases hx; exact nm_loop e 1 (by omega) ρ0 ρ n hF hI
    | x + 2, hx => simp [nmLp] at hx
  | i + 1, hlp => simp at hlp
noncomputable def gNm : Gn := gC Tryz.prog 9 (nmC 0) [nmC 11, nmC 14]
theorem three {P : Program} {f : FuncId} {a b c : Ctr} (ha : CtrOK P f a) (hb : CtrOK P f b) (hc : CtrOK P f c) : ∀ x ∈ [a, b, c], CtrOK P f x := fun x hx => by
  simp only [List.mem_cons, List.mem_nil_iff, or_false] at hx
  rcases hx with rfl | rfl | rfl
  · exact ha
  · exact hb
  · exact hc
theorem gNm_ok : GoodAt Tryz.prog 98 gNm := good_C gsz (by kernel_rfl) (three (nm_ctr 0 (by kernel_rfl)) (nm_ctr 11 (by kernel_rfl)) (nm_ctr 14 (by kernel_rfl)))
end Go.Proofs.YtlfeoiagemlbiaaGreatDoor
