/- The reference's operands: the contract. -/
import Derived.Test.YtlfeoiagemlbiaaGreatDoorCQe
set_option linter.unusedVariables false
set_option linter.unusedSectionVars false
set_option linter.unusedSimpArgs false
set_option maxRecDepth 100000
noncomputable section
namespace Go.Proofs.YtlfeoiagemlbiaaGreatDoor
open Go.Den Go.Proofs Go.Extern Go.RowKit
variable [Mqc]
theorem opF_of {ok : Bool} {ρ : Rho} (hF : ∀ x ∈ (opC ok).facts, x.holds ρ) : ∃ (l : Rw) (p0 : Nat), (ρ 0).r = l ∧ (ρ 1).i = (p0 : Int) ∧ l.length < 1000000 ∧ p0 < l.length ∧ ok = decide ((opsF l p0).2.1 = 0) := by
  have hB : ∀ x ∈ opFs, x.holds ρ := fun x hx => hF x (List.mem_append_left _ hx)
  have f1 : Fact.holds ρ (.lt, tRows (.v 0), .n 1000000, true) := hB _ List.mem_cons_self
  have f2 : Fact.holds ρ (.lt, .v 1, .n 0, false) := hB _ (List.mem_cons_of_mem _ List.mem_cons_self)
  have f3 : Fact.holds ρ (.lt, .v 1, tRows (.v 0), true) := hB _ (List.mem_cons_of_mem _ (List.mem_cons_of_mem _ List.mem_cons_self))
  have k1 : (((ρ 0).r.length : Nat) : Int) < 1000000 := by have h := of_ltT f1; rw [den_n] at h; exact h
  have k2 : 0 ≤ (ρ 1).i := by have h := of_ltN f2; rw [den_n] at h; exact h
  have k3 : (ρ 1).i < (((ρ 0).r.length : Nat) : Int) := of_ltT f3
  obtain ⟨p0, hp⟩ : ∃ p0 : Nat, (ρ 1).i = (p0 : Int) := ⟨(ρ 1).i.toNat, by omega⟩
  have e77 : (os 77).den ρ = ((opsF (ρ 0).r p0).2.1 : Int) := by
    show ((((opsF ((SE.v 0).D ρ).r ((SE.v 1).D ρ).i.toNat).2.1 : Nat)) : Int) = _
    rw [show ((SE.v 1).D ρ).i = (p0 : Int) from hp, Int.toNat_natCast]; rfl
  refine ⟨(ρ 0).r, p0, rfl, hp, by omega, by omega, ?_⟩
  have g : Fact.holds ρ (.eq, os 77, .n 0, ok) := hF _ (List.mem_append_right _ List.mem_cons_self)
  cases ok with
  | true => have := of_eqT g; rw [e77] at this; exact (decide_eq_true (by omega)).symm
  | false => have := of_eqN g; rw [e77] at this; exact (decide_eq_false (by omega)).symm
noncomputable def opI (i x : Nat) (ρ0 ρ : Rho) (m : Nat) : Prop := ∃ (l : Rw) (p0 p d b : Nat) (A : List (Nat × Nat)) (f : Nat), i = 0 ∧ x ≤ 3 ∧ ρ 0 = ρ0 0 ∧ ρ 1 = ρ0 1 ∧ (ρ0 0).r = l ∧ (ρ0 1).i = (p0 : Int) ∧ (ρ 2).i = (p : Int) ∧ (ρ 3).i = (d : Int) ∧ b ≤ p ∧ p ≤ l.length ∧ d ≤ p ∧ A.length ≤ p ∧ m = l.length - p ∧ l.length + 1 - p < f ∧
  (opO x = true → b < p ∧ (ρ 6).r.length = p - b) ∧ (opO x = false → b = p) ∧ (opU x = true → (ρ 5).r = anyR (A.map argR)) ∧ (opU x = false → A = []) ∧
  (opsF l p0).1 = A ++ (opsG l f p d b).1 ∧ (opsF l p0).2 = (opsG l f p d b).2
theorem op_can {x : Nat} (hx : x ≤ 3) : opLp.cans[x]? = some (opCan x) := match x, hx with
  | 0, _ => rfl
  | 1, _ => rfl
  | 2, _ => rfl
  | 3, _ => rfl
theorem op_all {x : Nat} (hx : x ≤ 3) : opAllX x = true := match x, hx with
  | 0, _ => op_0
  | 1, _ => op_1
  | 2, _ => op_2
  | 3, _ => op_3
theorem opY_ok {x : Nat} (hx : x ≤ 3) : opY x ≤ 3 ∧ opO (opY x) = true ∧ opU (opY x) = opU x := by
  match x, hx with
  | 0, _ => exact ⟨by decide, by decide, by decide⟩
  | 1, _ => exact ⟨by decide, by decide, by decide⟩
  | 2, _ => exact ⟨by decide, by decide, by decide⟩
  | 3, _ => exact ⟨by decide, by decide, by decide⟩
theorem op_loop (ok : Bool) (x : Nat) (hx : x ≤ 3) (ρ0 ρ : Rho) (m : Nat) (hF : ∀ x ∈ (opC ok).facts, x.holds ρ0) (hI : opI 0 x ρ0 ρ m) :
    ∃ F : List Fact, (∀ x ∈ F, x.holds ρ) ∧ OutA Tryz.prog 9 fsOp (opC ok) [opLp] opI ρ0 ρ (some (0, m)) (opRd x F) := by
  obtain ⟨l, p0, p, d, b, A, f, _, _, h0, h01, hl, hp0, hp, hd, hbp, hpl, hdp, hAp, hm, hf, hO1, hO0, hU1, hU0, hrows, herr⟩ := hI
  obtain ⟨l', p0', hl', hp0', hll, _, hok⟩ := opF_of hF
  obtain rfl : l' = l := hl'.symm.trans hl
  obtain rfl : p0' = p0 := by have := hp0'.symm.trans hp0; omega
  have hl0 : (ρ 0).r = l' := by rw [h0]; exact hl
  have hrow : (tRows (.v 0)).den ρ = (l'.length : Int) := by show (((ρ 0).r.length : Nat) : Int) = _; rw [hl0]
  have e2 : (SE.v 2).den ρ = (p : Int) := hp
  have e3 : (SE.v 3).den ρ = (d : Int) := hd
  have e6 : (tRows (.v 6)).den ρ = (((ρ 6).r.length : Nat) : Int) := rfl
  have e5 : (tRows (.v 5)).den ρ = (((ρ 5).r.length : Nat) : Int) := rfl
  have hOne : ∀ y ∈ opOneF x, y.holds ρ := by
    unfold opOneF
    cases ho : opO x with
    | false => exact fl_nil
    | true =>
      obtain ⟨q1, q2⟩ := hO1 ho
      exact fl_cons (ltT (by rw [e6, q2, den_n]; omega)) (fl_cons (ltT (by rw [e6, q2, den_n]; omega)) (fl_cons (neF_ok (by rw [e6, q2]; omega)) fl_nil))
  have hOut : ∀ y ∈ opOutF x, y.holds ρ := by
    unfold opOutF
    cases hu : opU x with
    | false => exact fl_nil
    | true => exact fl_cons (ltT (by rw [e5, hU1 hu, anyR_len, List.length_map, den_n]; omega)) fl_nil
  have hck := op_all hx
  unfold opAllX at hck
  simp only [Bool.and_eq_true] at hck
  obtain ⟨⟨⟨⟨⟨⟨⟨⟨⟨⟨m0t, m0f⟩, m1t⟩, m1f⟩, m2f⟩, m3t⟩, m3f⟩, m4t⟩, m4f⟩, hcut⟩, hend⟩ := hck
  have hnx2 : (opC ok).nx - 1 = 9 + 1 := by cases ok <;> rfl
  have e76 : (os 76).row ρ0 = (opsF l' p0').1.map argR := by
    show (opsF (ρ0 0).r (ρ0 1).i.toNat).1.map argR = _
    rw [hl, hp0, Int.toNat_natCast]
  have e78 : (os 78).den ρ0 = (((opsF l' p0').2.2 : Nat) : Int) := by
    show ((((opsF (ρ0 0).r (ρ0 1).i.toNat).2.2 : Nat)) : Int) = _
    rw [hl, hp0, Int.toNat_natCast]
  have eA : opA.row ρ0 = anyR ((opsF l' p0').1.map argR) := by show anyR ((os 76).row ρ0) = _; rw [e76]
  -- an operand behind the others
  have hAdd : ∀ a : Nat × Nat, (opAdd (opU x) (.v 5) opRow1).row ρ = anyR ((A ++ [a]).map argR) := fun a => by
    rw [List.map_append, anyR_app]
    show (bif opU x then SE.v 5 else tRowN).row ρ ++ [[((0 : Int), ([] : List UInt8))]] = _
    cases hu : opU x with
    | true => show (ρ 5).r ++ _ = _; rw [hU1 hu]; rfl
    | false => rw [hU0 hu]; rfl
  cases f with
  | zero => omega
  | succ f =>
    by_cases hpe : p = l'.length
    · have hs : signAt l' p = [] := by unfold signAt; rw [if_neg (by omega)]
      have hg : opsG l' (f + 1) p d b = (if p = b then ([], 1, p) else ((b, p - b) :: (opsG l' f (p + 1) d (p + 1)).1, (opsG l' f (p + 1) d (p + 1)).2)) := by
        rw [opsG, if_neg (by omega), if_neg (by rw [hs]; decide), if_neg (by rw [hs]; decide), if_pos (.inl hpe)]
      have hEn : ∀ y ∈ opEn x, y.holds ρ := fl_app (fl_cons (ltN (by rw [e2, den_n]; omega)) (fl_cons (ltN (by rw [e2, hrow]; omega)) fl_nil)) (fl_app hOne hOut)
      unfold opEnd at hend
      cases ho : opO x with
      | false =>
        rw [ho, cond_false] at hend
        have hb := hO0 ho
        rw [if_pos hb.symm] at hg
        rw [hg] at herr
        have : ok = false := by rw [hok, herr]; rfl
        subst this
        exact ⟨opEn x, hEn, .fin _ _ (needsB_ok hend) (nd_cons (by show (os 78).den ρ0 = (tRows (.v 0)).den ρ; rw [e78, herr, hrow, hpe]) (nd_cons (by show (ρ0 0).r = (ρ 0).r; rw [h0]) nd_nil))⟩
      | true =>
        rw [ho, cond_true] at hend
        obtain ⟨q1, q2⟩ := hO1 ho
        obtain ⟨f', rfl⟩ : ∃ f', f = f' + 1 := ⟨f - 1, by omega⟩
        have hz : opsG l' (f' + 1) (p + 1) d (p + 1) = ([], 0, 0) := by rw [opsG, if_pos (by omega)]
        rw [if_neg (by omega), hz] at hg
        rw [hg] at herr hrows
        have : ok = true := by rw [hok, herr]; rfl
        subst this
        have hAA : (opAdd (opU x) (.v 5) opRow1).row ρ = opA.row ρ0 := by rw [hAdd (b, p - b), eA, hrows]
        refine ⟨opEn x, hEn, .fin _ _ (needsB_ok hend) (nd_cons rfl (nd_cons ?_ (nd_cons rfl (nd_cons (by show (ρ0 0).r = (ρ 0).r; rw [h0]) (nd_cons hAA.symm nd_nil)))))⟩
        have hlen : (tRows opA).den ρ0 = (((A ++ [(b, p - b)]).length : Nat) : Int) := by
          show (((opA.row ρ0).length : Nat) : Int) = _
          rw [eA, hrows, anyR_len, List.length_map]
        cases hu : opU x with
        | true =>
          show (tRows opA).den ρ0 = (((opAdd true (.v 5) opRow1).row ρ).length : Nat)
          rw [← hu, hAdd (b, p - b), anyR_len, List.length_map, hlen]
        | false =>
          show (tRows opA).den ρ0 = 1
          rw [hlen, hU0 hu]; rfl
    · have hlt : p < l'.length := by omega
      have hin : ∀ y ∈ opIn, y.holds ρ := fl_cons (ltN (by rw [e2, den_n]; omega)) (fl_cons (leT (by rw [e2, den_n]; omega)) (fl_cons (ltT (by rw [e2, hrow]; omega)) fl_nil))
      have eNx : osNx.den ρ = ((p + 1 : Nat) : Int) := by
        show IntKind.i64.wrap ((SE.v 2).den ρ + 1) = _
        rw [e2, wrap64 (by omega) (by omega)]; simp
      have hcell : ∀ j : Nat, cellAt (ρ 0).r ((SE.v 2).den ρ).toNat ((j : Nat) : Int).toNat = cellAt l' p j := fun j => by rw [hl0, e2, Int.toNat_natCast, Int.toNat_natCast]
      have qK : opK.den ρ = tkK l' p := congrArg Prod.fst (hcell 0)
      have qT : opTx.str ρ = tkT l' p := congrArg Prod.snd (hcell 1)
      have hZ : ∀ z, z = decide (d = 0) → ∀ y ∈ [(.eq, .v 3, .n 0, z), (.lt, .n 0, .v 3, !z)], Fact.holds ρ y := fun z hz => fl_cons (eqB_ok z (by rw [e3, hz, decide_eq_decide]; omega)) (fl_cons (ltB (!z) (by
        rw [den_n, e3, hz, Bool.eq_iff_iff]; simp; omega)) fl_nil)
      have hW : ∀ q, q ≤ 4 → (q = 0 → tkK l' p ≠ 3) → (q ≠ 0 → tkK l' p = 3 ∧ (Nat.beq q 2 = decide (tkT l' p = [44])) ∧ (Nat.beq q 3 = decide (tkT l' p = [40])) ∧ (Nat.beq q 4 = decide (tkT l' p = [41]))) → ∀ y ∈ opWord q, Fact.holds ρ y := fun q hq h0 h1 => by
        cases q with
        | zero => exact fl_cons (neF_ok (by rw [qK]; exact h0 rfl)) fl_nil
        | succ q =>
          obtain ⟨a1, a2, a3, a4⟩ := h1 (by omega)
          exact fl_cons (eqF_ok (by rw [qK, a1])) (fl_cons (seqB _ (by rw [qT]; exact a2.symm)) (fl_cons (seqB _ (by rw [qT]; exact a3.symm)) (fl_cons (seqB _ (by rw [qT]; exact a4.symm)) fl_nil)))
      have hFct : ∀ q z, z = decide (d = 0) → (∀ y ∈ opWord q, Fact.holds ρ y) → ∀ y ∈ opFct x q z, Fact.holds ρ y := fun q z hz hw => fl_app hin (fl_app (hZ z hz) (fl_app hw (fl_app hOne hOut)))
      -- one word more
      have more : ∀ q z d', z = decide (d = 0) → (∀ y ∈ opWord q, Fact.holds ρ y) → opMore x q z = true → (opD q z).den ρ = ((d' : Nat) : Int) → d' ≤ p + 1 → opsG l' (f + 1) p d b = opsG l' f (p + 1) d' b → ∃ F : List Fact, (∀ x ∈ F, x.holds ρ) ∧ OutA Tryz.prog 9 fsOp (opC ok) [opLp] opI ρ0 ρ (some (0, m)) (opRd x F) := by
        intro q z d' hz hw hk hd' hdl hg
        unfold opMore opAg at hk
        simp only [Bool.and_eq_true] at hk
        obtain ⟨y1, y2, y3⟩ := opY_ok hx
        refine ⟨opFct x q z, hFct q z hz hw, .again 0 m (opY x) opLp (opCan (opY x)) _ _ (l'.length - (p + 1)) rfl rfl (op_can y1) (by omega) hk.1 (by rw [hnx2]; exact hk.2) ⟨l', p0', p + 1, d', b, A, f, rfl, y1, h0, h01, hl, hp0, eNx, hd', by omega, by omega, hdl, by omega, rfl, by omega, fun _ => ⟨by omega, ?_⟩, fun h => by rw [y2] at h; exact absurd h (by decide), fun h => hU1 (by rw [← y3]; exact h), fun h => hU0 (by rw [← y3]; exact h), by rw [hrows, hg], by rw [herr, hg]⟩⟩
        show ((bif opO x then SE.v 6 else tRowN).row ρ ++ opRow4.row ρ).length = p + 1 - b
        rw [List.length_append]
        have h4 : (opRow4.row ρ).length = 1 := rfl
        rw [h4]
        cases ho : opO x with
        | true =>
          obtain ⟨q1, q2⟩ := hO1 ho
          show (ρ 6).r.length + 1 = _
          rw [q2]; omega
        | false =>
          have := hO0 ho
          show 0 + 1 = _
          omega
      have hgo : ∀ (s : List UInt8), signAt l' p = s → s ≠ [40] → s ≠ [41] → ¬(d = 0 ∧ s = [44]) → opsG l' (f + 1) p d b = opsG l' f (p + 1) d b := fun s hs h1 h2 h3 => by
        rw [opsG, if_neg (by omega), if_neg (by rw [hs]; exact h1), if_neg (by rw [hs]; exact h2), if_neg (by rw [hs]; rintro (h | h); exact hpe h; exact h3 h)]
      have hD0 : ∀ q z, q ≤ 2 → (opD q z).den ρ = ((d : Nat) : Int) := fun q z hq => by
        match q, hq with
        | 0, _ => exact e3
        | 1, _ => exact e3
        | 2, _ => exact e3
      by_cases hk : tkK l' p = 3
      · have hsg : signAt l' p = tkT l' p := by unfold signAt; rw [if_pos ⟨hlt, hk⟩]
        by_cases s40 : tkT l' p = [40]
        · have hw := hW 3 (by decide) (fun h => by cases h) (fun _ => ⟨hk, by rw [s40]; decide, by rw [s40]; decide, by rw [s40]; decide⟩)
          have hg : opsG l' (f + 1) p d b = opsG l' f (p + 1) (d + 1) b := by rw [opsG, if_neg (by omega), if_pos (by rw [hsg, s40])]
          have hup : osUp.den ρ = ((d + 1 : Nat) : Int) := by
            show IntKind.i64.wrap ((SE.v 3).den ρ + 1) = _
            rw [e3, wrap64 (by omega) (by omega)]; simp
          cases hz : decide (d = 0) with
          | true => exact more 3 true (d + 1) hz.symm hw m3t hup (by omega) hg
          | false => exact more 3 false (d + 1) hz.symm hw m3f hup (by omega) hg
        by_cases s41 : tkT l' p = [41]
        · have hw := hW 4 (by decide) (fun h => by cases h) (fun _ => ⟨hk, by rw [s41]; decide, by rw [s41]; decide, by rw [s41]; decide⟩)
          have hg : opsG l' (f + 1) p d b = opsG l' f (p + 1) (d - 1) b := by rw [opsG, if_neg (by omega), if_neg (by rw [hsg, s41]; decide), if_pos (by rw [hsg, s41])]
          cases hz : decide (d = 0) with
          | true =>
            have hd0 := of_decide_eq_true hz
            exact more 4 true (d - 1) hz.symm hw m4t (by show (SE.v 3).den ρ = _; rw [e3, hd0]) (by omega) hg
          | false =>
            have hd0 := of_decide_eq_false hz
            exact more 4 false (d - 1) hz.symm hw m4f (by
              show IntKind.i64.wrap ((SE.v 3).den ρ - 1) = _
              rw [e3, wrap64 (by omega) (by omega)]; omega) (by omega) hg
        by_cases s44 : tkT l' p = [44]
        · have hw := hW 2 (by decide) (fun h => by cases h) (fun _ => ⟨hk, by rw [s44]; decide, by rw [s44]; decide, by rw [s44]; decide⟩)
          by_cases hd0 : d = 0
          · have hg : opsG l' (f + 1) p d b = (if p = b then ([], 1, p) else ((b, p - b) :: (opsG l' f (p + 1) d (p + 1)).1, (opsG l' f (p + 1) d (p + 1)).2)) := by
              rw [opsG, if_neg (by omega), if_neg (by rw [hsg, s44]; decide), if_neg (by rw [hsg, s44]; decide), if_pos (.inr ⟨hd0, by rw [hsg, s44]⟩)]
            have hG := hFct 2 true (decide_eq_true hd0).symm hw
            unfold opCut at hcut
            cases ho : opO x with
            | false =>
              rw [ho, cond_false] at hcut
              have hb := hO0 ho
              rw [if_pos hb.symm] at hg
              rw [hg] at herr
              have : ok = false := by rw [hok, herr]; rfl
              subst this
              exact ⟨opFct x 2 true, hG, .fin _ _ (needsB_ok hcut) (nd_cons (by show (os 78).den ρ0 = (SE.v 2).den ρ; rw [e78, herr, e2]) (nd_cons (by show (ρ0 0).r = (ρ 0).r; rw [h0]) nd_nil))⟩
            | true =>
              rw [ho, cond_true] at hcut
              unfold opAg at hcut
              simp only [Bool.and_eq_true] at hcut
              obtain ⟨q1, q2⟩ := hO1 ho
              rw [if_neg (by omega)] at hg
              refine ⟨opFct x 2 true, hG, .again 0 m 2 opLp (opCan 2) _ _ (l'.length - (p + 1)) rfl rfl rfl (by omega) hcut.1 (by rw [hnx2]; exact hcut.2) ⟨l', p0', p + 1, d, p + 1, A ++ [(b, p - b)], f, rfl, by decide, h0, h01, hl, hp0, eNx, hd, Nat.le_refl _, by omega, by omega, by simp; omega, rfl, by omega, fun h => absurd h (by decide), fun _ => rfl, fun _ => hAdd (b, p - b), fun h => absurd h (by decide), by rw [hrows, hg]; simp, by rw [herr, hg]⟩⟩
          · exact more 2 false d (decide_eq_false hd0).symm hw m2f (hD0 2 false (by decide)) (by omega) (hgo [44] (by rw [hsg, s44]) (by decide) (by decide) (fun h => hd0 h.1))
        · have hw := hW 1 (by decide) (fun h => by cases h) (fun _ => ⟨hk, (decide_eq_false s44).symm, (decide_eq_false s40).symm, (decide_eq_false s41).symm⟩)
          have hg := hgo (tkT l' p) hsg s40 s41 (fun h => s44 h.2)
          cases hz : decide (d = 0) with
          | true => exact more 1 true d hz.symm hw m1t (hD0 1 true (by decide)) (by omega) hg
          | false => exact more 1 false d hz.symm hw m1f (hD0 1 false (by decide)) (by omega) hg
      · have hsg : signAt l' p = [] := by unfold signAt; rw [if_neg (fun h => hk h.2)]
        have hw := hW 0 (by decide) (fun _ => hk) (fun h => absurd rfl h)
        have hg := hgo [] hsg (by decide) (by decide) (fun h => by cases h.2)
        cases hz : decide (d = 0) with
        | true => exact more 0 true d hz.symm hw m0t (hD0 0 true (by decide)) (by omega) hg
        | false => exact more 0 false d hz.symm hw m0f (hD0 0 false (by decide)) (by omega) hg
theorem op_ctr (ok : Bool) (ht : enterD (opC ok).args fsOp.ntmps 0 .nil = some opT) (hS : startS Tryz.prog callq4 fsOp 100000 (stpL [0]) (bodyOf fsOp) (opC ok) opT = opS) (hnx : (opC ok).nx = 9 + 2) : CtrOK Tryz.prog 28 (opC ok) := by
  have hst := op_stop
  rw [Bool.and_eq_true] at hst
  refine ctr_loopsA (loops := [opLp]) (inv := opI) (fuel := 100000) (stp := stpL [0]) gsz mixed (runD_ok static knq4_ok 20) Tryz.func28 (by kernel_rfl) (show fsOp.body = some (bodyOf fsOp) by kernel_rfl) (by kernel_rfl) ht (by rw [hnx]; show (laB (9 + 2) opLp && true) = true; rw [hst.2]; rfl) (fun ρ hF => ?_) ?_
  · obtain ⟨l, p0, hl, hp0, hll, hpl, hok⟩ := opF_of hF
    refine ⟨[], fl_nil, ?_⟩
    show OutA _ _ _ _ _ _ _ _ _ (startS Tryz.prog callq4 fsOp 100000 (stpL [0]) (bodyOf fsOp) (opC ok) opT [])
    rw [hS]
    have hF2 : opsF l p0 = opsG l (l.length + 2) p0 0 p0 := by unfold opsF; rw [if_neg (by omega)]
    exact .stop 0 0 opLp (opCan 0) _ _ (l.length - p0) rfl rfl (fun i m h => by cases h) rfl rfl hst.1 (by rw [hnx]; rfl) ⟨l, p0, p0, 0, p0, [], l.length + 2, rfl, by decide, rfl, rfl, hl, hp0, hp0, rfl, Nat.le_refl _, by omega, Nat.zero_le _, Nat.zero_le _, rfl, by omega, fun h => absurd h (by decide), fun _ => rfl, fun h => absurd h (by decide), fun _ => rfl, by rw [hF2]; rfl, by rw [hF2]⟩
  · intro i lp x can hlp hx ρ0 ρ n hF hI
    match i, hlp with
    | 0, hlp =>
      obtain rfl : opLp = lp := Option.some.inj hlp
      match x, hx with
      | 0, hx => cases hx; exact op_loop ok 0 (by omega) ρ0 ρ n hF hI
      | 1, hx => cases hx; exact op_loop ok 1 (by omega) ρ0 ρ n hF hI
      | 2, hx => cases hx; exact op_loop ok 2 (by omega) ρ0 ρ n hF hI
      | 3, hx => cases hx; exact op_loop ok 3 (by omega) ρ0 ρ n hF hI
      | x + 4, hx => simp [opLp] at hx
    | i + 1, hlp => simp at hlp
noncomputable def gOp : Gn := gC Tryz.prog 9 (opC true) [opC false]
theorem gOp_ok : GoodAt Tryz.prog 28 gOp := good_C gsz (by kernel_rfl) (two (op_ctr true (by kernel_rfl) rfl rfl) (op_ctr false (by kernel_rfl) rfl rfl))
noncomputable def knq5 : Known := knCons 28 (gOr gOp (fun args h => runD Tryz.prog knq4 20 28 args h)) knq4
theorem knq5_ok : KnownOK Tryz.prog knq5 := knCons_ok (good_or gOp_ok (good_run static knq4_ok 20 _)) knq4_ok
noncomputable def callq5 : CallFn := runD Tryz.prog knq5 20
end Go.Proofs.YtlfeoiagemlbiaaGreatDoor
