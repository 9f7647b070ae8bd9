/- Constants: a number with signs ahead: the contract. -/
import Derived.Test.YtlfeoiagemlbiaaGreatDoorCEe
set_option linter.unusedVariables false
set_option linter.unusedSectionVars false
set_option linter.unusedSimpArgs false
set_option maxRecDepth 100000
noncomputable section
namespace Go.Proofs.YtlfeoiagemlbiaaGreatDoor
open Go.Den Go.Proofs Go.Extern Go.RowKit
variable [Mex]
theorem exR_at {b : Bool} {ρ : Rho} {l n : Rw} {p d : Nat} (h : ExAt b ρ l n p d) {t u v : SE} {p' d' k' : Nat} (ht : t.den ρ = (p' : Int)) (hu : u.den ρ = (d' : Int)) (hv : v.den ρ = (k' : Int)) :
    exR ((SE.v 0).D ρ) ((exNt b).D ρ) ((exTup t u v).D ρ) = exF l n d' k' p' := by
  unfold exR
  rw [show ((SE.v 0).D ρ).r = l from h.hl, show ((exNt b).D ρ).r = n from h.hn]
  show exF l n (u.den ρ).toNat (v.den ρ).toNat (t.den ρ).toNat = _
  rw [ht, hu, hv]; simp
structure ExIs (b : Bool) (ρ : Rho) (t u v : SE) (R : Rx) : Prop where
  h40 : (exS 40 b t u v).den ρ = R.v
  h41 : (exS 41 b t u v).den ρ = (R.at_ : Int)
  h42 : (exS 42 b t u v).den ρ = (R.err : Int)
  h43 : (exS 43 b t u v).den ρ = (R.eat : Int)
theorem exIs {b : Bool} {ρ : Rho} {l n : Rw} {p d : Nat} (h : ExAt b ρ l n p d) {t u v : SE} {p' d' k' : Nat} (ht : t.den ρ = (p' : Int)) (hu : u.den ρ = (d' : Int)) (hv : v.den ρ = (k' : Int)) : ExIs b ρ t u v (exF l n d' k' p') := by
  have e := exR_at h ht hu hv
  exact ⟨by show (exR _ _ _).v = _; rw [e], by show (((exR _ _ _).at_ : Nat) : Int) = _; rw [e], by show (((exR _ _ _).err : Nat) : Int) = _; rw [e], by show (((exR _ _ _).eat : Nat) : Int) = _; rw [e]⟩
theorem cell_at {b : Bool} {ρ : Rho} {l n : Rw} {p d : Nat} (h : ExAt b ρ l n p d) {t : SE} {q : Nat} (ht : t.den ρ = (q : Int)) : (tCell (.v 0) t 0).den ρ = tkK l q ∧ (tCell (.v 0) t 1).str ρ = tkT l q := by
  have hcell : ∀ j : Nat, cellAt (ρ 0).r (t.den ρ).toNat ((j : Nat) : Int).toNat = cellAt l q j := fun j => by rw [h.hl, ht, Int.toNat_natCast, Int.toNat_natCast]
  exact ⟨congrArg Prod.fst (hcell 0), congrArg Prod.snd (hcell 1)⟩
theorem seqL_ok {ρ : Rho} {t : SE} {s : List UInt8} : ∀ {L : List (List UInt8)}, (∀ x ∈ L, t.str ρ ≠ x) → ∀ f ∈ L.map (fun s => ((.seq, t, .lit s, false) : Fact)), Fact.holds ρ f
  | [], _ => fl_nil
  | x :: L, h => fl_cons (seqN (h x List.mem_cons_self)) (seqL_ok (s := s) (fun y hy => h y (List.mem_cons_of_mem _ hy)))
/-- the sign at a place: none of some -/
theorem noSg_ok {b : Bool} {ρ : Rho} {l n : Rw} {p d : Nat} (h : ExAt b ρ l n p d) {t : SE} {q : Nat} (ht : t.den ρ = (q : Int)) {L : List (List UInt8)} (hL : ∀ x ∈ L, signAt l q ≠ x) : ∃ x, x ≤ 2 ∧ ∀ f ∈ noSg t L x, f.holds ρ := by
  have hlen := h.row
  obtain ⟨c0, c1⟩ := cell_at h ht
  by_cases hq : q < l.length
  · by_cases hk : tkK l q = 3
    · refine ⟨2, Nat.le_refl _, fl_app (fl_cons (ltT (by rw [ht, hlen]; omega)) (fl_cons (ltN (by rw [ht, den_n]; omega)) (fl_cons (eqF_ok (by rw [c0, hk])) fl_nil))) (seqL_ok (s := []) fun x hx => ?_)⟩
      rw [c1]
      have := hL x hx
      unfold signAt at this
      rwa [if_pos ⟨hq, hk⟩] at this
    · exact ⟨1, by omega, fl_cons (ltT (by rw [ht, hlen]; omega)) (fl_cons (ltN (by rw [ht, den_n]; omega)) (fl_cons (neF_ok (by rw [c0]; exact hk)) fl_nil))⟩
  · exact ⟨0, by omega, fl_cons (ltN (by rw [ht, hlen]; omega)) fl_nil⟩
theorem isSg_ok {b : Bool} {ρ : Rho} {l n : Rw} {p d : Nat} (h : ExAt b ρ l n p d) {t : SE} {q : Nat} (ht : t.den ρ = (q : Int)) {L : List (List UInt8)} {s : List UInt8} (hs : signAt l q = s) (hne : s ≠ []) (hL : ∀ x ∈ L, s ≠ x) : ∀ f ∈ isSg t L s, f.holds ρ := by
  have hlen := h.row
  obtain ⟨c0, c1⟩ := cell_at h ht
  unfold signAt at hs
  split at hs
  · rename_i hq
    refine fl_app (fl_app (fl_cons (ltT (by rw [ht, hlen]; omega)) (fl_cons (ltN (by rw [ht, den_n]; omega)) (fl_cons (eqF_ok (by rw [c0, hq.2])) fl_nil))) (seqL_ok (s := []) fun x hx => ?_)) (fl_cons (seqT (by rw [c1, hs])) fl_nil)
    rw [c1, hs]; exact hL x hx
  · exact absurd hs.symm hne
theorem on_post (b ok : Bool) (ρ : Rho) (hF : ∀ x ∈ (oneC b 39 ok).facts, x.holds ρ) : ∃ (F : List Fact) (rn : List (Nat × Nat)) (L : List Need), (∀ x ∈ F, x.holds ρ) ∧ needsB Tryz.prog 9 fsOne (oneC b 39 ok) rn (onS b F) L = true ∧ ∀ n ∈ L, n.ok ρ ρ := by
  have hB : ∀ x ∈ exFs b, x.holds ρ := fun x hx => hF x (List.mem_append_left _ hx)
  obtain ⟨l, n, p, d, h⟩ := exFs_at hB
  have hlen := h.row
  have e2 : (SE.v 2).den ρ = (p : Int) := h.hp
  have e3 : (SE.v 3).den ρ = (d : Int) := h.hd
  have a1 := h.ll; have a3 := h.pl; have a4 := h.dl
  have is := exIs h (t := .v 2) (u := .v 3) (v := .n 6) (k' := 6) e2 e3 rfl
  obtain ⟨R, hR⟩ : ∃ R, R = exF l n d 6 p := ⟨_, rfl⟩
  rw [← hR] at is
  have hM : Fact.holds ρ (exM 39 (.v 3) (.n 6)) := hF _ (List.mem_append_right _ List.mem_cons_self)
  have hM' : (17 - (d : Int)) * 7 + (6 - 6) < (Mex.m : Int) := by
    have := of_ltT hM
    rw [show (SE.app 44 (.v 3) (.n 6) (.n 0)).den ρ = (17 - (SE.v 3).den ρ) * 7 + (6 - 6) from rfl, e3] at this
    exact this
  have h5 : Fact.holds ρ (.eq, onV 42 b, .n 0, ok) := hF _ (List.mem_append_right _ (List.mem_cons_of_mem _ List.mem_cons_self))
  have hok : ok = decide (R.err = 0) := by
    have h42 : (onV 42 b).den ρ = (R.err : Int) := is.h42
    cases ok with
    | true => have := of_eqT h5; rw [h42] at this; simp; omega
    | false => have := of_eqN h5; rw [h42] at this; simp; omega
  have bad : ∀ (F : List Fact) (v a dd q e : SE), onBad b F v a dd q e = true → (∀ x ∈ F, x.holds ρ) → v.den ρ = R.v → a.den ρ = (R.at_ : Int) → dd.den ρ = (d : Int) → q.den ρ = (R.eat : Int) → e.den ρ = (R.err : Int) → R.err ≠ 0 → ∃ (F : List Fact) (rn : List (Nat × Nat)) (L : List Need), (∀ x ∈ F, x.holds ρ) ∧ needsB Tryz.prog 9 fsOne (oneC b 39 ok) rn (onS b F) L = true ∧ ∀ n ∈ L, n.ok ρ ρ := by
    intro F v a dd q e hchk hG q1 q2 q3 q4 q5 hne
    have : ok = false := by rw [hok]; simpa using hne
    subst this
    exact ⟨F, _, _, hG, hchk, nd_cons (by show (onV 40 b).den ρ = v.den ρ; rw [q1]; exact is.h40) (fl_appN (rdN_ok rfl rfl rfl (by rw [q2]; exact is.h41) (by rw [e3, q3])) (nd_cons (by show (onV 43 b).den ρ = q.den ρ; rw [q4]; exact is.h43) (nd_cons (by show (onV 42 b).den ρ = e.den ρ; rw [q5]; exact is.h42) nd_nil)))⟩
  have okk : ∀ (F : List Fact) (v a dd : SE), onOk b F v a dd = true → (∀ x ∈ F, x.holds ρ) → v.den ρ = R.v → a.den ρ = (R.at_ : Int) → dd.den ρ = (d : Int) → R.err = 0 → ∃ (F : List Fact) (rn : List (Nat × Nat)) (L : List Need), (∀ x ∈ F, x.holds ρ) ∧ needsB Tryz.prog 9 fsOne (oneC b 39 ok) rn (onS b F) L = true ∧ ∀ n ∈ L, n.ok ρ ρ := by
    intro F v a dd hchk hG q1 q2 q3 hz
    have : ok = true := by rw [hok]; simpa using hz
    subst this
    exact ⟨F, _, _, hG, hchk, nd_cons (by show (onV 40 b).den ρ = v.den ρ; rw [q1]; exact is.h40) (fl_appN (rdN_ok rfl rfl rfl (by rw [q2]; exact is.h41) (by rw [e3, q3])) nd_nil)⟩
  rw [exF_one l n a4 p] at hR
  unfold oneF at hR
  have hP : p < l.length → onP.den ρ = ((p + 1 : Nat) : Int) := fun _ => by
    show IntKind.i64.wrap ((SE.v 2).den ρ + 1) = _
    rw [e2, wrap64 (by omega) (by omega)]; simp
  have hD : onD.den ρ = ((d + 1 : Nat) : Int) := by
    show IntKind.i64.wrap ((SE.v 3).den ρ + 1) = _
    rw [e3, wrap64 (by omega) (by omega)]; simp
  have hDp : onDp.den ρ = (d : Int) := by
    show IntKind.i64.wrap (onD.den ρ - 1) = _
    rw [hD, wrap64 (by omega) (by omega)]; simp
  -- a sign
  have sign : ∀ i, i ≤ 2 → onChkS b i = true → (∀ x ∈ onSn b i, x.holds ρ) → p < l.length →
      (exInner l n d = none → R = ⟨0, p, 15, p⟩) → (∀ R1 : Rx, exInner l n d ≠ none → R1 = exF l n (d + 1) (onK i).toNat (p + 1) → R1.err ≠ 0 → R = ⟨0, R1.at_, R1.err, R1.eat⟩) →
      (∀ R1 : Rx, R1 = exF l n (d + 1) (onK i).toNat (p + 1) → exInner l n d ≠ none → R1.err = 0 → (∀ x ∈ onCall b i true, x.holds ρ) → ExIs b ρ onP onD (.n (onK i)) R1 → ∃ (F : List Fact) (rn : List (Nat × Nat)) (L : List Need), (∀ x ∈ F, x.holds ρ) ∧ needsB Tryz.prog 9 fsOne (oneC b 39 ok) rn (onS b F) L = true ∧ ∀ n ∈ L, n.ok ρ ρ) →
      ∃ (F : List Fact) (rn : List (Nat × Nat)) (L : List Need), (∀ x ∈ F, x.holds ρ) ∧ needsB Tryz.prog 9 fsOne (oneC b 39 ok) rn (onS b F) L = true ∧ ∀ n ∈ L, n.ok ρ ρ := by
    intro i hi hc hsn hpl hdeep herr hgo
    unfold onChkS at hc
    simp only [Bool.and_eq_true] at hc
    have hK : 0 ≤ onK i ∧ onK i ≤ 6 := by
      match i, hi with
      | 0, _ => exact ⟨by decide, by decide⟩
      | 1, _ => exact ⟨by decide, by decide⟩
      | 2, _ => exact ⟨by decide, by decide⟩
    by_cases hd : d ≤ 16
    · have hne : exInner l n d ≠ none := by unfold exInner; rw [if_pos hd]; simp
      have is1 := exIs h (t := onP) (u := onD) (v := .n (onK i)) (k' := (onK i).toNat) (hP hpl) hD (by rw [den_n]; omega)
      have hgoF : ∀ x ∈ onGo b (onK i), x.holds ρ := fl_cons (ltN (by rw [e3, den_n]; omega)) (fl_cons (ltN (by rw [hP hpl, den_n]; omega)) (fl_cons (leT (by rw [hP hpl, hlen]; omega)) (fl_cons (ltN (by rw [hD, den_n]; omega)) (fl_cons (ltN (by rw [hD, den_n]; omega)) (fl_cons (ltT (by
        show (17 - onD.den ρ) * 7 + (6 - onK i) < (Mex.m : Int) - 1
        rw [hD]; omega)) fl_nil)))))
      by_cases he : (exF l n (d + 1) (onK i).toNat (p + 1)).err = 0
      · exact hgo _ rfl hne he (fl_app hsn (fl_app hgoF (fl_cons (eqF_ok (by rw [show (onI 42 b (onK i)).den ρ = _ from is1.h42, he]; rfl)) fl_nil))) is1
      · have hRe := herr _ hne rfl he
        exact bad _ _ _ _ _ _ hc.2 (fl_app hsn (fl_app hgoF (fl_cons (neF_ok (by rw [show (onI 42 b (onK i)).den ρ = _ from is1.h42]; omega)) fl_nil))) (by rw [hRe]; rfl) (by rw [hRe]; exact is1.h41) hDp (by rw [hRe]; exact is1.h43) (by rw [hRe]; exact is1.h42) (by rw [hRe]; exact he)
    · have hRe := hdeep (by unfold exInner; rw [if_neg hd])
      exact bad _ _ _ _ _ _ hc.1 (fl_app hsn (fl_cons (ltT (by rw [e3, den_n]; omega)) fl_nil)) (by rw [hRe]; rfl) (by rw [hRe]; exact e2) e3 (by rw [hRe]; exact e2) (by rw [hRe]; rfl) (by rw [hRe]; simp)
  have hcs := on_s b
  simp only [Bool.and_eq_true] at hcs
  have hcw := on_w b
  simp only [Bool.and_eq_true] at hcw
  have inn : ∀ k : Nat, exInner l n d ≠ none → innerF (exInner l n d) p k = exF l n (d + 1) k (p + 1) := fun k hne => by
    unfold exInner at hne ⊢
    split
    · rfl
    · rename_i hd; rw [if_neg hd] at hne; exact absurd rfl hne
  have inn0 : ∀ k : Nat, exInner l n d = none → innerF (exInner l n d) p k = ⟨0, p, 15, p⟩ := fun k hn => by rw [hn]; rfl
  have neg : ∀ i, i = 1 ∨ i = 2 → onChkW b i = true → ∀ v : Int, (∀ x : Int, x = (exF l n (d + 1) 6 (p + 1)).v → exInner l n d ≠ none → (-big ≤ x ∧ x ≤ big) → (onI 40 b 6).den ρ = x → (onW b i).den ρ = v) → onChkS b i = true → (∀ x ∈ onSn b i, x.holds ρ) → p < l.length → R = negF p (innerF (exInner l n d) p 6) v →
      ∃ (F : List Fact) (rn : List (Nat × Nat)) (L : List Need), (∀ x ∈ F, x.holds ρ) ∧ needsB Tryz.prog 9 fsOne (oneC b 39 ok) rn (onS b F) L = true ∧ ∀ n ∈ L, n.ok ρ ρ := by
    intro i hi hcw v hv hcs hsn hpl hRe
    have hk6 : onK i = 6 := by rcases hi with rfl | rfl <;> rfl
    refine sign i (by omega) hcs hsn hpl (fun hn => by rw [hRe, inn0 6 hn]; rfl) (fun R1 hne h1 he => ?_) (fun R1 h1 hne he hcall is1 => ?_)
    · rw [hk6] at h1
      rw [hRe, inn 6 hne, show exF l n (d + 1) 6 (p + 1) = R1 from h1.symm]; unfold negF; rw [if_neg he]
    · rw [hk6] at h1 is1
      have hb := exF_ok l n (d + 1) 6 (p + 1) hpl
      rw [show exF l n (d + 1) 6 (p + 1) = R1 from h1.symm] at hb
      have ew : (onW b i).den ρ = v := hv R1.v (by rw [h1]; rfl) hne (hb.ok he).2 is1.h40
      have hRe2 : R = ⟨(withinF v).1, R1.at_, (withinF v).2, p⟩ := by rw [hRe, inn 6 hne, show exF l n (d + 1) 6 (p + 1) = R1 from h1.symm]; unfold negF; rw [if_pos he]
      unfold onChkW at hcw
      simp only [Bool.and_eq_true] at hcw
      rcases wiF_ok (ρ := ρ) (t := onW b i) with ⟨_, hw, hv2⟩ | ⟨_, hw, hv2⟩ | ⟨hw, hv2⟩
      · rw [ew] at hv2; rw [hv2] at hRe2
        exact bad _ _ _ _ _ _ hcw.1.2 (fl_app hcall hw) (by rw [hRe2]; rfl) (by rw [hRe2]; exact is1.h41) hDp (by rw [hRe2]; exact e2) (by rw [hRe2]; rfl) (by rw [hRe2]; simp)
      · rw [ew] at hv2; rw [hv2] at hRe2
        exact bad _ _ _ _ _ _ hcw.2 (fl_app hcall hw) (by rw [hRe2]; rfl) (by rw [hRe2]; exact is1.h41) hDp (by rw [hRe2]; exact e2) (by rw [hRe2]; rfl) (by rw [hRe2]; simp)
      · rw [ew] at hv2; rw [hv2] at hRe2
        exact okk _ _ _ _ hcw.1.1 (fl_app hcall hw) (by rw [hRe2]; exact ew) (by rw [hRe2]; exact is1.h41) hDp (by rw [hRe2])
  by_cases s0 : signAt l p = [40]
  · rw [if_pos s0] at hR
    have hpl := signAt_lt (l := l) (p := p) (by rw [s0]; simp)
    have hsn : ∀ x ∈ onSn b 0, x.holds ρ := fl_app hB (isSg_ok h e2 s0 (by simp) (fun x hx => by cases hx))
    refine sign 0 (by omega) hcs.1.1 hsn hpl (fun hn => by rw [hR, inn0 0 hn]; rfl) (fun R1 hne h1 he => ?_) (fun R1 h1 hne he hcall is1 => ?_)
    · rw [hR, inn 0 hne, show exF l n (d + 1) 0 (p + 1) = R1 from h1.symm]; unfold brackF; rw [if_neg he]
    · have hR2 : R = brackF l R1 := by rw [hR, inn 0 hne, show exF l n (d + 1) 0 (p + 1) = R1 from h1.symm]
      unfold brackF at hR2
      rw [if_pos he] at hR2
      have hb := on_b b
      unfold onChkB at hb
      simp only [Bool.and_eq_true] at hb
      have hrl := (exF_ok l n (d + 1) 0 (p + 1) hpl).len
      rw [show exF l n (d + 1) 0 (p + 1) = R1 from h1.symm] at hrl
      have e41 : (onI 41 b 0).den ρ = (R1.at_ : Int) := is1.h41
      by_cases hs : signAt l R1.at_ = [41]
      · rw [if_pos hs] at hR2
        exact okk _ _ _ _ hb.1.1.1 (fl_app hcall (isSg_ok h e41 hs (by simp) (fun x hx => by cases hx))) (by rw [hR2]; exact is1.h40) (by
          rw [hR2]
          show IntKind.i64.wrap ((onI 41 b 0).den ρ + 1) = _
          rw [e41, wrap64 (by omega) (by omega)]; simp) hDp (by rw [hR2])
      · rw [if_neg hs] at hR2
        obtain ⟨x, hx, hf⟩ := noSg_ok h e41 (L := [[41]]) (fun x hx => by rw [List.mem_singleton] at hx; subst hx; exact hs)
        have fin : onBad b (onCall b 0 true ++ noSg (onI 41 b 0) [[41]] x) (.n 0) (onI 41 b 0) onDp (onI 41 b 0) (.n 11) = true := by
          match x, hx with
          | 0, _ => exact hb.1.1.2
          | 1, _ => exact hb.1.2
          | 2, _ => exact hb.2
        exact bad _ _ _ _ _ _ fin (fl_app hcall hf) (by rw [hR2]; rfl) (by rw [hR2]; exact e41) hDp (by rw [hR2]; exact e41) (by rw [hR2]; rfl) (by rw [hR2]; simp)
  rw [if_neg s0] at hR
  by_cases s1 : signAt l p = [45]
  · rw [if_pos s1] at hR
    have hpl := signAt_lt (l := l) (p := p) (by rw [s1]; simp)
    refine neg 1 (.inl rfl) hcw.1 _ (fun x hx hne hb e => ?_) hcs.1.2 (fl_app hB (isSg_ok h e2 s1 (by simp) (fun x hx => by
      simp only [List.mem_cons, List.mem_nil_iff, or_false] at hx
      rcases hx with rfl | rfl <;> simp))) hpl hR
    show IntKind.i64.wrap (0 - (onI 40 b 6).den ρ) = _
    unfold big at hb
    rw [e, inn 6 hne, ← hx, wrap64 (by omega) (by omega)]
  rw [if_neg s1] at hR
  by_cases s2 : signAt l p = [126]
  · rw [if_pos s2] at hR
    have hpl := signAt_lt (l := l) (p := p) (by rw [s2]; simp)
    refine neg 2 (.inr rfl) hcw.2 _ (fun x hx hne hb e => ?_) hcs.2 (fl_app hB (isSg_ok h e2 s2 (by simp) (fun x hx => by
      simp only [List.mem_cons, List.mem_nil_iff, or_false] at hx
      rcases hx with rfl | rfl <;> simp))) hpl hR
    show IntKind.i64.wrap (IntKind.i64.wrap (0 - (onI 40 b 6).den ρ) - 1) = _
    unfold big at hb
    rw [e, inn 6 hne, ← hx, wrap64 (z := 0 - x) (by omega) (by omega), wrap64 (by omega) (by omega)]
  rw [if_neg s2] at hR
  -- a number, a name
  obtain ⟨x, hx, hf⟩ := noSg_ok h e2 (L := [[40], [45], [126]]) (fun x hx => by
    simp only [List.mem_cons, List.mem_nil_iff, or_false] at hx
    rcases hx with rfl | rfl | rfl
    · exact s0
    · exact s1
    · exact s2)
  have eR : plR ((SE.v 0).D ρ) ((exNt b).D ρ) ((SE.v 2).D ρ) = R := by
    unfold plR
    rw [hR, show ((SE.v 0).D ρ).r = l from h.hl, show ((exNt b).D ρ).r = n from h.hn, show ((SE.v 2).D ρ).i = (p : Int) from h.hp, Int.toNat_natCast]
  have s50 : (plS 50 b).den ρ = R.v := by show (plR _ _ _).v = _; rw [eR]
  have s51 : (plS 51 b).den ρ = (R.at_ : Int) := by show (((plR _ _ _).at_ : Nat) : Int) = _; rw [eR]
  have s52 : (plS 52 b).den ρ = (R.err : Int) := by show (((plR _ _ _).err : Nat) : Int) = _; rw [eR]
  have s53 : (plS 53 b).den ρ = (R.eat : Int) := by show (((plR _ _ _).eat : Nat) : Int) = _; rw [eR]
  have hcp := on_p b
  simp only [Bool.and_eq_true] at hcp
  have fin : onChkP b x = true := by
    match x, hx with
    | 0, _ => exact hcp.1.1
    | 1, _ => exact hcp.1.2
    | 2, _ => exact hcp.2
  unfold onChkP at fin
  simp only [Bool.and_eq_true] at fin
  by_cases he : R.err = 0
  · exact okk _ _ _ _ fin.1 (fl_app (fl_app hB hf) (fl_cons (eqF_ok (by rw [s52, he]; rfl)) fl_nil)) s50 s51 e3 he
  · exact bad _ _ _ _ _ _ fin.2 (fl_app (fl_app hB hf) (fl_cons (neF_ok (by rw [s52]; omega)) fl_nil)) s50 s51 e3 s53 s52 he
theorem one_ctr (hk : KnownOK Tryz.prog kn11) (b ok : Bool) (ht : enterD (oneC b 39 ok).args fsOne.ntmps 0 .nil = some rdT) (hS : startS Tryz.prog call11 fsOne 100000 (stpL []) (bodyOf fsOne) (oneC b 39 ok) rdT = onS b) : CtrOK Tryz.prog 220 (oneC b 39 ok) :=
  ctr_fin (fuel := 100000) (stp := stpL []) gsz mixed (runD_ok static hk 20) Tryz.func220 (by kernel_rfl) (show fsOne.body = some (bodyOf fsOne) by kernel_rfl) (by kernel_rfl) ht (fun ρ hF => by
    have := on_post b ok ρ hF
    rw [← hS] at this
    exact this)
end Go.Proofs.YtlfeoiagemlbiaaGreatDoor
