/- Operands: the contract. -/
import Derived.Test.YtlfeoiagemlbiaaGreatDoorCPc
set_option linter.unusedVariables false
set_option linter.unusedSectionVars false
set_option linter.unusedSimpArgs false
set_option maxRecDepth 100000
noncomputable section
namespace Go.Proofs.YtlfeoiagemlbiaaGreatDoor
open Go.Den Go.Proofs Go.Extern Go.RowKit
variable [Mpr]
inductive OsC : Ctr → Prop where
  | nil : OsC osNil
  | ok : OsC osOk
  | bad : OsC osBad
theorem osF {c : Ctr} (hc : OsC c) {ρ : Rho} (hF : ∀ x ∈ c.facts, x.holds ρ) : ∃ (l : Rw) (p0 : Nat), (ρ 0).r = l ∧ (ρ 1).i = (p0 : Int) ∧ l.length < 1000000 ∧ p0 ≤ l.length ∧ ((c = osNil ∧ (opsF l p0).2.1 = 0 ∧ (opsF l p0).1 = []) ∨ (c = osOk ∧ (opsF l p0).2.1 = 0 ∧ (opsF l p0).1 ≠ []) ∨ (c = osBad ∧ (opsF l p0).2.1 ≠ 0)) := by
  have hB : ∀ x ∈ osFs, x.holds ρ := by cases hc <;> exact fun x hx => hF x (List.mem_append_left _ hx)
  have f1 : Fact.holds ρ (.lt, tRows (.v 0), .n 1000000, true) := hB _ List.mem_cons_self
  have f2 : Fact.holds ρ (.lt, .v 1, .n 0, false) := hB _ (List.mem_cons_of_mem _ List.mem_cons_self)
  have f3 : Fact.holds ρ (.le, .v 1, tRows (.v 0), true) := hB _ (List.mem_cons_of_mem _ (List.mem_cons_of_mem _ List.mem_cons_self))
  have k1 : (((ρ 0).r.length : Nat) : Int) < 1000000 := by have h := of_ltT f1; rw [den_n] at h; exact h
  have k2 : 0 ≤ (ρ 1).i := by have h := of_ltN f2; rw [den_n] at h; exact h
  have k3 : (ρ 1).i ≤ (((ρ 0).r.length : Nat) : Int) := of_leT f3
  obtain ⟨p0, hp⟩ : ∃ p0 : Nat, (ρ 1).i = (p0 : Int) := ⟨(ρ 1).i.toNat, by omega⟩
  have eO : opsF ((SE.v 0).D ρ).r ((SE.v 1).D ρ).i.toNat = opsF (ρ 0).r p0 := by
    rw [show ((SE.v 1).D ρ).i = (p0 : Int) from hp, Int.toNat_natCast]; rfl
  have e77 : (os 77).den ρ = ((opsF (ρ 0).r p0).2.1 : Int) := by show ((((opsF _ _).2.1 : Nat)) : Int) = _; rw [eO]
  have e76 : (tRows (os 76)).den ρ = (((opsF (ρ 0).r p0).1.length : Nat) : Int) := by
    show (((((opsF ((SE.v 0).D ρ).r ((SE.v 1).D ρ).i.toNat).1.map argR).length : Nat)) : Int) = _
    rw [eO, List.length_map]
  refine ⟨(ρ 0).r, p0, rfl, hp, by omega, by omega, ?_⟩
  cases hc with
  | nil =>
    have g1 : Fact.holds ρ (.eq, os 77, .n 0, true) := hF _ (List.mem_append_right _ List.mem_cons_self)
    have g2 : Fact.holds ρ (.eq, tRows (os 76), .n 0, true) := hF _ (List.mem_append_right _ (List.mem_cons_of_mem _ List.mem_cons_self))
    have g1' := of_eqT g1; have g2' := of_eqT g2
    rw [e77] at g1'; rw [e76] at g2'
    exact .inl ⟨rfl, by omega, List.eq_nil_of_length_eq_zero (by omega)⟩
  | ok =>
    have g1 : Fact.holds ρ (.eq, os 77, .n 0, true) := hF _ (List.mem_append_right _ List.mem_cons_self)
    have g2 : Fact.holds ρ (.eq, tRows (os 76), .n 0, false) := hF _ (List.mem_append_right _ (List.mem_cons_of_mem _ List.mem_cons_self))
    have g1' := of_eqT g1; have g2' := of_eqN g2
    rw [e77] at g1'; rw [e76] at g2'
    exact .inr (.inl ⟨rfl, by omega, fun h => by rw [h] at g2'; exact g2' rfl⟩)
  | bad =>
    have g1 : Fact.holds ρ (.eq, os 77, .n 0, false) := hF _ (List.mem_append_right _ List.mem_cons_self)
    have g1' := of_eqN g1
    rw [e77] at g1'
    exact .inr (.inr ⟨rfl, by omega⟩)
noncomputable def osI (i x : Nat) (ρ0 ρ : Rho) (m : Nat) : Prop := ∃ (l : Rw) (p0 p d b : Nat) (A : Rw) (f : Nat), i = 0 ∧ ρ 0 = ρ0 0 ∧ (ρ0 0).r = l ∧ (ρ0 1).i = (p0 : Int) ∧ (ρ 2).i = (p : Int) ∧ (ρ 3).i = (d : Int) ∧ (ρ 4).i = (b : Int) ∧ (ρ 5).r = A ∧ b ≤ p ∧ p ≤ l.length + 1 ∧ d ≤ p ∧ A.length ≤ p ∧ m = l.length + 1 - p ∧ l.length + 1 - p < f ∧ (x = 0 → A = [] ∧ p ≤ l.length) ∧ (x = 1 → A ≠ []) ∧
  (opsF l p0).1.map argR = A ++ (opsG l f p d b).1.map argR ∧ (opsF l p0).2 = (opsG l f p d b).2
theorem os_can {x : Nat} (hx : x ≤ 1) : osLp.cans[x]? = some (osCn x) := match x, hx with
  | 0, _ => rfl
  | 1, _ => rfl
theorem os_ck {x : Nat} (hx : x ≤ 1) : osChk x = true := match x, hx with
  | 0, _ => os_c0
  | 1, _ => os_c1
theorem os_loop {c : Ctr} (hc : OsC c) (x : Nat) (hx : x ≤ 1) (ρ0 ρ : Rho) (m : Nat) (hF : ∀ x ∈ c.facts, x.holds ρ0) (hI : osI 0 x ρ0 ρ m) :
    ∃ F : List Fact, (∀ x ∈ F, x.holds ρ) ∧ OutA Tryz.prog 9 fsOs c [osLp] osI ρ0 ρ (some (0, m)) (osRd x F) := by
  obtain ⟨l, p0, p, d, b, A, f, _, h0, hl, hp0, hp, hd, hb, hA, hbp, hpl, hdp, hAp, hm, hf, hx0, hx1, hrows, herr⟩ := hI
  obtain ⟨l', p0', hl', hp0', hll, _, hcc⟩ := osF hc hF
  obtain rfl : l' = l := hl'.symm.trans hl
  obtain rfl : p0' = p0 := by have := hp0'.symm.trans hp0; omega
  have hl0 : (ρ 0).r = l' := by rw [h0]; exact hl
  have hrow : (tRows (.v 0)).den ρ = (l'.length : Int) := by show (((ρ 0).r.length : Nat) : Int) = _; rw [hl0]
  have e2 : (SE.v 2).den ρ = (p : Int) := hp
  have e3 : (SE.v 3).den ρ = (d : Int) := hd
  have e4 : (SE.v 4).den ρ = (b : Int) := hb
  have e5 : (tRows (.v 5)).den ρ = (A.length : Int) := by show (((ρ 5).r.length : Nat) : Int) = _; rw [hA]
  have hF0 : ∀ y ∈ osF0, y.holds ρ := fl_cons (ltT (by rw [hrow, den_n]; omega)) (fl_cons (ltN (by rw [e2, den_n]; omega)) (fl_cons (ltN (by rw [e3, den_n]; omega)) (fl_cons (ltN (by rw [e4, den_n]; omega)) (fl_cons (leT (by rw [e4, e2]; omega)) fl_nil))))
  have hck : osChk x = true := os_ck hx
  unfold osChk at hck
  simp only [Bool.and_eq_true] at hck
  obtain ⟨⟨⟨⟨⟨⟨⟨⟨⟨⟨⟨c1, c2⟩, c3⟩, c4⟩, c5⟩, c6⟩, c7⟩, c8⟩, c9⟩, c10⟩, c11⟩, c12⟩ := hck
  have hnx2 : c.nx - 1 = 9 + 1 := by cases hc <;> rfl
  cases f with
  | zero => omega
  | succ f =>
    by_cases hend : l'.length < p
    · have hg : opsG l' (f + 1) p d b = ([], 0, 0) := by unfold opsG; rw [if_pos hend]
      rw [hg] at hrows herr
      have hx' : x = 1 := by
        rcases Nat.eq_zero_or_pos x with h | h
        · have := (hx0 h).2; omega
        · omega
      subst hx'
      have hAne := hx1 rfl
      have hrA : (opsF l' p0').1.map argR = A := by rw [hrows]; simp
      rcases hcc with ⟨_, _, hn⟩ | ⟨rfl, _, _⟩ | ⟨_, hb⟩
      · rw [hn] at hrA; exact absurd hrA.symm hAne
      · have e76 : (os 76).row ρ0 = A := by
          show (opsF (ρ0 0).r (ρ0 1).i.toNat).1.map argR = A
          rw [hl, hp0, Int.toNat_natCast]; exact hrA
        have t76 : (tRows (os 76)).den ρ0 = (tRows (.v 5)).den ρ := by show ((((os 76).row ρ0).length : Nat) : Int) = _; rw [e76, e5]
        exact ⟨osEnd, fl_app hF0 (fl_cons (leN (by rw [hrow, e2]; omega)) (fl_cons (ltT (by rw [e5, den_n]; omega)) fl_nil)), .fin [] _ (needsB_ok os_end) (nd_cons rfl (nd_cons t76 (nd_cons t76 (nd_cons (by show (ρ0 0).r = (ρ 0).r; rw [h0]) (nd_cons (by show (os 76).row ρ0 = (ρ 5).r; rw [e76, hA]) nd_nil)))))⟩
      · rw [herr] at hb; exact absurd rfl hb
    · have hple : p ≤ l'.length := by omega
      have hP : ∀ y ∈ osP, y.holds ρ := fl_app hF0 (fl_cons (leT (by rw [e2, den_n]; omega)) (fl_cons (leT (by rw [e2, hrow]; omega)) fl_nil))
      have hEx : ExAt false ρ l' [] p 0 → True := fun _ => trivial
      have eNx : osNx.den ρ = ((p + 1 : Nat) : Int) := by
        show IntKind.i64.wrap ((SE.v 2).den ρ + 1) = _
        rw [e2, wrap64 (by omega) (by omega)]; simp
      -- a round that changes nothing but the place, how deep
      have keep : ∀ (F : List Fact) (t : SE) (d' : Nat), osKeep x t F = true → (∀ y ∈ F, y.holds ρ) → t.den ρ = (d' : Int) → d' ≤ p + 1 → p < l'.length → opsG l' (f + 1) p d b = opsG l' f (p + 1) d' b → ∃ F : List Fact, (∀ x ∈ F, x.holds ρ) ∧ OutA Tryz.prog 9 fsOs c [osLp] osI ρ0 ρ (some (0, m)) (osRd x F) := by
        intro F t d' hk hG ht hd' hlt hg
        unfold osKeep osAg at hk
        simp only [Bool.and_eq_true] at hk
        have hcan : osLp.cans[x]? = some (osCn x) := os_can hx
        refine ⟨F, hG, .again 0 m x osLp (osCn x) _ _ (l'.length + 1 - (p + 1)) rfl rfl hcan (by omega) hk.1 (by rw [hnx2]; exact hk.2) ⟨l', p0', p + 1, d', b, A, f, rfl, h0, hl, hp0, eNx, ht, hb, hA, by omega, by omega, hd', by omega, rfl, by omega, fun h => ⟨(hx0 h).1, by omega⟩, hx1, by rw [hrows, hg], by rw [herr, hg]⟩⟩
      have cut : ∀ F : List Fact, osEr x F = true → osAdd x F = true → (∀ y ∈ F, y.holds ρ) → opsG l' (f + 1) p d b = (if p = b then ([], 1, p) else ((b, p - b) :: (opsG l' f (p + 1) d (p + 1)).1, (opsG l' f (p + 1) d (p + 1)).2)) → ∃ F : List Fact, (∀ x ∈ F, x.holds ρ) ∧ OutA Tryz.prog 9 fsOs c [osLp] osI ρ0 ρ (some (0, m)) (osRd x F) := by
        intro F hEr hAd hG hg
        by_cases hpb : p = b
        · rw [if_pos hpb] at hg
          rw [hg] at herr
          have hbad : c = osBad := by
            rcases hcc with ⟨_, h, _⟩ | ⟨_, h, _⟩ | ⟨h, _⟩
            · rw [herr] at h; cases h
            · rw [herr] at h; cases h
            · exact h
          subst hbad
          refine ⟨osEmp F, fl_app hG (fl_cons (by show ((SE.v 2).den ρ == (SE.v 4).den ρ) = true; rw [e2, e4, hpb]; simp) fl_nil), .fin _ _ (needsB_ok hEr) (nd_cons (by show (ρ0 0).r = (ρ 0).r; rw [h0]) (nd_cons ?_ (nd_cons rfl nd_nil)))⟩
          show (((opsF (ρ0 0).r (ρ0 1).i.toNat).2.2 : Nat) : Int) = (SE.v 2).den ρ
          rw [hl, hp0, Int.toNat_natCast, herr, e2]
        · rw [if_neg hpb] at hg
          have hwd : osWd.den ρ = ((p - b : Nat) : Int) := by
            show (SE.v 2).den ρ - (SE.v 4).den ρ = _
            rw [e2, e4]; omega
          have hsum : (SE.app 7 (.v 4) osWd (.n 0)).den ρ = (p : Int) := by
            show (SE.v 4).den ρ + osWd.den ρ = _
            rw [e4, hwd]; omega
          have hcutF : ∀ y ∈ osCut F, y.holds ρ := fl_app hG (fl_cons (by show ((SE.v 2).den ρ == (SE.v 4).den ρ) = false; rw [e2, e4, beq_eq_false_iff_ne]; omega) (fl_cons (ltT (by rw [e4, hrow]; omega)) (fl_cons (leT (by rw [hsum, hrow]; omega)) (fl_cons (ltN (by rw [hwd, den_n]; omega)) (fl_cons (ltT (by rw [hwd, den_n]; omega)) (fl_cons (ltT (by rw [e5, den_n]; omega)) fl_nil))))))
          unfold osAdd osAg at hAd
          simp only [Bool.and_eq_true] at hAd
          have hRw : osRw.row ρ = [argR (b, p - b)] := by
            show [[((SE.v 4).den ρ + 0, ([] : List UInt8))] ++ [(osWd.den ρ, ([] : List UInt8))]] = _
            rw [e4, hwd]; simp [argR]
          have hA' : (tCatR (bif Nat.beq x 0 then tRowN else .v 5) osRw).row ρ = A ++ [argR (b, p - b)] := by
            show (bif Nat.beq x 0 then tRowN else SE.v 5).row ρ ++ osRw.row ρ = _
            rw [hRw]
            rcases (show x = 0 ∨ x = 1 by omega) with h | h
            · rw [(hx0 h).1, h]; rfl
            · rw [h]; show (ρ 5).r ++ _ = _; rw [hA]
          refine ⟨osCut F, hcutF, .again 0 m 1 osLp osCan1 _ _ (l'.length + 1 - (p + 1)) rfl rfl rfl (by omega) hAd.1 (by rw [hnx2]; exact hAd.2) ⟨l', p0', p + 1, d, p + 1, A ++ [argR (b, p - b)], f, rfl, h0, hl, hp0, eNx, hd, eNx, hA', Nat.le_refl _, by omega, by omega, by simp; omega, rfl, by omega, fun h => (by cases h), fun _ h => (by simp at h), by rw [hrows, hg]; simp, by rw [herr, hg]⟩⟩
      -- which sign
      have hlenF : ∀ (L : List (List UInt8)) (s : List UInt8), signAt l' p = s → s ≠ [] → (∀ x ∈ L, s ≠ x) → ∀ g ∈ isSg (.v 2) L s, Fact.holds ρ g := by
        intro L s hs hne hL
        have hlt := signAt_lt (l := l') (p := p) (by rw [hs]; exact hne)
        unfold signAt at hs
        split at hs
        · rename_i hq
          have hcell : ∀ j : Nat, cellAt (ρ 0).r ((SE.v 2).den ρ).toNat ((j : Nat) : Int).toNat = cellAt l' p j := fun j => by rw [hl0, e2, Int.toNat_natCast, Int.toNat_natCast]
          have q0 : (tCell (.v 0) (.v 2) 0).den ρ = tkK l' p := congrArg Prod.fst (hcell 0)
          have q1 : (tCell (.v 0) (.v 2) 1).str ρ = tkT l' p := congrArg Prod.snd (hcell 1)
          refine fl_app (fl_app (fl_cons (ltT (by rw [e2, hrow]; omega)) (fl_cons (ltN (by rw [e2, den_n]; omega)) (fl_cons (eqF_ok (by rw [q0, hq.2])) fl_nil))) (seqL_ok (s := []) fun x hx => ?_)) (fl_cons (seqT (by rw [q1, hs])) fl_nil)
          rw [q1, hs]; exact hL x hx
        · exact absurd hs.symm hne
      by_cases s0 : signAt l' p = [40]
      · have hlt := signAt_lt (l := l') (p := p) (by rw [s0]; simp)
        exact keep _ osUp (d + 1) c1 (fl_app hP (hlenF [] _ s0 (by simp) (fun x hx => by cases hx))) (by
          show IntKind.i64.wrap ((SE.v 3).den ρ + 1) = _
          rw [e3, wrap64 (by omega) (by omega)]; simp) (by omega) hlt (by rw [opsG, if_neg hend, if_pos s0])
      by_cases s1 : signAt l' p = [41]
      · have hlt := signAt_lt (l := l') (p := p) (by rw [s1]; simp)
        have hs := hlenF [[40]] _ s1 (by simp) (fun x hx => by rw [List.mem_singleton] at hx; subst hx; simp)
        have hg : opsG l' (f + 1) p d b = opsG l' f (p + 1) (d - 1) b := by rw [opsG, if_neg hend, if_neg s0, if_pos s1]
        have hdn : osDn.den ρ = (d : Int) - 1 := by
          show IntKind.i64.wrap ((SE.v 3).den ρ - 1) = _
          rw [e3, wrap64 (by omega) (by omega)]
        by_cases hd0 : 0 < d
        · exact keep _ osDn (d - 1) c2 (fl_app (fl_app hP hs) (fl_cons (leT (by rw [hdn, den_n]; omega)) fl_nil)) (by rw [hdn]; omega) (by omega) hlt hg
        · exact keep _ (.n 0) (d - 1) c3 (fl_app (fl_app hP hs) (fl_cons (leN (by rw [hdn, den_n]; omega)) fl_nil)) (by rw [den_n]; omega) (by omega) hlt hg
      by_cases hpe : p = l'.length
      · refine cut _ c9 c11 (fl_app (fl_app hP (fl_cons (ltN (by rw [e2, hrow]; omega)) fl_nil)) (fl_cons ?_ fl_nil)) (by rw [opsG, if_neg hend, if_neg s0, if_neg s1, if_pos (.inl hpe)])
        show ((SE.v 2).den ρ == (tRows (.v 0)).den ρ) = true
        rw [e2, hrow, hpe]; simp
      have hlt : p < l'.length := by omega
      have hNl : Fact.holds ρ osNl := by
        show ((SE.v 2).den ρ == (tRows (.v 0)).den ρ) = false
        rw [e2, hrow, beq_eq_false_iff_ne]; omega
      have hd3 : ∀ q, decide (d = 0) = q → Fact.holds ρ (.eq, .v 3, .n 0, q) := fun q hq => eqB_ok q (by rw [e3, ← hq]; congr 1; simp)
      by_cases s2 : signAt l' p = [44]
      · have hs := hlenF [[40], [41]] _ s2 (by simp) (fun x hx => by
          simp only [List.mem_cons, List.mem_nil_iff, or_false] at hx
          rcases hx with rfl | rfl <;> simp)
        by_cases hd0 : d = 0
        · exact cut _ c10 c12 (fl_app (fl_app hP hs) (fl_cons hNl (fl_cons (hd3 true (decide_eq_true hd0)) fl_nil))) (by rw [opsG, if_neg hend, if_neg s0, if_neg s1, if_pos (.inr ⟨hd0, s2⟩)])
        · exact keep _ (.v 3) d c4 (fl_app (fl_app hP hs) (fl_cons hNl (fl_cons (hd3 false (decide_eq_false hd0)) fl_nil))) e3 (by omega) hlt (by rw [opsG, if_neg hend, if_neg s0, if_neg s1, if_neg (fun h => by rcases h with h | h; exact hpe h; exact hd0 h.1)])
      · have hg : opsG l' (f + 1) p d b = opsG l' f (p + 1) d b := by rw [opsG, if_neg hend, if_neg s0, if_neg s1, if_neg (fun h => by rcases h with h | h; exact hpe h; exact s2 h.2)]
        have hcell : ∀ j : Nat, cellAt (ρ 0).r ((SE.v 2).den ρ).toNat ((j : Nat) : Int).toNat = cellAt l' p j := fun j => by rw [hl0, e2, Int.toNat_natCast, Int.toNat_natCast]
        have q0 : (tCell (.v 0) (.v 2) 0).den ρ = tkK l' p := congrArg Prod.fst (hcell 0)
        have q1 : (tCell (.v 0) (.v 2) 1).str ρ = tkT l' p := congrArg Prod.snd (hcell 1)
        by_cases hk : tkK l' p = 3
        · have hno : ∀ g ∈ noSg (.v 2) [[40], [41], [44]] 2, Fact.holds ρ g := fl_app (fl_cons (ltT (by rw [e2, hrow]; omega)) (fl_cons (ltN (by rw [e2, den_n]; omega)) (fl_cons (eqF_ok (by rw [q0, hk])) fl_nil))) (seqL_ok (s := []) fun x hx => by
            have hsg : signAt l' p = tkT l' p := by unfold signAt; rw [if_pos ⟨hlt, hk⟩]
            rw [q1, ← hsg]
            simp only [List.mem_cons, List.mem_nil_iff, or_false] at hx
            rcases hx with rfl | rfl | rfl
            · exact s0
            · exact s1
            · exact s2)
          by_cases hd0 : d = 0
          · exact keep _ (.v 3) d c7 (fl_app (fl_app hP hno) (fl_cons hNl (fl_cons (hd3 true (decide_eq_true hd0)) fl_nil))) e3 (by omega) hlt hg
          · exact keep _ (.v 3) d c8 (fl_app (fl_app hP hno) (fl_cons hNl (fl_cons (hd3 false (decide_eq_false hd0)) fl_nil))) e3 (by omega) hlt hg
        · have hno : ∀ g ∈ noSg (.v 2) [[40], [41], [44]] 1, Fact.holds ρ g := fl_cons (ltT (by rw [e2, hrow]; omega)) (fl_cons (ltN (by rw [e2, den_n]; omega)) (fl_cons (neF_ok (by rw [q0]; exact hk)) fl_nil))
          by_cases hd0 : d = 0
          · exact keep _ (.v 3) d c5 (fl_app (fl_app hP hno) (fl_cons hNl (fl_cons (hd3 true (decide_eq_true hd0)) fl_nil))) e3 (by omega) hlt hg
          · exact keep _ (.v 3) d c6 (fl_app (fl_app hP hno) (fl_cons hNl (fl_cons (hd3 false (decide_eq_false hd0)) fl_nil))) e3 (by omega) hlt hg
theorem os_ctr {c : Ctr} (hc : OsC c) (ht : enterD c.args fsOs.ntmps 0 .nil = some osT) (hS : startS Tryz.prog call21 fsOs 100000 (stpL [0]) (bodyOf fsOs) c osT = osS) (hnx : c.nx = 9 + 2) : CtrOK Tryz.prog 24 c := by
  have hst := os_start
  simp only [Bool.and_eq_true] at hst
  refine ctr_loopsA (loops := [osLp]) (inv := osI) (fuel := 100000) (stp := stpL [0]) gsz mixed (runD_ok static kn21_ok 20) Tryz.func24 (by kernel_rfl) (show fsOs.body = some (bodyOf fsOs) by kernel_rfl) (by kernel_rfl) ht (by rw [hnx]; exact hst.2) (fun ρ hF => ?_) ?_
  · show ∃ F : List Fact, _ ∧ OutA _ _ _ _ _ _ _ _ _ (startS Tryz.prog call21 fsOs 100000 (stpL [0]) (bodyOf fsOs) c osT F)
    rw [hS]
    obtain ⟨l, p0, hl, hp, hll, hpl, hcc⟩ := osF hc hF
    have hrow : (tRows (.v 0)).den ρ = (l.length : Int) := by show (((ρ 0).r.length : Nat) : Int) = _; rw [hl]
    have e1 : (SE.v 1).den ρ = (p0 : Int) := hp
    have hB : ∀ x ∈ osFs, x.holds ρ := fl_cons (ltT (by rw [hrow, den_n]; omega)) (fl_cons (ltN (by rw [e1, den_n]; omega)) (fl_cons (leT (by rw [e1, hrow]; omega)) fl_nil))
    by_cases he : p0 = l.length
    · have ho : opsF l p0 = ([], 0, 0) := by unfold opsF; rw [if_pos he]
      have : c = osNil := by
        rcases hcc with ⟨h, _⟩ | ⟨_, _, h⟩ | ⟨_, h⟩
        · exact h
        · rw [ho] at h; exact absurd rfl h
        · rw [ho] at h; exact absurd rfl h
      subst this
      exact ⟨osAtE, fl_app hB (fl_cons (by show ((SE.v 1).den ρ == (tRows (.v 0)).den ρ) = true; rw [e1, hrow, he]; simp) fl_nil), .fin [] _ (needsB_ok hst.1.1) (nd_cons rfl nd_nil)⟩
    · have ho : opsF l p0 = opsG l (l.length + 2) p0 0 p0 := by unfold opsF; rw [if_neg he]
      exact ⟨osGo, fl_app hB (fl_cons (by show ((SE.v 1).den ρ == (tRows (.v 0)).den ρ) = false; rw [e1, hrow, beq_eq_false_iff_ne]; omega) fl_nil), .stop 0 0 osLp osCan0 _ [] (l.length + 1 - p0) rfl rfl (fun i m h => by cases h) rfl rfl hst.1.2 (by cases hc <;> rfl)
        ⟨l, p0, p0, 0, p0, [], l.length + 2, rfl, rfl, hl, hp, hp, rfl, hp, rfl, Nat.le_refl _, by omega, Nat.zero_le _, Nat.zero_le _, rfl, by omega, fun _ => ⟨rfl, hpl⟩, fun h => (by cases h), by rw [ho]; rfl, by rw [ho]⟩⟩
  · intro i lp x can hlp hx ρ0 ρ m hF hI
    match i, hlp with
    | 0, hlp =>
      simp at hlp; subst hlp
      match x, hx with
      | 0, hx => cases hx; exact os_loop hc 0 (by omega) ρ0 ρ m hF hI
      | 1, hx => cases hx; exact os_loop hc 1 (by omega) ρ0 ρ m hF hI
      | x + 2, hx => simp [osLp] at hx
    | i + 1, hlp => simp at hlp
noncomputable def gOs : Gn := gC Tryz.prog 9 osNil [osOk, osBad]
theorem gOs_ok : GoodAt Tryz.prog 24 gOs := good_C gsz (by kernel_rfl) (fun x hx => by
  simp only [List.mem_cons, List.mem_nil_iff, or_false] at hx
  rcases hx with rfl | rfl | rfl
  · exact os_ctr .nil (by kernel_rfl) rfl rfl
  · exact os_ctr .ok (by kernel_rfl) rfl rfl
  · exact os_ctr .bad (by kernel_rfl) rfl rfl)
noncomputable def kn22 : Known := knCons 24 gOs kn21
theorem kn22_ok : KnownOK Tryz.prog kn22 := knCons_ok gOs_ok kn21_ok
noncomputable def call22 : CallFn := runD Tryz.prog kn22 20
end Go.Proofs.YtlfeoiagemlbiaaGreatDoor
