/- Lines: the contract. -/
import Derived.Test.YtlfeoiagemlbiaaGreatDoorCPe
import Derived.Test.YtlfeoiagemlbiaaGreatDoorXs4
set_option linter.unusedVariables false
set_option linter.unusedSectionVars false
set_option linter.unusedSimpArgs false
set_option maxRecDepth 100000
noncomputable section
namespace Go.Proofs.YtlfeoiagemlbiaaGreatDoor
open Go.Den Go.Proofs Go.Extern Go.RowKit
variable [Mpr]
inductive PzC : Ctr → Nat → Prop where
  | err : PzC pzErr 0
  | nil (d : Bool) : PzC (pzNil d) 0
  | ok (d : Bool) : PzC (pzOk d) 0
  | bad (e : Nat) (h : pzBB e = true) (h0 : e ≠ 0) : PzC (pzBad e) e
theorem PzC.short {c : Ctr} {e : Nat} (h : PzC c e) {ρ : Rho} (hF : ∀ x ∈ c.facts, x.holds ρ) : ((ρ 0).s.length : Int) < 1000000 := by
  cases h <;> exact short_of (hF _ List.mem_cons_self)
theorem PzC.lexErr {c : Ctr} {e : Nat} (h : PzC c e) {ρ : Rho} (hF : ∀ x ∈ c.facts, x.holds ρ) : (lexF (ρ 0).s).2.1 = e := by
  have : ((((lexF (ρ 0).s).2.1 : Nat) : Int) == (e : Int)) = true := by
    cases h <;> exact hF _ (List.mem_cons_of_mem _ List.mem_cons_self)
  have := eq_of_beq this
  omega
theorem par80 (ρ : Rho) : (sy 80 (.v 0)).den ρ = ((parT (ρ 0).s).err : Int) := rfl
theorem par81 (ρ : Rho) : (sy 81 (.v 0)).den ρ = ((parT (ρ 0).s).eat : Int) := rfl
theorem par82 (ρ : Rho) : (sy 82 (.v 0)).str ρ = (parT (ρ 0).s).lab := rfl
theorem par83 (ρ : Rho) : (sy 83 (.v 0)).str ρ = (parT (ρ 0).s).name := rfl
theorem par84 (ρ : Rho) : (sy 84 (.v 0)).den ρ = b01 (parT (ρ 0).s).dot := rfl
theorem par85 (ρ : Rho) : (sy 85 (.v 0)).row ρ = (parT (ρ 0).s).args.map argR := rfl
theorem par85n (ρ : Rho) : (tRows (sy 85 (.v 0))).den ρ = ((parT (ρ 0).s).args.length : Int) := by
  show ((((sy 85 (.v 0)).row ρ).length : Nat) : Int) = _
  rw [par85, List.length_map]
/-- which contract it is -/
theorem pz_which {c : Ctr} (hc : PzC c 0) {ρ : Rho} (hF : ∀ x ∈ c.facts, x.holds ρ) :
    (c = pzErr ∧ (parT (ρ 0).s).err ≠ 0) ∨ (∃ d, (c = pzNil d ∧ (parT (ρ 0).s).args = [] ∨ c = pzOk d ∧ (parT (ρ 0).s).args ≠ []) ∧ (parT (ρ 0).s).err = 0 ∧ (parT (ρ 0).s).dot = d) := by
  have hok : ∀ d n, (∀ x ∈ pzOkF d n, x.holds ρ) → (parT (ρ 0).s).err = 0 ∧ (parT (ρ 0).s).dot = d ∧ (n = true → (parT (ρ 0).s).args = []) ∧ (n = false → (parT (ρ 0).s).args ≠ []) := by
    intro d n h
    have g1 : Fact.holds ρ (.eq, sy 80 (.v 0), .n 0, true) := h _ (List.mem_append_right _ List.mem_cons_self)
    have g2 : Fact.holds ρ (.eq, sy 84 (.v 0), .n 1, d) := h _ (List.mem_append_right _ (List.mem_cons_of_mem _ List.mem_cons_self))
    have g3 : Fact.holds ρ (.eq, tRows (sy 85 (.v 0)), .n 0, n) := h _ (List.mem_append_right _ (List.mem_cons_of_mem _ (List.mem_cons_of_mem _ List.mem_cons_self)))
    have g1' := of_eqT g1
    rw [par80] at g1'
    have g2' : ((sy 84 (.v 0)).den ρ == 1) = d := g2
    rw [par84] at g2'
    refine ⟨by omega, ?_, fun hn => ?_, fun hn => ?_⟩
    · rw [← g2']; cases (parT (ρ 0).s).dot <;> rfl
    · subst hn
      have := of_eqT g3
      rw [par85n] at this
      exact List.eq_nil_of_length_eq_zero (by omega)
    · subst hn
      have := of_eqN g3
      rw [par85n] at this
      intro hh; rw [hh] at this; exact this rfl
  generalize he0 : (0 : Nat) = e0 at hc
  cases hc with
  | err =>
    have g1 : Fact.holds ρ (.eq, sy 80 (.v 0), .n 0, false) := hF _ (List.mem_append_right _ List.mem_cons_self)
    have g1' := of_eqN g1
    rw [par80] at g1'
    exact .inl ⟨rfl, by omega⟩
  | nil d => obtain ⟨h1, h2, h3, _⟩ := hok d true hF; exact .inr ⟨d, .inl ⟨rfl, h3 rfl⟩, h1, h2⟩
  | ok d => obtain ⟨h1, h2, _, h3⟩ := hok d false hF; exact .inr ⟨d, .inr ⟨rfl, h3 rfl⟩, h1, h2⟩
  | bad e h h0 => exact absurd he0.symm h0
def PzOut (c : Ctr) (ρ : Rho) : Prop := ∃ (F : List Fact) (rn : List (Nat × Nat)) (L : List Need), (∀ x ∈ F, x.holds ρ) ∧ needsB Tryz.prog 9 fsPz c rn (pzS F) L = true ∧ ∀ n ∈ L, n.ok ρ ρ
theorem pz_finE {c : Ctr} (hc : PzC c 0) {ρ : Rho} (hF : ∀ x ∈ c.facts, x.holds ρ) {F : List Fact} {p e : SE} (hB : pzErB F p e = true) (hG : ∀ x ∈ F, x.holds ρ) (he : ((parT (ρ 0).s).err : Int) = e.den ρ) (hp : ((parT (ρ 0).s).eat : Int) = p.den ρ) (hne : (parT (ρ 0).s).err ≠ 0) : PzOut c ρ := by
  rcases pz_which hc hF with ⟨rfl, _⟩ | ⟨d, _, h0, _⟩
  · exact ⟨F, _, _, hG, hB, nd_cons hp (nd_cons he nd_nil)⟩
  · exact absurd h0 hne
theorem pz_finN {c : Ctr} (hc : PzC c 0) {ρ : Rho} (hF : ∀ x ∈ c.facts, x.holds ρ) {F : List Fact} {d : Bool} {lab nm : SE} (hB : pzNiB d F lab nm = true) (hG : ∀ x ∈ F, x.holds ρ) (he : (parT (ρ 0).s).err = 0) (hl : (parT (ρ 0).s).lab = lab.str ρ) (hn : (parT (ρ 0).s).name = nm.str ρ) (hd : (parT (ρ 0).s).dot = d) (ha : (parT (ρ 0).s).args = []) : PzOut c ρ := by
  rcases pz_which hc hF with ⟨_, h0⟩ | ⟨d', hw, _, hd'⟩
  · exact absurd he h0
  · obtain rfl : d' = d := hd'.symm.trans hd
    rcases hw with ⟨rfl, _⟩ | ⟨_, h⟩
    · exact ⟨F, _, _, hG, hB, nd_cons hl (nd_cons hn nd_nil)⟩
    · exact absurd ha h
theorem pz_finO {c : Ctr} (hc : PzC c 0) {ρ : Rho} (hF : ∀ x ∈ c.facts, x.holds ρ) {F : List Fact} {d : Bool} {lab nm a : SE} (hB : pzOkB d F lab nm a = true) (hG : ∀ x ∈ F, x.holds ρ) (he : (parT (ρ 0).s).err = 0) (hl : (parT (ρ 0).s).lab = lab.str ρ) (hn : (parT (ρ 0).s).name = nm.str ρ) (hd : (parT (ρ 0).s).dot = d) (ha : (parT (ρ 0).s).args ≠ []) (hr : (parT (ρ 0).s).args.map argR = a.row ρ) : PzOut c ρ := by
  rcases pz_which hc hF with ⟨_, h0⟩ | ⟨d', hw, _, hd'⟩
  · exact absurd he h0
  · obtain rfl : d' = d := hd'.symm.trans hd
    rcases hw with ⟨_, h⟩ | ⟨rfl, _⟩
    · exact absurd h ha
    · have hrow : (tRows (sy 85 (.v 0))).den ρ = (tRows a).den ρ := by
        show ((((sy 85 (.v 0)).row ρ).length : Nat) : Int) = (((a.row ρ).length : Nat) : Int)
        rw [par85, hr]
      exact ⟨F, _, _, hG, hB, nd_cons hl (nd_cons hn (nd_cons rfl (nd_cons hrow (nd_cons hrow (nd_cons rfl (nd_cons hr nd_nil))))))⟩
theorem pz_k (ρ : Rho) (i : Nat) : (pzK i).den ρ = tkK (lexR (ρ 0).s) i := rfl
theorem pz_t (ρ : Rho) (i : Nat) : (tCell lnR (.n (Int.ofNat i)) 1).str ρ = tkT (lexR (ρ 0).s) i := rfl
theorem pz_op77 (ρ : Rho) (a : Nat) : (pzOp 77 a).den ρ = ((opsF (lexR (ρ 0).s) a).2.1 : Int) := rfl
theorem pz_op78 (ρ : Rho) (a : Nat) : (pzOp 78 a).den ρ = ((opsF (lexR (ρ 0).s) a).2.2 : Int) := rfl
theorem pz_op76 (ρ : Rho) (a : Nat) : (pzOp 76 a).row ρ = (opsF (lexR (ρ 0).s) a).1.map argR := rfl
theorem pz_rows (ρ : Rho) : (tRows lnR).den ρ = ((lexR (ρ 0).s).length : Int) := rfl
theorem pz_ke {ρ : Rho} {i k : Nat} {b : Bool} (h : decide (tkK (lexR (ρ 0).s) i = (k : Int)) = b) : Fact.holds ρ (pzKe i k b) := eqB_ok b (by rw [pz_k]; exact h)
/-- behind the label -/
theorem pz_go {c : Ctr} (hc : PzC c 0) {ρ : Rho} (hF : ∀ x ∈ c.facts, x.holds ρ) (y : Nat) (hH : ∀ x ∈ pzH y, x.holds ρ) (hp : parT (ρ 0).s = parG (lexR (ρ 0).s) ((pzLt y).str ρ) (pzA y)) (hlt : pzA y < (lexR (ρ 0).s).length)
    (hot : (tkK (lexR (ρ 0).s) (pzA y) ≠ 1 ∧ tkK (lexR (ρ 0).s) (pzA y) ≠ 4) → pzOtB y = true) (hw : ∀ d : Bool, d = decide (tkK (lexR (ρ 0).s) (pzA y) = 4) → (d = false → tkK (lexR (ρ 0).s) (pzA y) = 1) → pzWB y d = true) : PzOut c ρ := by
  have hk1 := lexR_kind (ρ 0).s hlt
  have hIn : ∀ x ∈ pzIn (pzA y), Fact.holds ρ x := fl_cons (ltT (by rw [den_n, pz_rows]; show ((pzA y : Nat) : Int) < _; omega)) (fl_cons (pz_ke (decide_eq_false (by show ¬ tkK (lexR (ρ 0).s) (pzA y) = 0; omega))) fl_nil)
  have hHI := fl_app hH hIn
  unfold parG at hp
  rw [if_neg (by omega)] at hp
  by_cases h4 : tkK (lexR (ρ 0).s) (pzA y) = 4 ∨ tkK (lexR (ρ 0).s) (pzA y) = 1
  · rw [if_pos h4] at hp
    obtain ⟨d, hd⟩ : ∃ d, d = decide (tkK (lexR (ρ 0).s) (pzA y) = 4) := ⟨_, rfl⟩
    have hwd := hw d hd (fun h => by
      rw [h] at hd
      have := of_decide_eq_false hd.symm
      rcases h4 with h | h
      · exact absurd h this
      · exact h)
    unfold pzWB at hwd
    simp only [Bool.and_eq_true] at hwd
    obtain ⟨⟨w1, w2⟩, w3⟩ := hwd
    have hD : ∀ x ∈ (bif d then [pzKe (pzA y) 4 true] else [pzKe (pzA y) 4 false, pzKe (pzA y) 1 true]), Fact.holds ρ x := by
      cases d with
      | true => exact fl_cons (pz_ke hd.symm) fl_nil
      | false => exact fl_cons (pz_ke hd.symm) (fl_cons (pz_ke (by
          rcases h4 with h | h
          · exact absurd h (of_decide_eq_false hd.symm)
          · exact decide_eq_true h)) fl_nil)
    have hW : ∀ e, decide ((opsF (lexR (ρ 0).s) (pzA y + 1)).2.1 = 0) = e → ∀ x ∈ pzW y d e, Fact.holds ρ x := fun e he => fl_app hH (fl_app hIn (fl_app hD (fl_cons (leT (by rw [den_n, pz_rows]; show ((pzA y + 1 : Nat) : Int) ≤ _; omega)) (fl_cons (eqB_ok e (by rw [pz_op77, ← he]; congr 1; simp)) fl_nil))))
    by_cases h0 : (opsF (lexR (ρ 0).s) (pzA y + 1)).2.1 = 0
    · rw [if_pos h0, ← hd] at hp
      have hW0 := hW true (decide_eq_true h0)
      have hrw : (tRows (pzOp 76 (pzA y + 1))).den ρ = ((opsF (lexR (ρ 0).s) (pzA y + 1)).1.length : Int) := by
        show ((((pzOp 76 (pzA y + 1)).row ρ).length : Nat) : Int) = _
        rw [pz_op76, List.length_map]
      by_cases hn : (opsF (lexR (ρ 0).s) (pzA y + 1)).1 = []
      · exact pz_finN hc hF w2 (fl_app hW0 (fl_cons (eqF_ok (by rw [hrw, hn]; rfl)) fl_nil)) (by rw [hp]) (by rw [hp]) (by rw [hp]; rfl) (by rw [hp]) (by rw [hp]; exact hn)
      · exact pz_finO hc hF w3 (fl_app hW0 (fl_cons (neF_ok (by rw [hrw]; intro h; exact hn (List.eq_nil_of_length_eq_zero (by omega)))) fl_nil)) (by rw [hp]) (by rw [hp]) (by rw [hp]; rfl) (by rw [hp]) (by rw [hp]; exact hn) (by rw [hp, pz_op76])
    · rw [if_neg h0] at hp
      exact pz_finE hc hF w1 (hW false (decide_eq_false h0)) (by rw [hp]; rfl) (by rw [hp, pz_op78]) (by rw [hp]; show (11 : Nat) ≠ 0; decide)
  · rw [if_neg h4] at hp
    have h41 : tkK (lexR (ρ 0).s) (pzA y) ≠ 4 := fun h => h4 (.inl h)
    have h11 : tkK (lexR (ρ 0).s) (pzA y) ≠ 1 := fun h => h4 (.inr h)
    refine pz_finE hc hF (hot ⟨h11, h41⟩) (F := pzOt y) (fl_app hH (fl_app hIn (fl_cons (pz_ke (decide_eq_false h41)) (fl_cons (pz_ke (decide_eq_false h11)) fl_nil)))) (by rw [hp]; rfl) (by rw [hp]; rfl) (by rw [hp]; show (11 : Nat) ≠ 0; decide)
theorem pz_out {c : Ctr} (hc : PzC c 0) {ρ : Rho} (hF : ∀ x ∈ c.facts, x.holds ρ) : PzOut c ρ := by
  have hsh := hc.short hF
  have hle := hc.lexErr hF
  have hB : ∀ x ∈ pzF, Fact.holds ρ x := fl_cons (ltT hsh) (fl_cons (eqF_ok (t := sy 36 (.v 0)) (by show (((lexF (ρ 0).s).2.1 : Nat) : Int) = _; rw [hle]; rfl)) fl_nil)
  have hfew : (lexR (ρ 0).s).length ≤ (ρ 0).s.length := by unfold lexR; rw [List.length_map]; exact lexG_short _ _ _
  obtain ⟨l, hl⟩ : ∃ l, l = lexR (ρ 0).s := ⟨_, rfl⟩
  have hpT : parT (ρ 0).s = parF l := by rw [hl]; rfl
  by_cases he : l.length = 0
  · have hp : parT (ρ 0).s = ⟨0, 0, [], [], false, []⟩ := by
      rw [hpT]; unfold parF labB
      rw [show decide (0 < l.length) = false from decide_eq_false (by omega)]
      simp only [Bool.and_false, Bool.false_and]
      rw [if_neg (by decide)]
      unfold parG
      rw [if_pos (by omega)]
    exact pz_finN hc hF pz_emp (fl_app hB (fl_cons (eqF_ok (by rw [pz_rows, ← hl, he]; rfl)) fl_nil)) (by rw [hp]) (by rw [hp]; rfl) (by rw [hp]; rfl) (by rw [hp]) (by rw [hp])
  have hR : ∀ x ∈ pzRows, Fact.holds ρ x := fl_app hB (fl_cons (neF_ok (by rw [pz_rows, ← hl]; omega)) (fl_cons (ltT (by rw [pz_rows, den_n]; omega)) (fl_cons (ltT (by rw [pz_rows, den_n, ← hl]; omega)) (fl_cons (eqF_ok (by show b01 (shortNames (lexR (ρ 0).s)) = 1; rw [lexR_names]; rfl)) fl_nil))))
  by_cases hk0 : tkK l 0 = 1
  · have hK : ∀ x ∈ [pzKe 0 1 true], Fact.holds ρ x := fl_cons (pz_ke (by rw [← hl]; exact decide_eq_true hk0)) fl_nil
    by_cases hs : signAt l 1 = [58]
    · have hlt := signAt_lt (l := l) (p := 1) (by rw [hs]; simp)
      have hlab : labB l = true := by
        unfold labB
        rw [decide_eq_true hk0, decide_eq_true (show 0 < l.length by omega), decide_eq_true hs]; rfl
      have hs' := hs
      unfold signAt at hs'
      split at hs'
      case isFalse => exact absurd hs'.symm (by simp)
      rename_i hq
      have hSg : ∀ x ∈ isSgR lnR (.n 1) [58], Fact.holds ρ x := fl_cons (ltT (by rw [den_n, pz_rows, ← hl]; omega)) (fl_cons (ltN (by rw [den_n, den_n]; omega)) (fl_cons (eqF_ok (by rw [hl] at hq; exact hq.2)) (fl_cons (seqT (by rw [hl] at hs'; exact hs')) fl_nil)))
      have hLab : ∀ b, (regF l 0 1).isSome = b → ∀ x ∈ pzLab b, Fact.holds ρ x := fun b hb => fl_app hR (fl_app hK (fl_app hSg (fl_cons (leT (by rw [den_n, pz_rows, ← hl]; omega)) (fl_cons (leT (by rw [pz_rows, ← hl]; show (0 : Int) + 1 ≤ _; omega)) (fl_cons (eqB_ok b (by
        show decide (b01 (regF (lexR (ρ 0).s) 0 1).isSome = 1) = b
        rw [← hl, hb]; cases b <;> rfl)) fl_nil)))))
      by_cases hr : (regF l 0 1).isSome = true
      · have hp : parT (ρ 0).s = ⟨12, 0, [], [], false, []⟩ := by rw [hpT]; unfold parF; rw [if_pos hlab, if_pos hr]
        exact pz_finE hc hF pz_reg (hLab true hr) (by rw [hp]; rfl) (by rw [hp]; rfl) (by rw [hp]; show (12 : Nat) ≠ 0; decide)
      · have hp : parT (ρ 0).s = parG l (tkT l 0) 2 := by rw [hpT]; unfold parF; rw [if_pos hlab, if_neg hr]
        have hL := hLab false (Bool.eq_false_iff.2 hr)
        by_cases h2 : l.length ≤ 2
        · unfold parG at hp
          rw [if_pos h2] at hp
          exact pz_finN hc hF pz_el (fl_app hL (fl_cons (ltN (by rw [pz_rows, den_n, ← hl]; omega)) fl_nil)) (by rw [hp]) (by rw [hp, hl]; rfl) (by rw [hp]; rfl) (by rw [hp]) (by rw [hp])
        · refine pz_go hc hF 4 hL (by rw [hp, hl]; rfl) (by rw [← hl]; show 2 < _; omega) (fun _ => pz_ot4) (fun d _ _ => ?_)
          cases d
          · exact pz_w4f
          · exact pz_w4t
    · have hlab : labB l = false := by
        unfold labB
        rw [decide_eq_false hs]; simp
      have hp : parT (ρ 0).s = parG l [] 0 := by rw [hpT]; unfold parF; rw [if_neg (by rw [hlab]; decide)]
      have hno : ∃ y, y ≤ 2 ∧ ∀ x ∈ noSgR lnR (.n 1) [[58]] y, Fact.holds ρ x := by
        by_cases h1 : 1 < l.length
        · by_cases h3 : tkK l 1 = 3
          · refine ⟨2, Nat.le_refl _, fl_app (fl_cons (ltT (by rw [den_n, pz_rows, ← hl]; omega)) (fl_cons (ltN (by rw [den_n, den_n]; omega)) (fl_cons (eqF_ok (by rw [hl] at h3; exact h3)) fl_nil))) (seqL_ok (s := []) fun x hx => ?_)⟩
            rw [List.mem_singleton] at hx
            subst hx
            have hsg : signAt l 1 = tkT l 1 := by unfold signAt; rw [if_pos ⟨h1, h3⟩]
            rw [hsg, hl] at hs
            exact hs
          · exact ⟨1, by omega, fl_cons (ltT (by rw [den_n, pz_rows, ← hl]; omega)) (fl_cons (ltN (by rw [den_n, den_n]; omega)) (fl_cons (neF_ok (by rw [hl] at h3; exact h3)) fl_nil))⟩
        · exact ⟨0, by omega, fl_cons (ltN (by rw [den_n, pz_rows, ← hl]; omega)) fl_nil⟩
      have hnd : ∀ d : Bool, d = decide (tkK (lexR (ρ 0).s) 0 = 4) → d = false := fun d hd => by rw [hd, ← hl, hk0]; rfl
      obtain ⟨y, hy, hno⟩ := hno
      have hH : ∀ x ∈ pzNo (y + 1), Fact.holds ρ x := fl_app hR (fl_app hK hno)
      match y, hy, hH with
      | 0, _, hH => exact pz_go hc hF 1 hH (by rw [hp, hl]; rfl) (by rw [← hl]; show 0 < _; omega) (fun h => absurd (by rw [← hl]; exact hk0) h.1) (fun d hd _ => by rw [hnd d hd]; exact pz_w1)
      | 1, _, hH => exact pz_go hc hF 2 hH (by rw [hp, hl]; rfl) (by rw [← hl]; show 0 < _; omega) (fun h => absurd (by rw [← hl]; exact hk0) h.1) (fun d hd _ => by rw [hnd d hd]; exact pz_w2)
      | 2, _, hH => exact pz_go hc hF 3 hH (by rw [hp, hl]; rfl) (by rw [← hl]; show 0 < _; omega) (fun h => absurd (by rw [← hl]; exact hk0) h.1) (fun d hd _ => by rw [hnd d hd]; exact pz_w3)
      | y + 3, hy, _ => omega
  · have hlab : labB l = false := by
      unfold labB
      rw [decide_eq_false hk0]; rfl
    have hp : parT (ρ 0).s = parG l [] 0 := by rw [hpT]; unfold parF; rw [if_neg (by rw [hlab]; decide)]
    have hH : ∀ x ∈ pzNo 0, Fact.holds ρ x := fl_app hR (fl_cons (pz_ke (by rw [← hl]; exact decide_eq_false hk0)) fl_nil)
    refine pz_go hc hF 0 hH (by rw [hp, hl]; rfl) (by rw [← hl]; show 0 < _; omega) (fun _ => pz_ot0) (fun d hd h1 => ?_)
    cases d with
    | true => exact pz_w0
    | false => exact absurd (h1 rfl) (by rw [← hl]; exact hk0)
theorem pz_ctr {c : Ctr} {e : Nat} (hc : PzC c e) (ht : enterD c.args fsPz.ntmps 0 .nil = some wdT) (hS : ∀ F, startS Tryz.prog call22 fsPz 100000 (stpL []) (bodyOf fsPz) c wdT F = pzS F) : CtrOK Tryz.prog 9 c := by
  refine ctr_fin (fuel := 100000) (stp := stpL []) gsz mixed (runD_ok static kn22_ok 20) Tryz.func9 (by kernel_rfl) (show fsPz.body = some (bodyOf fsPz) by kernel_rfl) (by kernel_rfl) ht (fun ρ hF => ?_)
  suffices h : PzOut c ρ by
    obtain ⟨F, rn, L, h1, h2, h3⟩ := h
    exact ⟨F, rn, L, h1, by rw [← hS F] at h2; exact h2, h3⟩
  by_cases he : e = 0
  · subst he; exact pz_out hc hF
  · cases hc with
    | bad e hB h0 =>
      refine ⟨[short (.v 0), lnErr e], _, _, hF, hB, nd_cons rfl nd_nil⟩
    | err => exact absurd rfl he
    | nil d => exact absurd rfl he
    | ok d => exact absurd rfl he
noncomputable def gPz : Gn := gC Tryz.prog 9 pzErr [pzNil false, pzNil true, pzOk false, pzOk true, pzBad 11, pzBad 14, pzBad 15]
theorem gPz_ok : GoodAt Tryz.prog 9 gPz := good_C gsz (by kernel_rfl) (fun x hx => by
  simp only [List.mem_cons, List.mem_nil_iff, or_false] at hx
  rcases hx with rfl | rfl | rfl | rfl | rfl | rfl | rfl | rfl
  · exact pz_ctr .err (by kernel_rfl) (fun _ => rfl)
  · exact pz_ctr (.nil false) (by kernel_rfl) (fun _ => rfl)
  · exact pz_ctr (.nil true) (by kernel_rfl) (fun _ => rfl)
  · exact pz_ctr (.ok false) (by kernel_rfl) (fun _ => rfl)
  · exact pz_ctr (.ok true) (by kernel_rfl) (fun _ => rfl)
  · exact pz_ctr (.bad 11 pz_b11 (by decide)) (by kernel_rfl) (fun _ => rfl)
  · exact pz_ctr (.bad 14 pz_b14 (by decide)) (by kernel_rfl) (fun _ => rfl)
  · exact pz_ctr (.bad 15 pz_b15 (by decide)) (by kernel_rfl) (fun _ => rfl))
noncomputable def kn23 : Known := knCons 9 gPz kn22
theorem kn23_ok : KnownOK Tryz.prog kn23 := knCons_ok gPz_ok kn22_ok
noncomputable def call23 : CallFn := runD Tryz.prog kn23 20
end Go.Proofs.YtlfeoiagemlbiaaGreatDoor
