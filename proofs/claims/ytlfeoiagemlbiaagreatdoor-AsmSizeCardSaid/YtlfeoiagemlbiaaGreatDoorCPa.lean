/- Numbers that may have a sign ahead; small numbers as decimals. -/
import Derived.Test.YtlfeoiagemlbiaaGreatDoorCEj
import Derived.Test.YtlfeoiagemlbiaaGreatDoorXs4
set_option linter.unusedVariables false
set_option linter.unusedSectionVars false
set_option linter.unusedSimpArgs false
set_option maxRecDepth 100000
noncomputable section
namespace Go.Proofs.YtlfeoiagemlbiaaGreatDoor
open Go.Den Go.Proofs Go.Extern Go.RowKit
variable [Mpr]
noncomputable def fsAt : Func := Tryz.f93
noncomputable def atE : IV := .iface 226 (.int .i64 2)
noncomputable def atC (ok : Bool) : Ctr := ⟨[.sstr (.v 0)], 9 + 1, baseL, [(.lt, tLen (.v 0), .n 19, true), (.eq, sy 73 (.v 0), .n 1, ok)], bif ok then .tuple [.sint .i64 (sy 74 (.v 0)), .nilIface] else .tuple [.int .i64 0, atE], [], []⟩
noncomputable def atS (F : List Fact) : SRes := startS Tryz.prog call15 fsAt 100000 (stpL [0]) (bodyOf fsAt) (atC true) wdT F
noncomputable def atB0 : SE := tByte (.v 0) (.n 0)
noncomputable def atSub : SE := tSub (.v 0) (.n 1) (tLen (.v 0))
noncomputable def atF0 : List Fact := [short (.v 0), (.lt, tLen (.v 0), .n 19, true), (.lt, .n 0, tLen (.v 0), true)]
noncomputable def atNil : List Fact := [short (.v 0), (.lt, tLen (.v 0), .n 19, true), (.lt, .n 0, tLen (.v 0), false), (.seq, .v 0, .lit [], true)]
/-- 0: no sign; 1: -; 2: + -/
noncomputable def atSg (x : Nat) : List Fact := atF0 ++ match x with
  | 0 => [(.eq, atB0, .n 45, false), (.eq, atB0, .n 43, false)]
  | 1 => [(.eq, atB0, .n 45, true), (.le, .n 1, tLen (.v 0), true)]
  | _ => [(.eq, atB0, .n 45, false), (.eq, atB0, .n 43, true), (.le, .n 1, tLen (.v 0), true)]
noncomputable def atBare (x : Nat) : List Fact := atSg x ++ [(.lt, tLen atSub, .n 1, true)]
noncomputable def atMore (x : Nat) : List Fact := atSg x ++ [(.lt, tLen atSub, .n 1, false), (.lt, tLen atSub, .n 1000000, true)]
noncomputable def atOut (ok : Bool) (r : SRes) (L : List Need) : Bool := needsB Tryz.prog 9 fsAt (atC ok) [] r L
noncomputable def atCan : Go.Den.Can := ⟨[(5, .sstr (.v 0)), (6, .sint .i64 (.v 2)), (47, .sslice (9 + 1) 1 (.n 0) (tLen (.v 1)) (.n 9223372036854775808)), (48, .sint .i64 (tLen (.v 1))), (49, .sint .i64 (.v 3))], (9 + 1, .rows 5 1 [.int .u8 0] (tBytes (.v 1)) 1) :: baseL, 9 + 2⟩
noncomputable def atLp : Lp := ⟨0, srB (atS (atSg 0)), srK (atS (atSg 0)), atCan⟩
noncomputable def atSgm (t n i : SE) : List (Nat × SE) := [(0, .v 0), (1, t), (2, n), (3, i)]
theorem at_start : (atOut false (atS atNil) [] && atOut false (atS (atBare 1)) [] && atOut false (atS (atBare 2)) [] && chkStop Tryz.prog 9 (atSgm (.v 0) (.n 0) (.n 0)) [] atCan 0 (atS (atSg 0)) && chkStop Tryz.prog 9 (atSgm atSub (.n 0) (.n 0)) [] atCan 0 (atS (atMore 1)) && chkStop Tryz.prog 9 (atSgm atSub (.n 0) (.n 0)) [] atCan 0 (atS (atMore 2)) && [atLp].all (lpB (9 + 1))) = true := by kernel_rfl
noncomputable def atRd (F : List Fact) : SRes := roundS Tryz.prog call15 fsAt.ntmps 100000 (stpL [0]) 0 atLp F
noncomputable def atCell : SE := tCell (tBytes (.v 1)) (.v 3) 0
noncomputable def atDig : SE := .bin .sub .u8 atCell (.n 48)
noncomputable def atIn (b : Bool) : List Fact := [(.lt, .v 3, tLen (.v 1), true), (.lt, .v 3, .n 0, false), (.lt, .v 3, tRows (tBytes (.v 1)), true), (.lt, .n 9, atDig, b)]
noncomputable def atEnd (b : Bool) : List Fact := [(.lt, .v 3, tLen (.v 1), false), (.lt, .n 0, tLen (.v 0), true), (.eq, atB0, .n 45, b)]
noncomputable def atNv : SE := .bin .add .i64 (.bin .mul .i64 (.v 2) (.n 10)) (.wrap .i64 atDig)
noncomputable def atIx : SE := .bin .add .i64 (.v 3) (.n 1)
noncomputable def atNg : SE := .bin .sub .i64 (.n 0) (.v 2)
theorem at_rd : (atOut false (atRd (atIn true)) [] && chkAgain Tryz.prog 9 (atSgm (.v 1) atNv atIx) [] atCan 0 (atRd (atIn false)) && atOut true (atRd (atEnd true)) [.i (sy 74 (.v 0)) atNg] && atOut true (atRd (atEnd false)) [.i (sy 74 (.v 0)) (.v 2)]) = true := by kernel_rfl
noncomputable def atI (i : Nat) (ρ0 ρ : Rho) (m : Nat) : Prop := ∃ j : Nat, i = 0 ∧ ρ 0 = ρ0 0 ∧ (ρ 1).s = atoiT (ρ0 0).s ∧ (ρ 2).i = (valF 10 ((atoiT (ρ0 0).s).take j) : Int) ∧ (ρ 3).i = (j : Int) ∧ j ≤ (atoiT (ρ0 0).s).length ∧ atoiT (ρ0 0).s ≠ [] ∧ ((atoiT (ρ0 0).s).take j).all isDec = true ∧ m = (atoiT (ρ0 0).s).length - j
theorem at_fact {ok : Bool} {ρ : Rho} (hF : ∀ x ∈ (atC ok).facts, x.holds ρ) : (ρ 0).s.length < 19 ∧ ok = atoiB (ρ 0).s := by
  have h1 : Fact.holds ρ (.lt, tLen (.v 0), .n 19, true) := hF _ List.mem_cons_self
  have h2 : Fact.holds ρ (.eq, sy 73 (.v 0), .n 1, ok) := hF _ (List.mem_cons_of_mem _ List.mem_cons_self)
  refine ⟨?_, ?_⟩
  · have h := of_ltT h1
    rw [tLen_den, den_n] at h
    have h' : (((ρ 0).s.length : Nat) : Int) < 19 := h
    omega
  · have h3 : (b01 (atoiB (ρ 0).s) == 1) = ok := h2
    rw [← h3]
    cases atoiB (ρ 0).s <;> rfl
theorem u8_sub {c : Int} (h1 : 0 ≤ c) (h2 : c < 256) : IntKind.u8.wrap (c - 48) = if 48 ≤ c then c - 48 else c + 208 := by
  simp only [IntKind.wrap, IntKind.signed, IntKind.bits]
  simp
  split <;> omega
theorem at_ctr (ok : Bool) (ht : enterD (atC ok).args fsAt.ntmps 0 .nil = some wdT) (hS : startS Tryz.prog call15 fsAt 100000 (stpL [0]) (bodyOf fsAt) (atC ok) wdT = atS) (hbK : ∀ x, (x = 1 ∨ x = 2) → srB (atS (atMore x)) = atLp.b ∧ srK (atS (atMore x)) = atLp.K) : CtrOK Tryz.prog 93 (atC ok) := by
  have hst := at_start
  simp only [Bool.and_eq_true] at hst
  obtain ⟨⟨⟨⟨⟨⟨s1, s2⟩, s3⟩, s4⟩, s5⟩, s6⟩, s7⟩ := hst
  have hrd := at_rd
  simp only [Bool.and_eq_true] at hrd
  obtain ⟨⟨⟨r1, r2⟩, r3⟩, r4⟩ := hrd
  refine ctr_loops (loops := [atLp]) (inv := atI) (fuel := 100000) (stp := stpL [0]) gsz mixed (runD_ok static kn15_ok 20) Tryz.func93 (by kernel_rfl) (show fsAt.body = some (bodyOf fsAt) by kernel_rfl) (by kernel_rfl) ht s7 (fun ρ hF => ?_) ?_
  · show ∃ F : List Fact, _ ∧ OutP _ _ _ _ _ _ _ _ _ (startS Tryz.prog call15 fsAt 100000 (stpL [0]) (bodyOf fsAt) (atC ok) wdT F)
    rw [hS]
    obtain ⟨hl, hok⟩ := at_fact hF
    obtain ⟨s, hs⟩ : ∃ s, s = (ρ 0).s := ⟨_, rfl⟩
    have hlen : (tLen (.v 0)).den ρ = (s.length : Int) := by show ((ρ 0).s.length : Int) = _; rw [hs]
    rw [← hs] at hl hok
    have bad : ∀ F : List Fact, atOut false (atS F) [] = true → (∀ x ∈ F, x.holds ρ) → atoiB s = false → ∃ F : List Fact, (∀ x ∈ F, x.holds ρ) ∧ OutP Tryz.prog 9 fsAt (atC ok) [atLp] atI ρ ρ none (atS F) := by
      intro F hc hG hb
      rw [hb] at hok; subst hok
      exact ⟨F, hG, .fin [] _ (needsB_ok hc) nd_nil⟩
    have hsh : Fact.holds ρ (short (.v 0)) := ltT (by rw [hlen, den_n]; omega)
    have h19 : Fact.holds ρ (.lt, tLen (.v 0), .n 19, true) := ltT (by rw [hlen, den_n]; omega)
    cases hsc : s with
    | nil => exact bad _ s1 (fl_cons hsh (fl_cons h19 (fl_cons (ltN (by rw [hlen, den_n, hsc]; simp)) (fl_cons (seqT (by rw [show (SE.v 0).str ρ = s from hs.symm, hsc])) fl_nil)))) (by rw [hsc]; rfl)
    | cons c r =>
      have hF0 : ∀ x ∈ atF0, x.holds ρ := fl_cons hsh (fl_cons h19 (fl_cons (ltT (by rw [hlen, den_n, hsc]; simp)) fl_nil))
      have hb0 : atB0.den ρ = (c.toNat : Int) := by
        show ((((ρ 0).s[(0 : Int).toNat]?).getD 0).toNat : Int) = _
        rw [← hs, hsc]; rfl
      have h1le : Fact.holds ρ (.le, .n 1, tLen (.v 0), true) := leT (by rw [hlen, den_n, hsc]; simp; omega)
      have hsub : atSub.str ρ = r := by
        show ((ρ 0).s.take ((tLen (.v 0)).den ρ).toNat).drop (1 : Int).toNat = _
        rw [hlen, ← hs, Int.toNat_natCast, List.take_length, hsc]; rfl
      have c45 : c = 45 ↔ (c.toNat : Int) = 45 := ⟨fun h => by rw [h]; rfl, fun h => UInt8.toNat_inj.1 (show c.toNat = 45 by omega)⟩
      have c43 : c = 43 ↔ (c.toNat : Int) = 43 := ⟨fun h => by rw [h]; rfl, fun h => UInt8.toNat_inj.1 (show c.toNat = 43 by omega)⟩
      have sgn : ∀ x, (x = 1 ∨ x = 2) → (∀ y ∈ atSg x, y.holds ρ) → signed s = true → ∃ F : List Fact, (∀ x ∈ F, x.holds ρ) ∧ OutP Tryz.prog 9 fsAt (atC ok) [atLp] atI ρ ρ none (atS F) := by
        intro x hx hG hsd
        have hT : atoiT s = r := by unfold atoiT; rw [if_pos hsd, hsc]; rfl
        cases hr : r with
        | nil =>
          have hbare : ∀ y ∈ atBare x, y.holds ρ := fl_app hG (fl_cons (ltT (by rw [tLen_den, den_n, hsub, hr]; simp)) fl_nil)
          have hno : atoiB s = false := by unfold atoiB; rw [hT, hr]; rfl
          rcases hx with rfl | rfl
          · exact bad _ s2 hbare hno
          · exact bad _ s3 hbare hno
        | cons d r' =>
          have hmore : ∀ y ∈ atMore x, y.holds ρ := fl_app hG (fl_cons (ltN (by rw [tLen_den, den_n, hsub, hr]; simp; omega)) (fl_cons (ltT (by rw [tLen_den, den_n, hsub]; rw [hsc] at hl; simp at hl; omega)) fl_nil))
          have inv : atI 0 ρ (subρ (atSgm atSub (.n 0) (.n 0)) ρ) r.length := ⟨0, rfl, rfl, by rw [← hs, hT]; exact hsub, rfl, rfl, Nat.zero_le _, by rw [← hs, hT, hr]; simp, rfl, by rw [← hs, hT]; rfl⟩
          obtain ⟨q1, q2⟩ := hbK x hx
          rcases hx with rfl | rfl
          · exact ⟨_, hmore, .stop 0 atLp _ [] _ rfl (fun i m h => by cases h) q1 q2 s5 (by cases ok <;> rfl) inv⟩
          · exact ⟨_, hmore, .stop 0 atLp _ [] _ rfl (fun i m h => by cases h) q1 q2 s6 (by cases ok <;> rfl) inv⟩
      by_cases h45 : c = 45
      · exact sgn 1 (.inl rfl) (fl_app hF0 (fl_cons (eqF_ok (by rw [hb0]; exact c45.1 h45)) (fl_cons h1le fl_nil))) (by rw [hsc, h45]; rfl)
      · have n45 : Fact.holds ρ (.eq, atB0, .n 45, false) := neF_ok (by rw [hb0]; exact fun h => h45 (c45.2 h))
        by_cases h43 : c = 43
        · exact sgn 2 (.inr rfl) (fl_app hF0 (fl_cons n45 (fl_cons (eqF_ok (by rw [hb0]; exact c43.1 h43)) (fl_cons h1le fl_nil)))) (by rw [hsc, h43]; rfl)
        · have n43 : Fact.holds ρ (.eq, atB0, .n 43, false) := neF_ok (by rw [hb0]; exact fun h => h43 (c43.2 h))
          have hT : atoiT s = s := by
            unfold atoiT signed
            rw [hsc, if_neg (by simp; exact ⟨h45, h43⟩)]
          exact ⟨_, fl_app hF0 (fl_cons n45 (fl_cons n43 fl_nil)), .stop 0 atLp _ [] s.length rfl (fun i m h => by cases h) rfl rfl s4 (by cases ok <;> rfl) ⟨0, rfl, rfl, by rw [← hs, hT]; exact hs.symm, rfl, rfl, Nat.zero_le _, by rw [← hs, hT, hsc]; simp, rfl, by rw [← hs, hT]; rfl⟩⟩
  · intro i lp hlp ρ0 ρ m hF hI
    obtain ⟨j, rfl, h0, h1, h2, h3, hj, hne, hall, hm⟩ := hI
    simp at hlp; subst hlp
    obtain ⟨hl, hok⟩ := at_fact hF
    obtain ⟨s, hs⟩ : ∃ s, s = (ρ0 0).s := ⟨_, rfl⟩
    obtain ⟨t, ht'⟩ : ∃ t, t = atoiT s := ⟨_, rfl⟩
    rw [← hs] at hl hok h1 h2 hj hne hall hm
    rw [← ht'] at h1 h2 hj hne hall hm
    have htl : t.length ≤ s.length := by rw [ht']; unfold atoiT; split <;> simp
    have hl1 : (tLen (.v 1)).den ρ = (t.length : Int) := by show ((ρ 1).s.length : Int) = _; rw [h1]
    have hl0 : (tLen (.v 0)).den ρ = (s.length : Int) := by show ((ρ 0).s.length : Int) = _; rw [h0, hs]
    have hv2 : (SE.v 2).den ρ = (valF 10 (t.take j) : Int) := h2
    have hv3 : (SE.v 3).den ρ = (j : Int) := h3
    have hvb : valF 10 (t.take j) < 10 ^ j := by
      have := val_lt _ hall
      rwa [List.length_take, Nat.min_eq_left hj] at this
    have hb18 : 10 ^ j ≤ 10 ^ 18 := Nat.pow_le_pow_right (by decide) (by omega)
    have e18 : (10 : Nat) ^ 18 = 1000000000000000000 := by decide
    by_cases hlt : j < t.length
    · have hb17 : 10 ^ j ≤ 10 ^ 17 := Nat.pow_le_pow_right (by decide) (by omega)
      have e17 : (10 : Nat) ^ 17 = 100000000000000000 := by decide
      have hvc : (valF 10 (t.take j) : Int) < 100000000000000000 := by omega
      have hd : t.take (j + 1) = t.take j ++ [t[j]] := by rw [List.take_succ_eq_append_getElem hlt]
      have hcell : atCell.den ρ = ((t[j]).toNat : Int) := by
        show (cellAt ((ρ 1).s.map fun b => [((b.toNat : Int), [])]) (ρ 3).i.toNat (0 : Int).toNat).1 = _
        rw [h1, h3, Int.toNat_natCast]
        unfold cellAt
        rw [List.getElem?_map, List.getElem?_eq_getElem hlt]; rfl
      have hc256 := UInt8.toNat_lt (t[j])
      have hdig : atDig.den ρ = if (48 : Int) ≤ ((t[j]).toNat : Int) then ((t[j]).toNat : Int) - 48 else ((t[j]).toNat : Int) + 208 := by
        show IntKind.u8.wrap (atCell.den ρ - 48) = _
        rw [hcell, u8_sub (by omega) (by omega)]
      have hIn : ∀ b, decide (9 < atDig.den ρ) = b → ∀ x ∈ atIn b, x.holds ρ := fun b hb => fl_cons (ltT (by rw [hv3, hl1]; omega)) (fl_cons (ltN (by rw [hv3, den_n]; omega)) (fl_cons (ltT (by
        rw [hv3]; show (j : Int) < ((((ρ 1).s.map fun b => [((b.toNat : Int), ([] : List UInt8))]).length : Nat) : Int)
        rw [List.length_map, h1]; omega)) (fl_cons (ltB b (by rw [den_n]; exact hb)) fl_nil)))
      by_cases hdec : isDec (t[j]) = true
      · obtain ⟨g1, g2, g3⟩ := digV_dec hdec
        have hdv : atDig.den ρ = (digV (t[j]) : Int) := by rw [hdig, if_pos (by omega), g1]; omega
        have hd9 : digV (t[j]) ≤ 9 := by omega
        have hnv : atNv.den ρ = (valF 10 (t.take (j + 1)) : Int) := by
          show IntKind.i64.wrap (IntKind.i64.wrap ((SE.v 2).den ρ * 10) + IntKind.i64.wrap (atDig.den ρ)) = _
          rw [hv2, hdv, wrap64 (z := (digV (t[j]) : Int)) (by omega) (by omega), wrap64 (z := (valF 10 (t.take j) : Int) * 10) (by omega) (by omega), wrap64 (by omega) (by omega), hd, valF_snoc]
          simp
        have hix : atIx.den ρ = ((j + 1 : Nat) : Int) := by
          show IntKind.i64.wrap ((SE.v 3).den ρ + 1) = _
          rw [hv3, wrap64 (by omega) (by omega)]; simp
        refine ⟨_, hIn false (by rw [hdv]; simp; omega), .again 0 m atLp _ [] (t.length - (j + 1)) rfl rfl (by omega) r2 (by cases ok <;> rfl) ⟨j + 1, rfl, h0, by rw [← hs, ← ht']; exact h1, by rw [← hs, ← ht']; exact hnv, hix, by rw [← hs, ← ht']; omega, by rw [← hs, ← ht']; exact hne, ?_, by rw [← hs, ← ht']⟩⟩
        rw [← hs, ← ht', hd, List.all_append, hall]
        simp [hdec]
      · have hno : atoiB s = false := by
          unfold atoiB
          rw [← ht']
          have : t.all isDec = false := by
            rw [List.all_eq_false]
            exact ⟨t[j], List.getElem_mem hlt, hdec⟩
          rw [this, Bool.and_false]
        rw [hno] at hok; subst hok
        refine ⟨_, hIn true ?_, .fin [] _ (needsB_ok r1) nd_nil⟩
        rw [hdig]
        have : ¬ (48 ≤ (t[j]).toNat ∧ (t[j]).toNat ≤ 57) := fun h => hdec (by unfold isDec; rw [Nat.ble_eq_true_of_le h.1, Nat.ble_eq_true_of_le h.2]; rfl)
        split <;> simp <;> omega
    · have hje : j = t.length := by omega
      have hyes : atoiB s = true := by
        unfold atoiB
        rw [← ht']
        rw [hje, List.take_length] at hall
        rw [hall]
        cases t with
        | nil => exact absurd rfl hne
        | cons _ _ => rfl
      rw [hyes] at hok; subst hok
      have hs0 : 0 < s.length := by
        have : 0 < t.length := by cases t with
          | nil => exact absurd rfl hne
          | cons _ _ => simp
        omega
      obtain ⟨c, r, hsc⟩ : ∃ c r, s = c :: r := by
        cases s with
        | nil => simp at hs0
        | cons c r => exact ⟨c, r, rfl⟩
      have hb0 : atB0.den ρ = (c.toNat : Int) := by
        show ((((ρ 0).s[(0 : Int).toNat]?).getD 0).toNat : Int) = _
        rw [h0, ← hs, hsc]; rfl
      have c45 : c = 45 ↔ (c.toNat : Int) = 45 := ⟨fun h => by rw [h]; rfl, fun h => UInt8.toNat_inj.1 (show c.toNat = 45 by omega)⟩
      have hv : (SE.v 2).den ρ = (valF 10 t : Int) := by rw [hv2, hje, List.take_length]
      have hE : ∀ b, decide (c = 45) = b → ∀ x ∈ atEnd b, x.holds ρ := fun b hb => fl_cons (ltN (by rw [hv3, hl1]; omega)) (fl_cons (ltT (by rw [hl0, den_n]; omega)) (fl_cons (eqB_ok b (by rw [hb0, ← hb]; congr 1; rw [eq_iff_iff]; exact c45.symm)) fl_nil))
      by_cases h45 : c = 45
      · refine ⟨_, hE true (decide_eq_true h45), .fin [] _ (needsB_ok r3) (nd_cons ?_ nd_nil)⟩
        show atoiV (ρ0 0).s = atNg.den ρ
        rw [← hs]
        unfold atoiV
        rw [← ht', hsc, h45, if_pos (show ((45 : UInt8) :: r).head? = some 45 from rfl)]
        show _ = IntKind.i64.wrap (0 - (SE.v 2).den ρ)
        have hvc : (valF 10 t : Int) < 1000000000000000000 := by
          rw [hje, List.take_length, ← hje] at hvb
          omega
        rw [hv, wrap64 (by omega) (by omega)]; omega
      · refine ⟨_, hE false (decide_eq_false h45), .fin [] _ (needsB_ok r4) (nd_cons ?_ nd_nil)⟩
        show atoiV (ρ0 0).s = (SE.v 2).den ρ
        rw [← hs]
        unfold atoiV
        rw [← ht', hsc, if_neg (by simp; exact h45), hv]
noncomputable def gAt : Gn := gC Tryz.prog 9 (atC true) [atC false]
theorem gAt_ok : GoodAt Tryz.prog 93 gAt := good_C gsz (by kernel_rfl) (two (at_ctr true (by kernel_rfl) rfl (fun x hx => by rcases hx with rfl | rfl <;> exact ⟨rfl, rfl⟩)) (at_ctr false (by kernel_rfl) rfl (fun x hx => by rcases hx with rfl | rfl <;> exact ⟨rfl, rfl⟩)))
/-! Small numbers. -/
noncomputable def fsIt : Func := Tryz.f53
noncomputable def itC : Ctr := ⟨[.sint .i64 (.v 0)], 9 + 1, [], [(.lt, .v 0, .n 0, false), (.le, .n 16, .v 0, false)], .sstr (sy 75 (.v 0)), [], []⟩
noncomputable def itT : Tm := putLT [(0, .sint .i64 (.v 0))]
noncomputable def itS (n : Nat) : SRes := startS Tryz.prog call15 fsIt 100000 (stpL []) (bodyOf fsIt) itC itT [(.eq, .v 0, .n (Int.ofNat n), true)]
noncomputable def itOne : SE := tSub (.lit [48, 49, 50, 51, 52, 53, 54, 55, 56, 57, 97, 98, 99, 100, 101, 102, 103, 104, 105, 106, 107, 108, 109, 110, 111, 112, 113, 114, 115, 116, 117, 118, 119, 120, 121, 122]) (.v 0) (.bin .add .i64 (.v 0) (.n 1))
noncomputable def it99 : List UInt8 := (List.range 100).flatMap fun n => [UInt8.ofNat (48 + n / 10), UInt8.ofNat (48 + n % 10)]
noncomputable def itTwo : SE := tSub (.lit it99) (.bin .mul .i64 (.v 0) (.n 2)) (.bin .add .i64 (.bin .mul .i64 (.v 0) (.n 2)) (.n 2))
noncomputable def itTm (n : Nat) : SE := bif Nat.blt n 10 then itOne else itTwo
theorem it_chk : allBytes (fun n => needsB Tryz.prog 9 fsIt itC [] (itS n) [.s (sy 75 (.v 0)) (itTm n)]) 16 = true := by kernel_rfl
theorem it_val : ∀ n : Fin 16, ([48, 49, 50, 51, 52, 53, 54, 55, 56, 57, 97, 98, 99, 100, 101, 102, 103, 104, 105, 106, 107, 108, 109, 110, 111, 112, 113, 114, 115, 116, 117, 118, 119, 120, 121, 122].take (n.val + 1)).drop n.val = (if n.val < 10 then decF n.val else ([48, 49, 50, 51, 52, 53, 54, 55, 56, 57, 97, 98, 99, 100, 101, 102, 103, 104, 105, 106, 107, 108, 109, 110, 111, 112, 113, 114, 115, 116, 117, 118, 119, 120, 121, 122].take (n.val + 1)).drop n.val) ∧ (¬ n.val < 10 → (it99.take (n.val * 2 + 2)).drop (n.val * 2) = decF n.val) := by decide +kernel
theorem it_ctr : CtrOK Tryz.prog 53 itC := by
  refine ctr_fin (fuel := 100000) (stp := stpL []) gsz mixed (runD_ok static kn15_ok 20) Tryz.func53 (by kernel_rfl) (show fsIt.body = some (bodyOf fsIt) by kernel_rfl) (by kernel_rfl) (show enterD itC.args fsIt.ntmps 0 .nil = some itT by kernel_rfl) (fun ρ hF => ?_)
  have f1 : Fact.holds ρ (.lt, .v 0, .n 0, false) := hF _ List.mem_cons_self
  have f2 : Fact.holds ρ (.le, .n 16, .v 0, false) := hF _ (List.mem_cons_of_mem _ List.mem_cons_self)
  have k1 : 0 ≤ (ρ 0).i := by have h := of_ltN f1; rw [den_n] at h; exact h
  have k2 : (ρ 0).i < 16 := by have h := of_leN f2; rw [den_n] at h; exact h
  obtain ⟨n, hn⟩ : ∃ n : Nat, (ρ 0).i = (n : Int) := ⟨(ρ 0).i.toNat, by omega⟩
  have hn16 : n < 16 := by omega
  have hv : (SE.v 0).den ρ = (n : Int) := hn
  obtain ⟨g1, g2⟩ := it_val ⟨n, hn16⟩
  refine ⟨[(.eq, .v 0, .n (Int.ofNat n), true)], [], _, fl_cons (eqF_ok (by rw [hv]; rfl)) fl_nil, allBytes_ok it_chk n hn16, nd_cons ?_ nd_nil⟩
  show decF (ρ 0).i.toNat = (itTm n).str ρ
  rw [hn, Int.toNat_natCast]
  unfold itTm
  cases h10 : Nat.blt n 10 with
  | true =>
    have h10' : n < 10 := Nat.blt_eq.mp h10
    have e : (SE.bin .add .i64 (.v 0) (.n 1)).den ρ = ((n + 1 : Nat) : Int) := by
      show IntKind.i64.wrap ((SE.v 0).den ρ + 1) = _
      rw [hv, wrap64 (by omega) (by omega)]; simp
    show _ = (List.take ((SE.bin .add .i64 (.v 0) (.n 1)).den ρ).toNat _).drop ((SE.v 0).den ρ).toNat
    rw [e, hv, Int.toNat_natCast, Int.toNat_natCast]
    have g1' := g1
    simp only [if_pos h10'] at g1'
    exact g1'.symm
  | false =>
    have h10' : ¬ n < 10 := fun h => by have := Nat.blt_eq.mpr h; rw [h10] at this; cases this
    have e2 : (SE.bin .mul .i64 (.v 0) (.n 2)).den ρ = ((n * 2 : Nat) : Int) := by
      show IntKind.i64.wrap ((SE.v 0).den ρ * 2) = _
      rw [hv, wrap64 (by omega) (by omega)]; simp
    have e3 : (SE.bin .add .i64 (.bin .mul .i64 (.v 0) (.n 2)) (.n 2)).den ρ = ((n * 2 + 2 : Nat) : Int) := by
      show IntKind.i64.wrap ((SE.bin .mul .i64 (.v 0) (.n 2)).den ρ + 2) = _
      rw [e2, wrap64 (by omega) (by omega)]; simp
    show _ = (List.take ((SE.bin .add .i64 (.bin .mul .i64 (.v 0) (.n 2)) (.n 2)).den ρ).toNat it99).drop ((SE.bin .mul .i64 (.v 0) (.n 2)).den ρ).toNat
    rw [e3, e2, Int.toNat_natCast, Int.toNat_natCast]
    exact (g2 h10').symm
noncomputable def gIt : Gn := gC Tryz.prog 9 itC []
theorem gIt_ok : GoodAt Tryz.prog 53 gIt := good_C gsz (by kernel_rfl) (one1 it_ctr)
noncomputable def kn20 : Known := knCons 93 gAt (knCons 53 gIt kn15)
theorem kn20_ok : KnownOK Tryz.prog kn20 := knCons_ok gAt_ok (knCons_ok gIt_ok kn15_ok)
noncomputable def call20 : CallFn := runD Tryz.prog kn20 20
end Go.Proofs.YtlfeoiagemlbiaaGreatDoor
