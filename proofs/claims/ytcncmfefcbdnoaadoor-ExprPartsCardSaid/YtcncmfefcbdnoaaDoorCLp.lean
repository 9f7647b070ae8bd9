/- Two constants in brackets, a sign between: the law's contract. -/
import Derived.Test.YtcncmfefcbdnoaaDoorCEl
set_option linter.unusedVariables false
set_option linter.unusedSectionVars false
set_option linter.unusedSimpArgs false
set_option maxRecDepth 100000
noncomputable section
namespace Go.Proofs.YtcncmfefcbdnoaaDoor
open Go.Den Go.Proofs Go.Extern Go.RowKit
variable [Mez]
noncomputable def fsPs : Func := Tryd.f4
noncomputable def psC : Ctr := ⟨[.sstr (.v 0), .sstr (.v 1)], 9 + 1, baseL, [], .bool true, [], []⟩
noncomputable def psT : Tm := putLT [(0, .sstr (.v 0)), (1, .sstr (.v 1))]
noncomputable def psR (F : List Fact) : SRes := startS Tryd.prog call16 fsPs 100000 (stpL []) (bodyOf fsPs) psC psT F
noncomputable def psX : SE := sy 60 (.v 0)
noncomputable def psY : SE := sy 60 (.v 1)
noncomputable def psLen (a b : Bool) : List Fact := [(.lt, .n 60, tLen (.v 0), a), (.lt, .n 60, tLen (.v 1), b)]
noncomputable def psF1 (a b p q r s : Bool) : List Fact := psLen false false ++ [short (.v 0), (.eq, sy 61 (.v 0), .n 1, a), short (.v 1), (.eq, sy 61 (.v 1), .n 1, b), (.lt, .n 1048576, psX, p), (.lt, psX, .n (-1048576), q), (.lt, .n 1048576, psY, r), (.lt, psY, .n (-1048576), s)]
noncomputable def psL (op : UInt8) : List SE := [.v 0, .lit [41, op, 40], .v 1, .lit [41]]
noncomputable def psTw (op : UInt8) : SE := catT (.lit [40]) (psL op)
noncomputable def psTn : SE := catT (.lit [126, 40]) [.v 0, .lit [41]]
noncomputable def psWh (t : SE) (e : Bool) : List Fact := [short t, (.eq, sy 61 t, .n 1, e)]
noncomputable def psV (op : UInt8) : SE := match op with
  | 43 => .bin .add .i64 psX psY
  | 45 => .bin .sub .i64 psX psY
  | 42 => .bin .mul .i64 psX psY
  | _ => .bin .or .i64 psX psY
noncomputable def psN : SE := .bin .sub .i64 (.bin .sub .i64 (.n 0) psX) (.n 1)
noncomputable def psOk (F : List Fact) : Bool := needsB Tryd.prog 9 fsPs psC [] (psR F) []
noncomputable def psEarly (a b p q r s : Bool) : Bool := (a && b && !p && !q && !r && !s) || psOk (psF1 a b p q r s)
noncomputable def all2B (f : Bool → Bool) : Bool := f false && f true
theorem all2B_ok {f : Bool → Bool} (h : all2B f = true) (b : Bool) : f b = true := by
  unfold all2B at h
  simp only [Bool.and_eq_true] at h
  cases b
  · exact h.1
  · exact h.2
theorem ps_len : (all2B fun b => psOk (psLen true b)) = true ∧ psOk (psLen false true) = true := ⟨by kernel_rfl, by kernel_rfl⟩
theorem ps_early : (all2B fun a => all2B fun b => all2B fun p => all2B fun q => all2B fun r => all2B fun s => psEarly a b p q r s) = true := by kernel_rfl
noncomputable def psCat : List Fact := catFs (.lit [40]) (psL 43) ++ (catFs (.lit [40]) (psL 45) ++ (catFs (.lit [40]) (psL 42) ++ (catFs (.lit [40]) (psL 124) ++ catFs (.lit [126, 40]) [.v 0, .lit [41]])))
noncomputable def psWs (e : Bool) : List Fact := psWh (psTw 43) e ++ (psWh (psTw 45) e ++ (psWh (psTw 42) e ++ psWh (psTw 124) e))
noncomputable def psNot (e : Bool) : List Fact := psWh psTn e ++ (bif e then [(.eq, sy 60 psTn, psN, true)] else [])
noncomputable def psEq (op : UInt8) : Fact := (.eq, sy 60 (psTw op), psV op, true)
noncomputable def psMain (e n : Bool) : List Fact := psF1 true true false false false false ++ (psCat ++ (psWs e ++ (psNot n ++ (bif e then [psEq 43, psEq 45, psEq 42, psEq 124] else []))))
theorem ps_main : (all2B fun e => all2B fun n => psOk (psMain e n)) = true := by kernel_rfl
theorem ps_ctr : CtrOK Tryd.prog 4 psC := by
  refine ctr_fin (fuel := 100000) (stp := stpL []) gsz mixed (runD_ok static kn16_ok 20) Tryd.func4 (by kernel_rfl) (show fsPs.body = some (bodyOf fsPs) by kernel_rfl) (by kernel_rfl) (show enterD psC.args fsPs.ntmps 0 .nil = some psT by kernel_rfl) (fun ρ _ => ?_)
  show ∃ (F : List Fact) (rn : List (Nat × Nat)) (L : List Need), (∀ x ∈ F, x.holds ρ) ∧ needsB Tryd.prog 9 fsPs psC rn (psR F) L = true ∧ ∀ n ∈ L, n.ok ρ ρ
  have fin : ∀ F : List Fact, psOk F = true → (∀ x ∈ F, x.holds ρ) → ∃ (F : List Fact) (rn : List (Nat × Nat)) (L : List Need), (∀ x ∈ F, x.holds ρ) ∧ needsB Tryd.prog 9 fsPs psC rn (psR F) L = true ∧ ∀ n ∈ L, n.ok ρ ρ := fun F h hF => ⟨F, [], [], hF, h, nd_nil⟩
  obtain ⟨a, ha⟩ : ∃ a, a = (ρ 0).s := ⟨_, rfl⟩
  obtain ⟨b, hb⟩ : ∃ b, b = (ρ 1).s := ⟨_, rfl⟩
  have la : (tLen (.v 0)).den ρ = (a.length : Int) := by show ((ρ 0).s.length : Int) = _; rw [ha]
  have lb : (tLen (.v 1)).den ρ = (b.length : Int) := by show ((ρ 1).s.length : Int) = _; rw [hb]
  have hlen : ∀ x y : Bool, x = decide (60 < a.length) → y = decide (60 < b.length) → ∀ f ∈ psLen x y, f.holds ρ := fun x y hx hy => fl_cons (ltB x (by rw [la, den_n, hx, Bool.eq_iff_iff]; simp; omega)) (fl_cons (ltB y (by rw [lb, den_n, hy, Bool.eq_iff_iff]; simp; omega)) fl_nil)
  by_cases h1 : 60 < a.length
  · exact fin _ (all2B_ok ps_len.1 (decide (60 < b.length))) (hlen _ _ (decide_eq_true h1).symm rfl)
  by_cases h2 : 60 < b.length
  · exact fin _ ps_len.2 (hlen _ _ (decide_eq_false h1).symm (decide_eq_true h2).symm)
  have hl0 := hlen false false (decide_eq_false h1).symm (decide_eq_false h2).symm
  obtain ⟨x, ea⟩ : ∃ x, x = (wholeF a).1 := ⟨_, rfl⟩
  obtain ⟨y, eb⟩ : ∃ y, y = (wholeF b).1 := ⟨_, rfl⟩
  have eX : psX.den ρ = x := by show (wholeF (ρ 0).s).1 = _; rw [← ha, ea]
  have eY : psY.den ρ = y := by show (wholeF (ρ 1).s).1 = _; rw [← hb, eb]
  have w61 : ∀ (t : SE) (s : List UInt8) (e : Bool), t.str ρ = s → (wholeF s).2 = e → Fact.holds ρ (.eq, sy 61 t, .n 1, e) := fun t s e h1 h2 => by
    show (b01 (wholeF (t.str ρ)).2 == 1) = e
    rw [h1, h2]; cases e <;> rfl
  have w60 : ∀ (t : SE) (s : List UInt8), t.str ρ = s → (sy 60 t).den ρ = (wholeF s).1 := fun t s h => by show (wholeF (t.str ρ)).1 = _; rw [h]
  have hF1 : ∀ ok1 ok2 p q r s : Bool, ok1 = (wholeF a).2 → ok2 = (wholeF b).2 → p = decide (1048576 < x) → q = decide (x < -1048576) → r = decide (1048576 < y) → s = decide (y < -1048576) → ∀ f ∈ psF1 ok1 ok2 p q r s, f.holds ρ := fun ok1 ok2 p q r s k1 k2 k3 k4 k5 k6 =>
    fl_app hl0 (fl_cons (ltT (by rw [la, den_n]; omega)) (fl_cons (w61 _ a _ ha.symm k1.symm) (fl_cons (ltT (by rw [lb, den_n]; omega)) (fl_cons (w61 _ b _ hb.symm k2.symm) (fl_cons (ltB p (by rw [eX, den_n, k3])) (fl_cons (ltB q (by rw [eX, den_n, k4])) (fl_cons (ltB r (by rw [eY, den_n, k5])) (fl_cons (ltB s (by rw [eY, den_n, k6])) fl_nil))))))))
  have hE := all2B_ok (all2B_ok (all2B_ok (all2B_ok (all2B_ok (all2B_ok ps_early (wholeF a).2) (wholeF b).2) (decide (1048576 < x))) (decide (x < -1048576))) (decide (1048576 < y))) (decide (y < -1048576))
  unfold psEarly at hE
  rw [Bool.or_eq_true] at hE
  rcases hE with hE | hE
  rotate_left
  · exact fin _ hE (hF1 _ _ _ _ _ _ rfl rfl rfl rfl rfl rfl)
  simp only [Bool.and_eq_true, Bool.not_eq_true', decide_eq_false_iff_not] at hE
  obtain ⟨⟨⟨⟨⟨o1, o2⟩, k3⟩, k4⟩, k5⟩, k6⟩ := hE
  have hwa : wholeF a = (x, true) := Prod.ext ea.symm o1
  have hwb : wholeF b = (y, true) := Prod.ext eb.symm o2
  have hbase := hF1 true true false false false false o1.symm o2.symm (decide_eq_false k3).symm (decide_eq_false k4).symm (decide_eq_false k5).symm (decide_eq_false k6).symm
  have sT : ∀ op : UInt8, (psTw op).str ρ = twoT a b op := fun op => by
    show ((([40] ++ (ρ 0).s) ++ [41, op, 40]) ++ (ρ 1).s) ++ [41] = _
    rw [← ha, ← hb]; unfold twoT; simp
  have sN : psTn.str ρ = notT a := by
    show ([126, 40] ++ (ρ 0).s) ++ [41] = _
    rw [← ha]; unfold notT; simp
  have lT : ∀ op : UInt8, ((psTw op).str ρ).length ≤ 200 := fun op => by rw [sT]; unfold twoT; simp; omega
  have lN : (psTn.str ρ).length ≤ 200 := by rw [sN]; unfold notT; simp; omega
  have hcat : ∀ f ∈ psCat, f.holds ρ := by
    have c : ∀ op : UInt8, ∀ f ∈ catFs (.lit [40]) (psL op), f.holds ρ := fun op => cat_ok _ _ (by have := lT op; show ((psTw op).str ρ).length ≤ 1000000; omega)
    exact fl_app (c 43) (fl_app (c 45) (fl_app (c 42) (fl_app (c 124) (cat_ok _ _ (by show (psTn.str ρ).length ≤ 1000000; omega)))))
  have hwh : ∀ (op : UInt8) (e : Bool), (wholeF (twoT a b op)).2 = e → ∀ f ∈ psWh (psTw op) e, f.holds ρ := fun op e h => fl_cons (ltT (by have := lT op; rw [tLen_den, den_n]; omega)) (fl_cons (w61 _ _ e (sT op) h) fl_nil)
  -- what it is not
  obtain ⟨n, hn, hnot⟩ : ∃ n : Bool, True ∧ ∀ f ∈ psNot n, f.holds ρ := by
    have hw : ∀ e, (wholeF (notT a)).2 = e → ∀ f ∈ psWh psTn e, f.holds ρ := fun e h => fl_cons (ltT (by rw [tLen_den, den_n]; omega)) (fl_cons (w61 _ _ e sN h) fl_nil)
    rcases not_or hwa (by omega) (by omega) with h | h
    · refine ⟨true, trivial, fl_app (hw true (by rw [h])) (fl_cons ?_ fl_nil)⟩
      show ((sy 60 psTn).den ρ == psN.den ρ) = true
      rw [w60 _ _ sN, h]
      show (0 - x - 1 == IntKind.i64.wrap (IntKind.i64.wrap (0 - psX.den ρ) - 1)) = true
      rw [eX, wrap64 (z := 0 - x) (by omega) (by omega), wrap64 (by omega) (by omega)]; simp
    · exact ⟨false, trivial, fl_app (hw false (by rw [h])) fl_nil⟩
  have big1 : -big ≤ x * y ∧ x * y ≤ big := by
    have := mul_in (x := x) (y := y) (A := 1048576) (B := 1048576) (by omega) (by omega) (by omega) (by omega)
    unfold big
    generalize x * y = z at this ⊢
    omega
  have bor := bits31 (op := .or) (.inl rfl) (a := x) (b := y) (by omega) (by omega) (by omega) (by omega)
  have v43 := two_or (op := 43) (lv := 4) (by decide) (by decide) (by omega) hwa hwb (of_add (by unfold big; omega) (by unfold big; omega))
  have v45 := two_or (op := 45) (lv := 4) (by decide) (by decide) (by omega) hwa hwb (of_sub (by unfold big; omega) (by unfold big; omega))
  have v42 := two_or (op := 42) (lv := 5) (by decide) (by decide) (by omega) hwa hwb (of_mul big1.1 big1.2)
  have v124 := two_or (op := 124) (lv := 0) (by decide) (by decide) (by omega) hwa hwb (of_or (by omega) (by omega) (by omega) (by omega))
  by_cases hdeep : (exF (lexR a) [] 1 0 0).err = 0 ∧ (exF (lexR b) [] 1 0 0).err = 0
  · have sel : ∀ (op : UInt8) (z : Int), (((exF (lexR a) [] 1 0 0).err = 0 ∧ (exF (lexR b) [] 1 0 0).err = 0 ∧ wholeF (twoT a b op) = (z, true)) ∨ (((exF (lexR a) [] 1 0 0).err ≠ 0 ∨ (exF (lexR b) [] 1 0 0).err ≠ 0) ∧ wholeF (twoT a b op) = (0, false))) → wholeF (twoT a b op) = (z, true) := fun op z h => by
      rcases h with ⟨_, _, h⟩ | ⟨h | h, _⟩
      · exact h
      · exact absurd hdeep.1 h
      · exact absurd hdeep.2 h
    have e43 := sel _ _ v43
    have e45 := sel _ _ v45
    have e42 := sel _ _ v42
    have e124 := sel _ _ v124
    have heq : ∀ (op : UInt8) (z : Int), wholeF (twoT a b op) = (z, true) → (psV op).den ρ = z → Fact.holds ρ (psEq op) := fun op z h1 h2 => by
      show ((sy 60 (psTw op)).den ρ == (psV op).den ρ) = true
      rw [w60 _ _ (sT op), h1, h2]; simp
    refine fin _ (all2B_ok (all2B_ok ps_main true) n) (fl_app hbase (fl_app hcat (fl_app (fl_app (hwh 43 true (by rw [e43])) (fl_app (hwh 45 true (by rw [e45])) (fl_app (hwh 42 true (by rw [e42])) (hwh 124 true (by rw [e124]))))) (fl_app hnot (fl_cons (heq 43 _ e43 ?_) (fl_cons (heq 45 _ e45 ?_) (fl_cons (heq 42 _ e42 ?_) (fl_cons (heq 124 _ e124 ?_) fl_nil))))))))
    · show IntKind.i64.wrap (psX.den ρ + psY.den ρ) = _
      rw [eX, eY, wrap64 (by omega) (by omega)]
    · show IntKind.i64.wrap (psX.den ρ - psY.den ρ) = _
      rw [eX, eY, wrap64 (by omega) (by omega)]
    · show IntKind.i64.wrap (psX.den ρ * psY.den ρ) = _
      unfold big at big1
      rw [eX, eY, wrap64 (by omega) (by omega)]
    · show binV .or .i64 (psX.den ρ) (psY.den ρ) = _
      rw [eX, eY]
  · have sel : ∀ (op : UInt8) (z : Int), (((exF (lexR a) [] 1 0 0).err = 0 ∧ (exF (lexR b) [] 1 0 0).err = 0 ∧ wholeF (twoT a b op) = (z, true)) ∨ (((exF (lexR a) [] 1 0 0).err ≠ 0 ∨ (exF (lexR b) [] 1 0 0).err ≠ 0) ∧ wholeF (twoT a b op) = (0, false))) → (wholeF (twoT a b op)).2 = false := fun op z h => by
      rcases h with ⟨h1, h2, _⟩ | ⟨_, h⟩
      · exact absurd ⟨h1, h2⟩ hdeep
      · rw [h]
    exact fin _ (all2B_ok (all2B_ok ps_main false) n) (fl_app hbase (fl_app hcat (fl_app (fl_app (hwh 43 false (sel _ _ v43)) (fl_app (hwh 45 false (sel _ _ v45)) (fl_app (hwh 42 false (sel _ _ v42)) (hwh 124 false (sel _ _ v124))))) (fl_app hnot fl_nil))))
end Go.Proofs.YtcncmfefcbdnoaaDoor
