/- Constants: products. -/
import Derived.Test.YtlfeoiagemlbiaaGreatDoorCLn
import Derived.Test.YtlfeoiagemlbiaaGreatDoorXs4
set_option linter.unusedVariables false
set_option linter.unusedSectionVars false
set_option linter.unusedSimpArgs false
set_option maxRecDepth 100000
noncomputable section
namespace Go.Proofs.YtlfeoiagemlbiaaGreatDoor
open Go.Den Go.Proofs Go.Extern Go.RowKit
variable [Mex]
noncomputable def eaArgs2 : Tm := putLT [(0, .sint .u64 (.v 0)), (1, .sint .u64 (.v 1))]
noncomputable def muC : Ctr := ⟨[.sint .u64 (.v 0), .sint .u64 (.v 1)], 9 + 1, [], [(.lt, .v 0, .n 0, false), (.lt, .v 0, .n 18446744073709551616, true), (.lt, .v 1, .n 0, false), (.lt, .v 1, .n 18446744073709551616, true)], .tuple [.sint .u64 (.app 46 (.v 0) (.v 1) (.n 0)), .sint .u64 (.bin .mul .u64 (.v 0) (.v 1))], [], []⟩
noncomputable def muX1 : SE := .bin .shr .u64 (.v 0) (.n 32)
noncomputable def muX0 : SE := .bin .and .u64 (.v 0) (.n 4294967295)
noncomputable def muY1 : SE := .bin .shr .u64 (.v 1) (.n 32)
noncomputable def muY0 : SE := .bin .and .u64 (.v 1) (.n 4294967295)
noncomputable def muT : SE := .bin .add .u64 (.bin .mul .u64 muX1 muY0) (.bin .shr .u64 (.bin .mul .u64 muX0 muY0) (.n 32))
noncomputable def muHi : SE := .bin .add .u64 (.bin .add .u64 (.bin .mul .u64 muX1 muY1) (.bin .shr .u64 muT (.n 32))) (.bin .shr .u64 (.bin .add .u64 (.bin .and .u64 muT (.n 4294967295)) (.bin .mul .u64 muX0 muY1)) (.n 32))
noncomputable def muL : List Need := [.i (.app 46 (.v 0) (.v 1) (.n 0)) muHi, .i (.bin .mul .u64 (.v 0) (.v 1)) (.bin .mul .u64 (.v 0) (.v 1))]
noncomputable def fsMu : Func := Tryz.f233
theorem mu_chk : needsB Tryz.prog 9 fsMu muC [] (startS Tryz.prog call5 fsMu 100000 (stpL []) (bodyOf fsMu) muC eaArgs2 []) muL = true := by kernel_rfl
theorem wrapB (z : Int) : 0 ≤ IntKind.u64.wrap z ∧ IntKind.u64.wrap z < 18446744073709551616 := by
  simp only [IntKind.wrap, IntKind.signed, IntKind.bits]
  simp
  omega
theorem mu_ctr : CtrOK Tryz.prog 233 muC := by
  refine ctr_fin (fuel := 100000) (stp := stpL []) gsz mixed (runD_ok static kn5_ok 20) Tryz.func233 (by kernel_rfl) (show fsMu.body = some (bodyOf fsMu) by kernel_rfl) (by kernel_rfl) (show enterD muC.args fsMu.ntmps 0 .nil = some eaArgs2 by kernel_rfl) (fun ρ hF => ⟨[], [], muL, fl_nil, mu_chk, nd_cons ?_ (nd_cons rfl nd_nil)⟩)
  have h1 := of_ltN (hF _ List.mem_cons_self)
  have h2 := of_ltT (hF _ (List.mem_cons_of_mem _ List.mem_cons_self))
  have h3 := of_ltN (hF _ (List.mem_cons_of_mem _ (List.mem_cons_of_mem _ List.mem_cons_self)))
  have h4 := of_ltT (hF _ (List.mem_cons_of_mem _ (List.mem_cons_of_mem _ (List.mem_cons_of_mem _ List.mem_cons_self))))
  simp only [den_n] at h1 h2 h3 h4
  show (ρ 0).i * (ρ 1).i / 18446744073709551616 = muHi.den ρ
  obtain ⟨x, hx⟩ : ∃ x, x = (SE.v 0).den ρ := ⟨_, rfl⟩
  obtain ⟨y, hy⟩ : ∃ y, y = (SE.v 1).den ρ := ⟨_, rfl⟩
  rw [← hx] at h1 h2
  rw [← hy] at h3 h4
  have e0 : (ρ 0).i = x := hx.symm
  have e1 : (ρ 1).i = y := hy.symm
  have eX1 : muX1.den ρ = x / 4294967296 := by show binV .shr .u64 (ρ 0).i 32 = _; rw [e0, shr32 h1]
  have eX0 : muX0.den ρ = x % 4294967296 := by show binV .and .u64 (ρ 0).i 4294967295 = _; rw [e0, and32 h1 h2]
  have eY1 : muY1.den ρ = y / 4294967296 := by show binV .shr .u64 (ρ 1).i 32 = _; rw [e1, shr32 h3]
  have eY0 : muY0.den ρ = y % 4294967296 := by show binV .and .u64 (ρ 1).i 4294967295 = _; rw [e1, and32 h3 h4]
  have sh : ∀ z : Int, binV .shr .u64 (IntKind.u64.wrap z) 32 = IntKind.u64.wrap z / 4294967296 := fun z => shr32 (wrapB z).1
  have an : ∀ z : Int, binV .and .u64 (IntKind.u64.wrap z) 4294967295 = IntKind.u64.wrap z % 4294967296 := fun z => and32 (wrapB z).1 (wrapB z).2
  have eT : muT.den ρ = IntKind.u64.wrap (IntKind.u64.wrap ((x / 4294967296) * (y % 4294967296)) + (IntKind.u64.wrap ((x % 4294967296) * (y % 4294967296))) / 4294967296) := by
    show IntKind.u64.wrap (IntKind.u64.wrap (muX1.den ρ * muY0.den ρ) + binV .shr .u64 (IntKind.u64.wrap (muX0.den ρ * muY0.den ρ)) 32) = _
    rw [eX1, eX0, eY0, sh]
  rw [e0, e1, ← mul64 h1 h2 h3 h4]
  show _ = IntKind.u64.wrap (IntKind.u64.wrap (IntKind.u64.wrap (muX1.den ρ * muY1.den ρ) + binV .shr .u64 (muT.den ρ) 32) + binV .shr .u64 (IntKind.u64.wrap (binV .and .u64 (muT.den ρ) 4294967295 + IntKind.u64.wrap (muX0.den ρ * muY1.den ρ))) 32)
  rw [eT, eX1, eX0, eY1, sh, sh, an]
noncomputable def gMu : Gn := gC Tryz.prog 9 muC []
theorem gMu_ok : GoodAt Tryz.prog 233 gMu := good_C gsz (by kernel_rfl) (one1 mu_ctr)
noncomputable def kn6 : Known := knCons 233 (gRun Tryz.prog kn5 20 233 gMu) kn5
theorem kn6_ok : KnownOK Tryz.prog kn6 := knCons_ok (good_runC static kn5_ok 20 gMu_ok) kn5_ok
noncomputable def call6 : CallFn := runD Tryz.prog kn6 20
-- the product of two numbers that may be
noncomputable def inBF (t : SE) : List Fact := [(.lt, t, .n (-1099511627776), false), (.lt, .n 1099511627776, t, false)]
noncomputable def prC : Ctr := ⟨[.sint .i64 (.v 0), .sint .i64 (.v 1)], 9 + 1, [], inBF (.v 0) ++ inBF (.v 1), .sint .i64 (.app 47 (.v 0) (.v 1) (.n 0)), [], []⟩
noncomputable def fsPr : Func := Tryz.f228
noncomputable def prT : Tm := putLT [(0, .sint .i64 (.v 0)), (1, .sint .i64 (.v 1))]
noncomputable def prN (i : Nat) : SE := .bin .sub .i64 (.n 0) (.v i)
noncomputable def prX (i : Nat) (s : Bool) : SE := .wrap .u64 (bif s then .v i else prN i)
noncomputable def prF0 (a b : Bool) : List Fact := [(.le, prN 0, .v 0, a), (.le, prN 1, .v 1, b), (.lt, prX 0 a, .n 0, false), (.lt, prX 0 a, .n 18446744073709551616, true), (.lt, prX 1 b, .n 0, false), (.lt, prX 1 b, .n 18446744073709551616, true)]
noncomputable def prHi (a b : Bool) : SE := .app 46 (prX 0 a) (prX 1 b) (.n 0)
noncomputable def prLo (a b : Bool) : SE := .bin .mul .u64 (prX 0 a) (prX 1 b)
noncomputable def prF1 (a b : Bool) : List Fact := prF0 a b ++ [(.lt, .n 0, prHi a b, true)]
noncomputable def prF2 (a b : Bool) : List Fact := prF0 a b ++ [(.lt, .n 0, prHi a b, false), (.lt, .n 1099511627776, prLo a b, true)]
noncomputable def prF3 (a b x y : Bool) : List Fact := prF0 a b ++ [(.lt, .n 0, prHi a b, false), (.lt, .n 1099511627776, prLo a b, false), (.lt, .v 0, .n 0, x), (.lt, .v 1, .n 0, y)]
noncomputable def prS (F : List Fact) : SRes := startS Tryz.prog call6 fsPr 100000 (stpL []) (bodyOf fsPr) prC prT F
noncomputable def prV : SE := .app 47 (.v 0) (.v 1) (.n 0)
noncomputable def prOut (a b x y : Bool) : SE := bif x == y then .wrap .i64 (prLo a b) else .bin .sub .i64 (.n 0) (.wrap .i64 (prLo a b))
noncomputable def prChk (a b : Bool) : Bool := needsB Tryz.prog 9 fsPr prC [] (prS (prF1 a b)) [.i prV (.n 1099511627777)] && needsB Tryz.prog 9 fsPr prC [] (prS (prF2 a b)) [.i prV (.n 1099511627777)]
noncomputable def prChk3 (a b x y : Bool) : Bool := needsB Tryz.prog 9 fsPr prC [] (prS (prF3 a b x y)) [.i prV (prOut a b x y)]
theorem pr_c1 : (prChk true true && prChk true false && prChk false true && prChk false false) = true := by kernel_rfl
theorem pr_c3 : (prChk3 true true false false && prChk3 true false false true && prChk3 false true true false && prChk3 false false true true) = true := by kernel_rfl
theorem pr_chk (a b : Bool) : prChk a b = true := by
  have := pr_c1
  simp only [Bool.and_eq_true] at this
  obtain ⟨⟨⟨h1, h2⟩, h3⟩, h4⟩ := this
  cases a <;> cases b <;> assumption
theorem pr_chk3 (a b : Bool) : prChk3 a b (!a) (!b) = true := by
  have := pr_c3
  simp only [Bool.and_eq_true] at this
  obtain ⟨⟨⟨h1, h2⟩, h3⟩, h4⟩ := this
  cases a <;> cases b <;> assumption
theorem pr_ctr : CtrOK Tryz.prog 228 prC := by
  refine ctr_fin (fuel := 100000) (stp := stpL []) gsz mixed (runD_ok static kn6_ok 20) Tryz.func228 (by kernel_rfl) (show fsPr.body = some (bodyOf fsPr) by kernel_rfl) (by kernel_rfl) (show enterD prC.args fsPr.ntmps 0 .nil = some prT by kernel_rfl) (fun ρ hF => ?_)
  have h1 := of_ltN (hF _ List.mem_cons_self)
  have h2 := of_ltN (hF _ (List.mem_cons_of_mem _ List.mem_cons_self))
  have h3 := of_ltN (hF _ (List.mem_cons_of_mem _ (List.mem_cons_of_mem _ List.mem_cons_self)))
  have h4 := of_ltN (hF _ (List.mem_cons_of_mem _ (List.mem_cons_of_mem _ (List.mem_cons_of_mem _ List.mem_cons_self))))
  simp only [den_n] at h1 h2 h3 h4
  obtain ⟨x, hx⟩ : ∃ x, x = (SE.v 0).den ρ := ⟨_, rfl⟩
  obtain ⟨y, hy⟩ : ∃ y, y = (SE.v 1).den ρ := ⟨_, rfl⟩
  rw [← hx] at h1 h2
  rw [← hy] at h3 h4
  have e0 : (SE.v 0).den ρ = x := hx.symm
  have e1 : (SE.v 1).den ρ = y := hy.symm
  -- sizes
  obtain ⟨a, ha⟩ : ∃ a, a = decide (0 ≤ x) := ⟨_, rfl⟩
  obtain ⟨b, hb⟩ : ∃ b, b = decide (0 ≤ y) := ⟨_, rfl⟩
  obtain ⟨u, hu⟩ : ∃ u, u = (if 0 ≤ x then x else -x) := ⟨_, rfl⟩
  obtain ⟨v, hv⟩ : ∃ v, v = (if 0 ≤ y then y else -y) := ⟨_, rfl⟩
  have hu0 : 0 ≤ u ∧ u ≤ 1099511627776 := by rw [hu]; split <;> omega
  have hv0 : 0 ≤ v ∧ v ≤ 1099511627776 := by rw [hv]; split <;> omega
  have eN0 : (prN 0).den ρ = -x := by show IntKind.i64.wrap (0 - (SE.v 0).den ρ) = _; rw [e0, wrap64 (by omega) (by omega)]; omega
  have eN1 : (prN 1).den ρ = -y := by show IntKind.i64.wrap (0 - (SE.v 1).den ρ) = _; rw [e1, wrap64 (by omega) (by omega)]; omega
  have eX0 : (prX 0 a).den ρ = u := by
    show IntKind.u64.wrap ((bif a then SE.v 0 else prN 0).den ρ) = u
    by_cases h : 0 ≤ x
    · rw [ha, decide_eq_true h, cond_true, e0, hu, if_pos h, wrapU (by omega) (by omega)]
    · rw [ha, decide_eq_false h, cond_false, eN0, hu, if_neg h, wrapU (by omega) (by omega)]
  have eX1 : (prX 1 b).den ρ = v := by
    show IntKind.u64.wrap ((bif b then SE.v 1 else prN 1).den ρ) = v
    by_cases h : 0 ≤ y
    · rw [hb, decide_eq_true h, cond_true, e1, hv, if_pos h, wrapU (by omega) (by omega)]
    · rw [hb, decide_eq_false h, cond_false, eN1, hv, if_neg h, wrapU (by omega) (by omega)]
  have hF0 : ∀ f ∈ prF0 a b, f.holds ρ := fl_cons (leB a (by rw [eN0, e0, ha]; congr 1; simp; omega)) (fl_cons (leB b (by rw [eN1, e1, hb]; congr 1; simp; omega)) (fl_cons (ltN (by rw [eX0, den_n]; omega)) (fl_cons (ltT (by rw [eX0, den_n]; omega)) (fl_cons (ltN (by rw [eX1, den_n]; omega)) (fl_cons (ltT (by rw [eX1, den_n]; omega)) fl_nil)))))
  have huv := mul_lt (x := u) (y := v) (m := 1099511627776) hu0.1 hu0.2 hv0.1 hv0.2
  have eHi : (prHi a b).den ρ = u * v / 18446744073709551616 := by show (prX 0 a).den ρ * (prX 1 b).den ρ / 18446744073709551616 = _; rw [eX0, eX1]
  have eLo : (prLo a b).den ρ = IntKind.u64.wrap (u * v) := by show IntKind.u64.wrap ((prX 0 a).den ρ * (prX 1 b).den ρ) = _; rw [eX0, eX1]
  have hxy : x * y = if a = b then u * v else -(u * v) := by
    rw [hu, hv, ha, hb]
    by_cases hx0 : 0 ≤ x <;> by_cases hy0 : 0 ≤ y <;> simp [hx0, hy0, Int.neg_mul, Int.mul_neg]
  have eV : prV.den ρ = mulF x y := by show mulF (SE.v 0 |>.den ρ) (SE.v 1 |>.den ρ) = _; rw [e0, e1]
  have hchk := pr_chk a b
  unfold prChk at hchk
  simp only [Bool.and_eq_true] at hchk
  have hover : 1099511627776 < u * v → mulF x y = 1099511627777 := fun h => by
    unfold mulF big
    rw [hxy]
    split <;> rw [if_neg (by omega)] <;> rfl
  by_cases hh : 0 < u * v / 18446744073709551616
  · refine ⟨prF1 a b, [], _, fl_app hF0 (fl_cons (ltT (by rw [eHi, den_n]; exact hh)) fl_nil), hchk.1, nd_cons ?_ nd_nil⟩
    show prV.den ρ = 1099511627777
    rw [eV, hover (by omega)]
  · have hlt : u * v < 18446744073709551616 := by omega
    have eLo' : (prLo a b).den ρ = u * v := by rw [eLo, wrapU huv.1 hlt]
    by_cases hl : 1099511627776 < u * v
    · refine ⟨prF2 a b, [], _, fl_app hF0 (fl_cons (ltN (by rw [eHi, den_n]; omega)) (fl_cons (ltT (by rw [eLo', den_n]; exact hl)) fl_nil)), hchk.2, nd_cons ?_ nd_nil⟩
      show prV.den ρ = 1099511627777
      rw [eV, hover hl]
    · refine ⟨prF3 a b (!a) (!b), [], _, fl_app hF0 (fl_cons (ltN (by rw [eHi, den_n]; omega)) (fl_cons (ltN (by rw [eLo', den_n]; omega)) (fl_cons (ltB _ (by rw [e0, den_n, ha, Bool.eq_iff_iff]; simp)) (fl_cons (ltB _ (by rw [e1, den_n, hb, Bool.eq_iff_iff]; simp)) fl_nil)))), pr_chk3 a b, nd_cons ?_ nd_nil⟩
      show prV.den ρ = (prOut a b (!a) (!b)).den ρ
      rw [eV]
      have hw : IntKind.i64.wrap (u * v) = u * v := wrap64 (by omega) (by omega)
      have h5 : (SE.wrap .i64 (prLo a b)).den ρ = u * v := by rw [den_wrap, eLo', hw]
      unfold mulF big prOut
      rw [hxy]
      cases a <;> cases b <;> simp only [Bool.not_true, Bool.not_false, BEq.rfl, cond_true, cond_false, if_true, show (true == false) = false from rfl, show (false == true) = false from rfl, Bool.false_eq_true, Bool.true_eq_false, if_false, reduceCtorEq] <;>
        first
        | (rw [if_pos (by omega)]; exact h5.symm)
        | (rw [if_pos (by omega)]; show _ = IntKind.i64.wrap (0 - (SE.wrap .i64 (prLo _ _)).den ρ); rw [h5, wrap64 (by omega) (by omega)]; omega)
noncomputable def gPr : Gn := gC Tryz.prog 9 prC []
theorem gPr_ok : GoodAt Tryz.prog 228 gPr := good_C gsz (by kernel_rfl) (one1 pr_ctr)
noncomputable def kn7 : Known := knCons 228 (gRun Tryz.prog kn6 20 228 gPr) kn6
theorem kn7_ok : KnownOK Tryz.prog kn7 := knCons_ok (good_runC static kn6_ok 20 gPr_ok) kn6_ok
noncomputable def call7 : CallFn := runD Tryz.prog kn7 20
end Go.Proofs.YtlfeoiagemlbiaaGreatDoor
