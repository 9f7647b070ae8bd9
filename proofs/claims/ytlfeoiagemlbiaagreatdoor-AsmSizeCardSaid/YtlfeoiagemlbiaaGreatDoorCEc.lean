/- Constants: the first of a name. -/
import Derived.Test.YtlfeoiagemlbiaaGreatDoorCEb
set_option linter.unusedVariables false
set_option linter.unusedSectionVars false
set_option linter.unusedSimpArgs false
set_option maxRecDepth 100000
noncomputable section
namespace Go.Proofs.YtlfeoiagemlbiaaGreatDoor
open Go.Den Go.Proofs Go.Extern Go.RowKit
variable [Mex]
noncomputable def namesB (t : SE) : Blk := .rows 142 2 [.str 0, .int .i64 1] t 2
noncomputable def namesV (b : Nat) (t c : SE) : IV := .sslice b 2 (.n 0) (tRows t) c
noncomputable def tokC (a b c d : SE) : OB := .cells 72 [.sint .i64 a, .sstr b, .sint .i64 c, .sint .i64 d] 0
noncomputable def ixTok : OB := tokC (.v 2) (.v 3) (.v 4) (.v 5)
noncomputable def ixFn : IV := .func (.func 232) [] [.ptr (9 + 2) 0]
noncomputable def ixHl : List (Nat × Blk) := (9 + 1, namesB (.v 0)) :: (9 + 2, ixTok.blk) :: baseL
noncomputable def ixC : Ctr := ⟨[namesV (9 + 1) (.v 0) (.v 1), ixFn], 9 + 3, ixHl, [(.lt, tRows (.v 0), .n 1000000, true)], .sint .i64 (.app 45 (.v 0) (.v 3) (.n 0)), [(9 + 2, ixTok)], []⟩
noncomputable def fsIx : Func := Tryz.f231
noncomputable def ixT : Tm := putLT [(0, namesV (9 + 1) (.v 0) (.v 1)), (1, ixFn)]
noncomputable def ixS (F : List Fact) : SRes := startS Tryz.prog call8 fsIx 100000 (stpL [0]) (bodyOf fsIx) ixC ixT F
noncomputable def ixCan : Go.Den.Can := ⟨[(0, namesV (9 + 1) (.v 0) (.v 1)), (1, ixFn), (6, namesV (9 + 1) (.v 0) (.v 1)), (7, .sint .i64 (tRows (.v 0))), (8, .sint .i64 (.v 6))], ixHl, 9 + 3⟩
noncomputable def ixLp : Lp := ⟨0, srB (ixS []), srK (ixS []), ixCan⟩
noncomputable def ixSg (t : SE) : List (Nat × SE) := [(0, .v 0), (1, .v 1), (2, .v 2), (3, .v 3), (4, .v 4), (5, .v 5), (6, t)]
theorem ix_stop : chkStop Tryz.prog 9 (ixSg (.n 0)) [] ixCan 0 (ixS []) = true := by kernel_rfl
theorem ix_lps : ([ixLp].all (lpB (9 + 3))) = true := by kernel_rfl
noncomputable def ixRd (F : List Fact) : SRes := roundS Tryz.prog call8 fsIx.ntmps 100000 (stpL [0]) 0 ixLp F
noncomputable def ixFe : List Fact := [(.lt, .v 6, tRows (.v 0), false)]
noncomputable def ixFs (b : Bool) : List Fact := [(.lt, .v 6, tRows (.v 0), true), (.lt, .v 6, .n 0, false), (.seq, tCell (.v 0) (.v 6) 0, .v 3, b)]
noncomputable def ixL (t : SE) : List Need := [.i (.app 45 (.v 0) (.v 3) (.n 0)) t, .i (.v 2) (.v 2), .s (.v 3) (.v 3), .i (.v 4) (.v 4), .i (.v 5) (.v 5)]
noncomputable def ixNext : SE := .bin .add .i64 (.v 6) (.n 1)
theorem ix_end : needsB Tryz.prog 9 fsIx ixC [] (ixRd ixFe) (ixL (.n (-1))) = true := by kernel_rfl
theorem ix_hit : needsB Tryz.prog 9 fsIx ixC [] (ixRd (ixFs true)) (ixL (.v 6)) = true := by kernel_rfl
theorem ix_next : chkAgain Tryz.prog 9 (ixSg ixNext) [] ixCan 0 (ixRd (ixFs false)) = true := by kernel_rfl
noncomputable def ixI (i : Nat) (ρ0 ρ : Rho) (n : Nat) : Prop := ∃ j : Nat, i = 0 ∧ ρ 0 = ρ0 0 ∧ ρ 2 = ρ0 2 ∧ ρ 3 = ρ0 3 ∧ ρ 4 = ρ0 4 ∧ ρ 5 = ρ0 5 ∧ (ρ 6).i = (j : Int) ∧ j ≤ (ρ0 0).r.length ∧ n = (ρ0 0).r.length - j ∧ findN (ρ0 0).r (ρ0 3).s = findG (ρ0 3).s ((ρ0 0).r.drop j) j
theorem ix_ctr : CtrOK Tryz.prog 231 ixC := by
  refine ctr_loops (loops := [ixLp]) (inv := ixI) (fuel := 100000) (stp := stpL [0]) gsz mixed (runD_ok static kn8_ok 20) Tryz.func231 (by kernel_rfl) (show fsIx.body = some (bodyOf fsIx) by kernel_rfl) (by kernel_rfl) (show enterD ixC.args fsIx.ntmps 0 .nil = some ixT by kernel_rfl) ix_lps (fun ρ hF => ?_) ?_
  · exact ⟨[], fl_nil, .stop 0 ixLp _ [] (ρ 0).r.length rfl (fun i m h => by cases h) rfl rfl ix_stop rfl ⟨0, rfl, rfl, rfl, rfl, rfl, rfl, rfl, Nat.zero_le _, rfl, rfl⟩⟩
  · intro i lp hlp ρ0 ρ n hF hI
    obtain ⟨j, rfl, h0, h2, h3, h4, h5, h6, hj, hn, hf⟩ := hI
    simp at hlp; subst hlp
    have hlen : (tRows (.v 0)).den ρ = ((ρ0 0).r.length : Int) := by show ((ρ 0).r.length : Int) = _; rw [h0]
    have hsh0 : Fact.holds ρ0 (.lt, tRows (.v 0), .n 1000000, true) := hF _ List.mem_cons_self
    have hsh : ((ρ0 0).r.length : Int) < 1000000 := by have h := of_ltT hsh0; rw [den_n] at h; exact h
    have e6 : (SE.v 6).den ρ = (j : Int) := h6
    have needs : ∀ t : SE, t.den ρ = findN (ρ0 0).r (ρ0 3).s → ∀ n ∈ ixL t, n.ok ρ0 ρ := fun t ht => nd_cons (by show findN (ρ0 0).r (ρ0 3).s = t.den ρ; rw [ht]) (nd_cons (by show (ρ0 2).i = (ρ 2).i; rw [h2]) (nd_cons (by show (ρ0 3).s = (ρ 3).s; rw [h3]) (nd_cons (by show (ρ0 4).i = (ρ 4).i; rw [h4]) (nd_cons (by show (ρ0 5).i = (ρ 5).i; rw [h5]) nd_nil))))
    by_cases hlt : j < (ρ0 0).r.length
    · have hd : (ρ0 0).r.drop j = (ρ0 0).r[j] :: (ρ0 0).r.drop (j + 1) := List.drop_eq_getElem_cons hlt
      have hc : (tCell (.v 0) (.v 6) 0).str ρ = (((ρ0 0).r[j][0]?).getD (0, [])).2 := by
        show (cellAt (ρ 0).r (ρ 6).i.toNat (0 : Int).toNat).2 = _
        rw [h0, h6, Int.toNat_natCast]
        unfold cellAt
        rw [List.getElem?_eq_getElem hlt]; rfl
      have hs : ∀ b, decide ((((ρ0 0).r[j][0]?).getD (0, [])).2 = (ρ0 3).s) = b → ∀ f ∈ ixFs b, f.holds ρ := fun b hb => fl_cons (ltT (by rw [e6, hlen]; omega)) (fl_cons (ltN (by rw [e6, den_n]; omega)) (fl_cons (by
        show ((tCell (.v 0) (.v 6) 0).str ρ == (ρ 3).s) = b
        rw [hc, h3, ← hb, Bool.eq_iff_iff]; simp) fl_nil))
      rw [hd] at hf
      unfold findG at hf
      by_cases hq : (((ρ0 0).r[j][0]?).getD (0, [])).2 = (ρ0 3).s
      · rw [if_pos hq] at hf
        exact ⟨_, hs true (by simpa using hq), .fin [] _ (needsB_ok ix_hit) (needs _ (by rw [e6, hf]))⟩
      · rw [if_neg hq] at hf
        have hnx : ixNext.den ρ = ((j + 1 : Nat) : Int) := by
          show IntKind.i64.wrap ((SE.v 6).den ρ + 1) = _
          rw [e6, wrap64 (by omega) (by omega)]; simp
        exact ⟨_, hs false (by simpa using hq), .again 0 n ixLp _ [] ((ρ0 0).r.length - (j + 1)) rfl rfl (by omega) ix_next rfl ⟨j + 1, rfl, h0, h2, h3, h4, h5, hnx, hlt, rfl, hf⟩⟩
    · have hd : (ρ0 0).r.drop j = [] := List.drop_eq_nil_of_le (by omega)
      rw [hd] at hf
      exact ⟨ixFe, fl_cons (ltN (by rw [e6, hlen]; omega)) fl_nil, .fin [] _ (needsB_ok ix_end) (needs _ (by rw [hf]; rfl))⟩
noncomputable def gIx : Gn := gC Tryz.prog 9 ixC []
theorem gIx_ok : GoodAt Tryz.prog 231 gIx := good_C gsz (by kernel_rfl) (one1 ix_ctr)
noncomputable def kn9 : Known := knCons 231 (gOr gIx (fun args h => runD Tryz.prog kn8 20 231 args h)) kn8
theorem kn9_ok : KnownOK Tryz.prog kn9 := knCons_ok (good_or gIx_ok (good_run static kn8_ok 20 _)) kn8_ok
noncomputable def call9 : CallFn := runD Tryz.prog kn9 20
end Go.Proofs.YtlfeoiagemlbiaaGreatDoor
