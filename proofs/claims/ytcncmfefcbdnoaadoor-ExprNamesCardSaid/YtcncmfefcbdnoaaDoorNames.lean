/- ExprNames: for any two numbers the law answers true, and they read behind the call as they read before; what the row lists of package variables is tied to the program's text. -/
import Derived.Test.YtcncmfefcbdnoaaDoorBase
import Derived.Test.YtcncmfefcbdnoaaDoorTie
import Derived.Test.YtcncmfefcbdnoaaDoorCards
import Derived.ChangeSame
import Derived.ChangeVars
import Derived.JoinedOf
import Derived.RowKit
import Derived.RowKitTokens
import Derived.LaidLaws
import Derived.LaidHandle
import Derived.Lay
import Derived.Stop.Joined
import Derived.SevenTiedAt
import Derived.IntWalk
set_option linter.unusedVariables false
set_option maxRecDepth 100000
noncomputable section
namespace Go.Proofs.YtcncmfefcbdnoaaDoor
open Go.Den Go.Proofs Go.Extern Go.RowKit Go.ChangeShapes Go.WideShapes
def sA : SE := .wrap .i64 (.v 0)
def sB : SE := .wrap .i64 (.v 1)
def sD : SE := .bin .add .i64 sA (.bin .sub .i64 (.n 0) sB)
def asmNames : List (Cmp × SE × SE × Bool) := [(.lt, sA, .n (-1099511627776), false), (.lt, .n 1099511627776, sA, false), (.lt, sB, .n (-1099511627776), false), (.lt, .n 1099511627776, sB, false), (.lt, sD, .n (-1099511627776), false), (.lt, .n 1099511627776, sD, false), (.eq, sD, .bin .sub .i64 sA sB, true)]
theorem run_names : saysYes (runD Tryd.prog kn 100 6 [.sint .i32 (.v 0), .sint .i32 (.v 1)] ⟨9 + 1, putL baseL, asmL asmNames⟩) = true := by kernel_rfl
theorem names_ok {ρ : Nat → Int} (h0 : -2147483648 ≤ ρ 0 ∧ ρ 0 ≤ 2147483647) (h1 : -2147483648 ≤ ρ 1 ∧ ρ 1 ≤ 2147483647) : AsmOK (asmL asmNames) ρ := by
  have w0 : IntKind.i64.wrap (ρ 0) = ρ 0 := IntWalk.i64_in _ (by omega)
  have w1 : IntKind.i64.wrap (ρ 1) = ρ 1 := IntWalk.i64_in _ (by omega)
  have w2 : IntKind.i64.wrap (0 - ρ 1) = 0 - ρ 1 := IntWalk.i64_in _ (by omega)
  have w3 : IntKind.i64.wrap (ρ 0 + (0 - ρ 1)) = ρ 0 + (0 - ρ 1) := IntWalk.i64_in _ (by omega)
  have w4 : IntKind.i64.wrap (ρ 0 - ρ 1) = ρ 0 - ρ 1 := IntWalk.i64_in _ (by omega)
  have eA : sA.den ρ = ρ 0 := w0
  have eB : sB.den ρ = ρ 1 := w1
  have eD : sD.den ρ = ρ 0 + (0 - ρ 1) := by
    show IntKind.i64.wrap (sA.den ρ + IntKind.i64.wrap (0 - sB.den ρ)) = _
    rw [eA, eB, w2, w3]
  have eS : (SE.bin .sub .i64 sA sB).den ρ = ρ 0 - ρ 1 := by
    show IntKind.i64.wrap (sA.den ρ - sB.den ρ) = _
    rw [eA, eB, w4]
  refine asmL_ok fun p hp => ?_
  simp only [asmNames, List.mem_cons, List.mem_nil_iff, or_false] at hp
  have n1 : ∀ z, (SE.n z).den ρ = z := fun _ => rfl
  rcases hp with rfl | rfl | rfl | rfl | rfl | rfl | rfl
  · show decide (sA.den ρ < _) = false; rw [eA, n1]; simp; omega
  · show decide (_ < sA.den ρ) = false; rw [eA, n1]; simp; omega
  · show decide (sB.den ρ < _) = false; rw [eB, n1]; simp; omega
  · show decide (_ < sB.den ρ) = false; rw [eB, n1]; simp; omega
  · show decide (sD.den ρ < _) = false; rw [eD, n1]; simp; omega
  · show decide (_ < sD.den ρ) = false; rw [eD, n1]; simp; omega
  · show (sD.den ρ == (SE.bin .sub .i64 sA sB).den ρ) = true; rw [eD, eS]; simp; omega
theorem names_calls {W : World} (h : laidMetH Tryd.prog Rows.exprNamesRow.laid W) (a b : Int) (ha : -2147483648 ≤ a ∧ a ≤ 2147483647) (hb : -2147483648 ≤ b ∧ b ≤ 2147483647) :
    Calls Tryd.prog 6 #[.int .i32 a, .int .i32 b] W fun x W' => x = .returned (.bool true) ∧ Below W.heap.size W W' := by
  obtain ⟨ω, r⟩ := base_rel h (by simp [Rows.exprNamesRow]) (by simp [Rows.exprNamesRow]) (by simp [Rows.exprNamesRow]) (asmL asmNames) (fun i => match i with | 0 => a | _ => b) (names_ok ha hb)
  exact law_calls static kn_ok Tryd.func6 (by kernel_rfl) (by kernel_rfl) run_names base_ro r rfl

theorem wf_i32 {n : Int} (h : (Lit.int .i32 n).wf = true) : -2147483648 ≤ n ∧ n ≤ 2147483647 := by
  have h' : (decide (IntKind.i32.min ≤ n) && decide (n ≤ IntKind.i32.max)) = true := h
  rw [show IntKind.i32.min = -2147483648 by decide, show IntKind.i32.max = 2147483647 by decide] at h'
  simpa using h'
theorem own : ownKnob Tryd.prog.godebug = none := by kernel_rfl
/-- A world that meets the condition. -/
noncomputable def w0 (os : Os) : World :=
  let w := World.holding Tryd.prog os ⟨#[], #[], []⟩
  { w with heap := w.heap.modify 0 fun
      | .cells _ t frozen => .cells #[.iface 121 (.agg #[.pointer (some ⟨9, 29, none⟩)])] t frozen
      | o => o }
noncomputable def laidPlain : List (String × DataW Unit) := Rows.exprNamesRow.laid.filter fun x => x.2.handleName?.isNone
noncomputable def laidWorld (os : Os) : World := (w0 os).layVars Tryd.prog laidPlain
theorem laidWorld_met (os : Os) (args : Array Value) : laidMetH Tryd.prog Rows.exprNamesRow.laid ((laidWorld os).forCall (fun _ _ => 0) ⟨#[], args, []⟩).memory := by
  have e1 : (laidPlain.filter fun x => (laidPlain.map (·.1)).contains x.1) = laidPlain := by kernel_rfl
  have e2 : (laidPlain.filter fun x => !(laidPlain.map (·.1)).contains x.1) = [] := by kernel_rfl
  refine laidMetH_of_parts (laidMet_layVars (w0 := w0 os) (laidPlain.map (·.1)) [] ?_ ?_ ?_ ?_) (by kernel_rfl)
  · exact (congrArg (fun l => ((w0 os).layVars Tryd.prog l).heap) e1).symm
  · exact (congrArg (fun l => (w0 os).layFits Tryd.prog l []) e1).trans (by kernel_rfl)
  · exact (congrArg (fun l => (w0 os).layIfaces Tryd.prog l _) e1).trans (by kernel_rfl)
  · exact e2 ▸ LaidIn.none
theorem names_lifted (os : Os) (started : os.Started) (H : Type) (enc : TypeId × Value → H) :
    ReturnsInHanded {} Tryd.checked os 6 .any (fun w args => (Rows.exprNamesSpec.pre enc Tryd.prog Tryd.f6 [] false w args ∧ laidMetH Tryd.prog Rows.exprNamesRow.laid w) ∧ sizedMet enc Tryd.prog Tryd.f6 (OpenSpec.ofChange Rows.exprNamesSpec) false w args)
      (Rows.exprNamesSpec.post enc Tryd.prog Tryd.f6 false true false false) := by
  refine returnsInHanded_of_change_and (C := Tryd.checked) (X := fun w _ => laidMetH Tryd.prog Rows.exprNamesRow.laid w) (fun _ _ _ hh h => h.of_heap hh) own started (by kernel_rfl) Tryd.func6
    (ChangeSpec.witness_shaped (enc := enc) (C := Tryd.checked) (os := os) (X := fun w _ => laidMetH Tryd.prog Rows.exprNamesRow.laid w) false (laidWorld os) #[.int .i32 0, .int .i32 0] 8 (World.layVars_os _ _ _) (World.shaped_of_ZipB (by kernel_rfl) (by kernel_rfl)) (by kernel_rfl) (by kernel_rfl) (by kernel_rfl) (laidWorld_met os _)) ?_
  intro W base args ds gs before hval0 hW _ _ hL _
  have hval : ∀ (j : Nat) t v, Tryd.f6.params[j]? = some t → args[j]? = some v → Value.okWide Tryd.prog W .any base t v := hval0
  have hW' := hW
  obtain ⟨p, q, hA0, hV0, rfl, hfz, hnd⟩ := hW
  have hA : DataW.TrodAll enc Tryd.prog W 0 (fun _ => true) true Tryd.f6.params.toList args.toList ds p := hA0
  have hV : DataW.TrodVars enc Tryd.prog W (fun _ => true) [] gs q := hV0
  rw [Tryd.params6] at hA hval
  obtain ⟨v0, v1, d0, d1, p0, p1, rfl, rfl, rfl, h0, h1⟩ := trodAll_two hA
  obtain ⟨a, rfl, rfl, rfl, hwa⟩ := open_int Tryd.underlying21 (hval 0 21 v0 rfl rfl) h0
  obtain ⟨b, rfl, rfl, rfl, hwb⟩ := open_int Tryd.underlying21 (hval 1 21 v1 rfl rfl) h1
  obtain ⟨rfl, rfl⟩ : gs = [] ∧ q = [] := by
    cases gs with
    | nil => exact ⟨rfl, hV⟩
    | cons g r => exact absurd hV (by intro h; cases h)
  have ra : -2147483648 ≤ a ∧ a ≤ 2147483647 := wf_i32 hwa
  have rb : -2147483648 ≤ b ∧ b ≤ 2147483647 := wf_i32 hwb
  have e1 : Rows.exprNamesSpec.fn H ([.lit (.int .i32 a), .lit (.int .i32 b)] ++ []) = { results := [.lit (.bool true)], args := [.lit (.int .i32 a), .lit (.int .i32 b)] } := by simp [Rows.exprNamesSpec]
  refine (names_calls hL a b ra rb).mono fun x W' ⟨he, hw⟩ => ?_
  subst he
  refine ⟨_, rfl, _, _, _, [], [], [], hW', ?_, ?_, ?_, hw.frame _, fun h => by cases h⟩
  · rw [e1]; exact trodAll_mk1 (shut_bool Tryd.underlying4 true)
  · rw [e1]; exact trodAll_mk2 (shut_int Tryd.underlying21 hwa) (shut_int Tryd.underlying21 hwb)
  · rw [e1]; rfl
theorem names_said : Rows.ExprNamesSaid :=
  OpenClaim.holds_of_wide 6 Tryd.f6 rfl rfl rfl rfl rfl rfl rfl ⟨rfl, rfl, rfl, rfl, rfl⟩ rfl rfl rfl rfl rfl (by kernel_rfl) Tryd.func6 (by kernel_rfl)
    (of_decide_eq_true (by kernel_rfl)) (by unfold Func.isWrapper; rw [if_neg (of_decide_eq_false (by kernel_rfl))]; exact ⟨rfl, rfl⟩)
    (fun os started H enc _ => names_lifted os started H enc)
theorem names_card : Rows.ExprNamesCardSaid :=
  Claim7.holds_tied_plain_at .later [] _ true Rows.exprNamesCard.stood.harness true
    names_said (fun _ h => by cases h) (by kernel_rfl) (fun _ h => by cases h) exprNames_row_tie rfl ⟨rfl, rfl⟩ (by kernel_rfl) rfl
    (fun f fn hf hfn => by
      obtain rfl : f = 6 := Option.some.inj ((show Tryd.prog.funcNamed "hasp/hasplaw13.ExprNames" = some 6 by kernel_rfl).symm.trans hf) |>.symm
      obtain rfl : fn = Tryd.f6 := (Option.some.inj (Tryd.func6.symm.trans hfn)).symm
      exact ⟨by kernel_rfl, fun j t ht => by
        rw [Tryd.params6] at ht
        have h3 : t = 21 := by
          rcases j with _ | _ | j
          · simpa using ht.symm
          · simpa using ht.symm
          · simp at ht
        subst h3
        exact (show Tryd.prog.wantsStandIn 21 = false by kernel_rfl)⟩)
    (by kernel_rfl)
#print axioms names_card
end Go.Proofs.YtcncmfefcbdnoaaDoor
