/- ExprParts: for any two texts the law answers true, and they read behind the call as they read before; what the row lists of package variables is tied to the program's text. -/
import Derived.Test.YtcncmfefcbdnoaaDoorCLp
import Derived.Test.YtcncmfefcbdnoaaDoorTie
import Derived.Test.YtcncmfefcbdnoaaDoorCards
import Derived.ChangeSame
import Derived.ChangeVars
import Derived.JoinedOf
import Derived.RowKit
import Derived.RowKitTokens
import Derived.LaidLaws
import Derived.LaidHandle
import Derived.Lay
import Derived.Stop.Joined
import Derived.SevenTiedAt
import Derived.IntWalk
import Derived.ChangeMaps5
set_option linter.unusedVariables false
set_option maxRecDepth 100000
noncomputable section
namespace Go.Proofs.YtcncmfefcbdnoaaDoor
open Go.Den Go.Proofs Go.Extern Go.RowKit Go.ChangeShapes Go.WideShapes Go.ChangeMaps
instance mezP : Mez := ⟨fun _ _ _ _ => dyI 0⟩
def rho2 (a b : List UInt8) : Nat → Dy
  | 0 => dyS a
  | _ => dyS b
theorem parts_calls {W : World} (h : laidMetH Tryd.prog Rows.exprPartsRow.laid W) (a b : ByteArray) :
    Calls Tryd.prog 4 #[.string a, .string b] W fun x W' => x = .returned (.bool true) ∧ Below W.heap.size W W' := by
  obtain ⟨ω, r⟩ := base_rel h (by simp [Rows.exprPartsRow]) (by simp [Rows.exprPartsRow]) (by simp [Rows.exprPartsRow]) noAsm (rho2 a.data.toList b.data.toList) (noAsm_ok _)
  have e : concL (baseE 9 (rho2 a.data.toList b.data.toList) ω) [.sstr (.v 0), .sstr (.v 1)] = some [.string a, .string b] := by
    show some [Value.string ⟨a.data.toList.toArray⟩, Value.string ⟨b.data.toList.toArray⟩] = _
    simp
  exact law_of_ctr Tryd.func4 (by kernel_rfl) (by kernel_rfl) ps_ctr base_ro r fl_nil e
theorem own : ownKnob Tryd.prog.godebug = none := by kernel_rfl
/-- A world that meets the condition. -/
noncomputable def w0 (os : Os) : World :=
  let w := World.holding Tryd.prog os ⟨#[], #[], []⟩
  { w with heap := w.heap.modify 0 fun
      | .cells _ t frozen => .cells #[.iface 121 (.agg #[.pointer (some ⟨9, 29, none⟩)])] t frozen
      | o => o }
noncomputable def laidPlain : List (String × DataW Unit) := Rows.exprPartsRow.laid.filter fun x => x.2.handleName?.isNone
noncomputable def laidWorld (os : Os) : World := (w0 os).layVars Tryd.prog laidPlain
theorem laidWorld_met (os : Os) (args : Array Value) : laidMetH Tryd.prog Rows.exprPartsRow.laid ((laidWorld os).forCall (fun _ _ => 0) ⟨#[], args, []⟩).memory := by
  have e1 : (laidPlain.filter fun x => (laidPlain.map (·.1)).contains x.1) = laidPlain := by kernel_rfl
  have e2 : (laidPlain.filter fun x => !(laidPlain.map (·.1)).contains x.1) = [] := by kernel_rfl
  refine laidMetH_of_parts (laidMet_layVars (w0 := w0 os) (laidPlain.map (·.1)) [] ?_ ?_ ?_ ?_) (by kernel_rfl)
  · exact (congrArg (fun l => ((w0 os).layVars Tryd.prog l).heap) e1).symm
  · exact (congrArg (fun l => (w0 os).layFits Tryd.prog l []) e1).trans (by kernel_rfl)
  · exact (congrArg (fun l => (w0 os).layIfaces Tryd.prog l _) e1).trans (by kernel_rfl)
  · exact e2 ▸ LaidIn.none
theorem parts_lifted (os : Os) (started : os.Started) (H : Type) (enc : TypeId × Value → H) :
    ReturnsInHanded {} Tryd.checked os 4 .any (fun w args => (Rows.exprPartsSpec.pre enc Tryd.prog Tryd.f4 [] false w args ∧ laidMetH Tryd.prog Rows.exprPartsRow.laid w) ∧ sizedMet enc Tryd.prog Tryd.f4 (OpenSpec.ofChange Rows.exprPartsSpec) false w args)
      (Rows.exprPartsSpec.post enc Tryd.prog Tryd.f4 false true false false) := by
  refine returnsInHanded_of_change_and (C := Tryd.checked) (X := fun w _ => laidMetH Tryd.prog Rows.exprPartsRow.laid w) (fun _ _ _ hh h => h.of_heap hh) own started (by kernel_rfl) Tryd.func4
    (ChangeSpec.witness_shaped (enc := enc) (C := Tryd.checked) (os := os) (X := fun w _ => laidMetH Tryd.prog Rows.exprPartsRow.laid w) false (laidWorld os) #[.string ⟨#[]⟩, .string ⟨#[]⟩] 8 (World.layVars_os _ _ _) (World.shaped_of_ZipB (by kernel_rfl) (by kernel_rfl)) (by kernel_rfl) (by kernel_rfl) (by kernel_rfl) (laidWorld_met os _)) ?_
  intro W base args ds gs before hval0 hW _ _ hL _
  have hval : ∀ (j : Nat) t v, Tryd.f4.params[j]? = some t → args[j]? = some v → Value.okWide Tryd.prog W .any base t v := hval0
  have hW' := hW
  obtain ⟨p, q, hA0, hV0, rfl, hfz, hnd⟩ := hW
  have hA : DataW.TrodAll enc Tryd.prog W 0 (fun _ => true) true Tryd.f4.params.toList args.toList ds p := hA0
  have hV : DataW.TrodVars enc Tryd.prog W (fun _ => true) [] gs q := hV0
  rw [Tryd.params4] at hA hval
  obtain ⟨v0, v1, d0, d1, p0, p1, rfl, rfl, rfl, h0, h1⟩ := trodAll_two hA
  obtain ⟨a, rfl, rfl, rfl, hwa⟩ := open_string Tryd.underlying9 (hval 0 9 v0 rfl rfl) h0
  obtain ⟨b, rfl, rfl, rfl, hwb⟩ := open_string Tryd.underlying9 (hval 1 9 v1 rfl rfl) h1
  obtain ⟨rfl, rfl⟩ : gs = [] ∧ q = [] := by
    cases gs with
    | nil => exact ⟨rfl, hV⟩
    | cons g r => exact absurd hV (by intro h; cases h)
  have e1 : Rows.exprPartsSpec.fn H ([.lit (.string a.data.toList), .lit (.string b.data.toList)] ++ []) = { results := [.lit (.bool true)], args := [.lit (.string a.data.toList), .lit (.string b.data.toList)] } := by simp [Rows.exprPartsSpec]
  refine (parts_calls hL a b).mono fun x W' ⟨he, hw⟩ => ?_
  subst he
  refine ⟨_, rfl, _, _, _, [], [], [], hW', ?_, ?_, ?_, hw.frame _, fun h => by cases h⟩
  · rw [e1]; exact trodAll_mk1 (shut_bool Tryd.underlying4 true)
  · rw [e1]; exact trodAll_mk2 (shut_string Tryd.underlying9 hwa) (shut_string Tryd.underlying9 hwb)
  · rw [e1]; rfl
theorem parts_said : Rows.ExprPartsSaid :=
  OpenClaim.holds_of_wide 4 Tryd.f4 rfl rfl rfl rfl rfl rfl rfl ⟨rfl, rfl, rfl, rfl, rfl⟩ rfl rfl rfl rfl rfl (by kernel_rfl) Tryd.func4 (by kernel_rfl)
    (of_decide_eq_true (by kernel_rfl)) (by unfold Func.isWrapper; rw [if_neg (of_decide_eq_false (by kernel_rfl))]; exact ⟨rfl, rfl⟩)
    (fun os started H enc _ => parts_lifted os started H enc)
theorem parts_card : Rows.ExprPartsCardSaid :=
  Claim7.holds_tied_plain_at .later [] _ true Rows.exprPartsCard.stood.harness true
    parts_said (fun _ h => by cases h) (by kernel_rfl) (fun _ h => by cases h) exprParts_row_tie rfl ⟨rfl, rfl⟩ (by kernel_rfl) rfl
    (fun f fn hf hfn => by
      obtain rfl : f = 4 := Option.some.inj ((show Tryd.prog.funcNamed "hasp/hasplaw13.ExprParts" = some 4 by kernel_rfl).symm.trans hf) |>.symm
      obtain rfl : fn = Tryd.f4 := (Option.some.inj (Tryd.func4.symm.trans hfn)).symm
      exact ⟨by kernel_rfl, fun j t ht => by
        rw [Tryd.params4] at ht
        have h3 : t = 9 := by
          rcases j with _ | _ | j
          · simpa using ht.symm
          · simpa using ht.symm
          · simp at ht
        subst h3
        exact (show Tryd.prog.wantsStandIn 9 = false by kernel_rfl)⟩)
    (by kernel_rfl)
#print axioms parts_card
end Go.Proofs.YtcncmfefcbdnoaaDoor
