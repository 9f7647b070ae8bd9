/- AsmSize: for any text the law answers true, and they read behind the call as they read before; what the row lists of package variables is tied to the program's text. -/
import Derived.Test.YtlfeoiagemlbiaaGreatDoorCLy
import Derived.Test.YtlfeoiagemlbiaaGreatDoorTie
import Derived.Test.YtlfeoiagemlbiaaGreatDoorCards
import Derived.ChangeSame
import Derived.ChangeVars
import Derived.JoinedOf
import Derived.RowKit
import Derived.RowKitTokens
import Derived.LaidLaws
import Derived.LaidHandle
import Derived.Lay
import Derived.Stop.Joined
import Derived.SevenTiedAt
import Derived.IntWalk
import Derived.ChangeMaps5
set_option linter.unusedVariables false
set_option maxRecDepth 100000
noncomputable section
namespace Go.Proofs.YtlfeoiagemlbiaaGreatDoor
open Go.Den Go.Proofs Go.Extern Go.RowKit Go.ChangeShapes Go.WideShapes Go.ChangeMaps
instance msaP : Msa := ⟨fun _ _ _ _ => dyI 0⟩
def rho1 (a : List UInt8) : Nat → Dy := fun _ => dyS a
theorem size_calls {W : World} (h : laidMetH Tryz.prog Rows.asmSizeRow.laid W) (a : ByteArray) :
    Calls Tryz.prog 3 #[.string a] W fun x W' => x = .returned (.bool true) ∧ Below W.heap.size W W' := by
  obtain ⟨ω, r⟩ := base_rel h (by simp [Rows.asmSizeRow]) (by simp [Rows.asmSizeRow]) (by simp [Rows.asmSizeRow]) noAsm (rho1 a.data.toList) (noAsm_ok _)
  have e : concL (baseE 9 (rho1 a.data.toList) ω) [.sstr (.v 0)] = some [.string a] := by
    show some [Value.string ⟨a.data.toList.toArray⟩] = _
    simp
  exact law_of_ctr Tryz.func3 (by kernel_rfl) (by kernel_rfl) sz_ctr base_ro r fl_nil e
theorem own : ownKnob Tryz.prog.godebug = none := by kernel_rfl
/-- A world that meets the condition. -/
noncomputable def w0 (os : Os) : World :=
  let w := World.holding Tryz.prog os ⟨#[], #[], []⟩
  { w with heap := w.heap.modify 0 fun
      | .cells _ t frozen => .cells #[.iface 208 (.agg #[.pointer (some ⟨9, 27, none⟩)])] t frozen
      | o => o }
noncomputable def laidPlain : List (String × DataW Unit) := Rows.asmSizeRow.laid.filter fun x => x.2.handleName?.isNone
noncomputable def laidWorld (os : Os) : World := (w0 os).layVars Tryz.prog laidPlain
theorem laidWorld_met (os : Os) (args : Array Value) : laidMetH Tryz.prog Rows.asmSizeRow.laid ((laidWorld os).forCall (fun _ _ => 0) ⟨#[], args, []⟩).memory := by
  have e1 : (laidPlain.filter fun x => (laidPlain.map (·.1)).contains x.1) = laidPlain := by kernel_rfl
  have e2 : (laidPlain.filter fun x => !(laidPlain.map (·.1)).contains x.1) = [] := by kernel_rfl
  refine laidMetH_of_parts (laidMet_layVars (w0 := w0 os) (laidPlain.map (·.1)) [] ?_ ?_ ?_ ?_) (by kernel_rfl)
  · exact (congrArg (fun l => ((w0 os).layVars Tryz.prog l).heap) e1).symm
  · exact (congrArg (fun l => (w0 os).layFits Tryz.prog l []) e1).trans (by kernel_rfl)
  · exact (congrArg (fun l => (w0 os).layIfaces Tryz.prog l _) e1).trans (by kernel_rfl)
  · exact e2 ▸ LaidIn.none
theorem size_lifted (os : Os) (started : os.Started) (H : Type) (enc : TypeId × Value → H) :
    ReturnsInHanded {} Tryz.checked os 3 .any (fun w args => (Rows.asmSizeSpec.pre enc Tryz.prog Tryz.f3 [] false w args ∧ laidMetH Tryz.prog Rows.asmSizeRow.laid w) ∧ sizedMet enc Tryz.prog Tryz.f3 (OpenSpec.ofChange Rows.asmSizeSpec) false w args)
      (Rows.asmSizeSpec.post enc Tryz.prog Tryz.f3 false true false false) := by
  refine returnsInHanded_of_change_and (C := Tryz.checked) (X := fun w _ => laidMetH Tryz.prog Rows.asmSizeRow.laid w) (fun _ _ _ hh h => h.of_heap hh) own started (by kernel_rfl) Tryz.func3
    (ChangeSpec.witness_shaped (enc := enc) (C := Tryz.checked) (os := os) (X := fun w _ => laidMetH Tryz.prog Rows.asmSizeRow.laid w) false (laidWorld os) #[.string ⟨#[]⟩] 8 (World.layVars_os _ _ _) (World.shaped_of_ZipB (by kernel_rfl) (by kernel_rfl)) (by kernel_rfl) (by kernel_rfl) (by kernel_rfl) (laidWorld_met os _)) ?_
  intro W base args ds gs before hval0 hW _ _ hL _
  have hval : ∀ (j : Nat) t v, Tryz.f3.params[j]? = some t → args[j]? = some v → Value.okWide Tryz.prog W .any base t v := hval0
  have hW' := hW
  obtain ⟨p, q, hA0, hV0, rfl, hfz, hnd⟩ := hW
  have hA : DataW.TrodAll enc Tryz.prog W 0 (fun _ => true) true Tryz.f3.params.toList args.toList ds p := hA0
  have hV : DataW.TrodVars enc Tryz.prog W (fun _ => true) [] gs q := hV0
  rw [Tryz.params3] at hA hval
  obtain ⟨v0, d0, rfl, rfl, h0⟩ := trodAll_one hA
  obtain ⟨a, rfl, rfl, rfl, hwa⟩ := open_string Tryz.underlying9 (hval 0 9 v0 rfl rfl) h0
  obtain ⟨rfl, rfl⟩ : gs = [] ∧ q = [] := by
    cases gs with
    | nil => exact ⟨rfl, hV⟩
    | cons g r => exact absurd hV (by intro h; cases h)
  have e1 : Rows.asmSizeSpec.fn H ([.lit (.string a.data.toList)] ++ []) = { results := [.lit (.bool true)], args := [.lit (.string a.data.toList)] } := by simp [Rows.asmSizeSpec]
  refine (size_calls hL a).mono fun x W' ⟨he, hw⟩ => ?_
  subst he
  refine ⟨_, rfl, _, _, _, [], [], [], hW', ?_, ?_, ?_, hw.frame _, fun h => by cases h⟩
  · rw [e1]; exact trodAll_mk1 (shut_bool Tryz.underlying4 true)
  · rw [e1]; exact trodAll_mk1 (shut_string Tryz.underlying9 hwa)
  · rw [e1]; rfl
theorem size_said : Rows.AsmSizeSaid :=
  OpenClaim.holds_of_wide 3 Tryz.f3 rfl rfl rfl rfl rfl rfl rfl ⟨rfl, rfl, rfl, rfl, rfl⟩ rfl rfl rfl rfl rfl (by kernel_rfl) Tryz.func3 (by kernel_rfl)
    (of_decide_eq_true (by kernel_rfl)) (by unfold Func.isWrapper; rw [if_neg (of_decide_eq_false (by kernel_rfl))]; exact ⟨rfl, rfl⟩)
    (fun os started H enc _ => size_lifted os started H enc)
theorem size_card : Rows.AsmSizeCardSaid :=
  Claim7.holds_tied_plain_at .later [] _ true Rows.asmSizeCard.stood.harness true
    size_said (fun _ h => by cases h) (by kernel_rfl) (fun _ h => by cases h) asmSize_row_tie rfl ⟨rfl, rfl⟩ (by kernel_rfl) rfl
    (fun f fn hf hfn => by
      obtain rfl : f = 3 := Option.some.inj ((show Tryz.prog.funcNamed "hasp/hasplaw16.AsmSize" = some 3 by kernel_rfl).symm.trans hf) |>.symm
      obtain rfl : fn = Tryz.f3 := (Option.some.inj (Tryz.func3.symm.trans hfn)).symm
      exact ⟨by kernel_rfl, fun j t ht => by
        rw [Tryz.params3] at ht
        have h3 : t = 9 := by
          rcases j with _ | j
          · simpa using ht.symm
          · simp at ht
        subst h3
        exact (show Tryz.prog.wantsStandIn 9 = false by kernel_rfl)⟩)
    (by kernel_rfl)
#print axioms size_card
end Go.Proofs.YtlfeoiagemlbiaaGreatDoor
