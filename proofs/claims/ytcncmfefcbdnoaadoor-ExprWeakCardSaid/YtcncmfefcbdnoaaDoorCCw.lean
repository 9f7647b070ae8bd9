/- ExprWeak: for any two signs and any three small numbers the law answers true, and they read behind the call as they read before; what the row lists of package variables is tied to the program's text. -/
import Derived.Test.YtcncmfefcbdnoaaDoorCLw
import Derived.Test.YtcncmfefcbdnoaaDoorTie
import Derived.Test.YtcncmfefcbdnoaaDoorCards
import Derived.ChangeSame
import Derived.ChangeVars
import Derived.JoinedOf
import Derived.RowKit
import Derived.RowKitTokens
import Derived.LaidLaws
import Derived.LaidHandle
import Derived.Lay
import Derived.Stop.Joined
import Derived.SevenTiedAt
import Derived.IntWalk
set_option linter.unusedVariables false
set_option maxRecDepth 100000
noncomputable section
namespace Go.Proofs.YtcncmfefcbdnoaaDoor
open Go.Den Go.Proofs Go.Extern Go.RowKit Go.ChangeShapes Go.WideShapes
instance mezW : Mez := ⟨fun _ _ _ _ => dyI 0⟩
def rho5 (a b c d e : Int) : Nat → Dy
  | 0 => dyI a
  | 1 => dyI b
  | 2 => dyI c
  | 3 => dyI d
  | _ => dyI e
theorem weak_calls {W : World} (h : laidMetH Tryd.prog Rows.exprWeakRow.laid W) {a b c d e : Int} (ha : 0 ≤ a ∧ a ≤ 255) (hb : 0 ≤ b ∧ b ≤ 255) (hc : 0 ≤ c ∧ c ≤ 255) (hd : 0 ≤ d ∧ d ≤ 255) (he : 0 ≤ e ∧ e ≤ 255) :
    Calls Tryd.prog 5 #[.int .u8 a, .int .u8 b, .int .u8 c, .int .u8 d, .int .u8 e] W fun x W' => x = .returned (.bool true) ∧ Below W.heap.size W W' := by
  obtain ⟨ω, r⟩ := base_rel h (by simp [Rows.exprWeakRow]) (by simp [Rows.exprWeakRow]) (by simp [Rows.exprWeakRow]) noAsm (rho5 a b c d e) (noAsm_ok _)
  have key : ∀ v (z : Int), (rho5 a b c d e v).i = z → 0 ≤ z ∧ z ≤ 255 → ∀ x ∈ byteFs (.v v), Fact.holds (rho5 a b c d e) x := fun v z h1 h2 => fl_cons (ltN (by rw [den_n]; show 0 ≤ (rho5 a b c d e v).i; rw [h1]; exact h2.1)) (fl_cons (ltT (by rw [den_n]; show (rho5 a b c d e v).i < 256; rw [h1]; omega)) fl_nil)
  exact law_of_ctr Tryd.func5 (by kernel_rfl) (by kernel_rfl) wk_ctr base_ro r (fl_app (key 0 a rfl ha) (fl_app (key 1 b rfl hb) (fl_app (key 2 c rfl hc) (fl_app (key 3 d rfl hd) (key 4 e rfl he))))) rfl
theorem wf_u8 {n : Int} (h : (Lit.int .u8 n).wf = true) : 0 ≤ n ∧ n ≤ 255 := by
  have h' : (decide (IntKind.u8.min ≤ n) && decide (n ≤ IntKind.u8.max)) = true := h
  rw [show IntKind.u8.min = 0 by decide, show IntKind.u8.max = 255 by decide] at h'
  simpa using h'
theorem own : ownKnob Tryd.prog.godebug = none := by kernel_rfl
/-- A world that meets the condition. -/
noncomputable def w0 (os : Os) : World :=
  let w := World.holding Tryd.prog os ⟨#[], #[], []⟩
  { w with heap := w.heap.modify 0 fun
      | .cells _ t frozen => .cells #[.iface 121 (.agg #[.pointer (some ⟨9, 29, none⟩)])] t frozen
      | o => o }
noncomputable def laidPlain : List (String × DataW Unit) := Rows.exprWeakRow.laid.filter fun x => x.2.handleName?.isNone
noncomputable def laidWorld (os : Os) : World := (w0 os).layVars Tryd.prog laidPlain
theorem laidWorld_met (os : Os) (args : Array Value) : laidMetH Tryd.prog Rows.exprWeakRow.laid ((laidWorld os).forCall (fun _ _ => 0) ⟨#[], args, []⟩).memory := by
  have e1 : (laidPlain.filter fun x => (laidPlain.map (·.1)).contains x.1) = laidPlain := by kernel_rfl
  have e2 : (laidPlain.filter fun x => !(laidPlain.map (·.1)).contains x.1) = [] := by kernel_rfl
  refine laidMetH_of_parts (laidMet_layVars (w0 := w0 os) (laidPlain.map (·.1)) [] ?_ ?_ ?_ ?_) (by kernel_rfl)
  · exact (congrArg (fun l => ((w0 os).layVars Tryd.prog l).heap) e1).symm
  · exact (congrArg (fun l => (w0 os).layFits Tryd.prog l []) e1).trans (by kernel_rfl)
  · exact (congrArg (fun l => (w0 os).layIfaces Tryd.prog l _) e1).trans (by kernel_rfl)
  · exact e2 ▸ LaidIn.none
theorem weak_lifted (os : Os) (started : os.Started) (H : Type) (enc : TypeId × Value → H) :
    ReturnsInHanded {} Tryd.checked os 5 .any (fun w args => (Rows.exprWeakSpec.pre enc Tryd.prog Tryd.f5 [] false w args ∧ laidMetH Tryd.prog Rows.exprWeakRow.laid w) ∧ sizedMet enc Tryd.prog Tryd.f5 (OpenSpec.ofChange Rows.exprWeakSpec) false w args)
      (Rows.exprWeakSpec.post enc Tryd.prog Tryd.f5 false true false false) := by
  refine returnsInHanded_of_change_and (C := Tryd.checked) (X := fun w _ => laidMetH Tryd.prog Rows.exprWeakRow.laid w) (fun _ _ _ hh h => h.of_heap hh) own started (by kernel_rfl) Tryd.func5
    (ChangeSpec.witness_shaped (enc := enc) (C := Tryd.checked) (os := os) (X := fun w _ => laidMetH Tryd.prog Rows.exprWeakRow.laid w) false (laidWorld os) #[.int .u8 0, .int .u8 0, .int .u8 0, .int .u8 0, .int .u8 0] 8 (World.layVars_os _ _ _) (World.shaped_of_ZipB (by kernel_rfl) (by kernel_rfl)) (by kernel_rfl) (by kernel_rfl) (by kernel_rfl) (laidWorld_met os _)) ?_
  intro W base args ds gs before hval0 hW _ _ hL _
  have hval : ∀ (j : Nat) t v, Tryd.f5.params[j]? = some t → args[j]? = some v → Value.okWide Tryd.prog W .any base t v := hval0
  have hW' := hW
  obtain ⟨p, q, hA0, hV0, rfl, hfz, hnd⟩ := hW
  have hA : DataW.TrodAll enc Tryd.prog W 0 (fun _ => true) true Tryd.f5.params.toList args.toList ds p := hA0
  have hV : DataW.TrodVars enc Tryd.prog W (fun _ => true) [] gs q := hV0
  rw [Tryd.params5] at hA hval
  obtain ⟨v0, vs0, d0, ds0, p0, q0, hargs, rfl, rfl, h0, hA1⟩ := trodAll_cons hA
  obtain ⟨v1, vs1, d1, ds1, p1, q1, rfl, rfl, rfl, h1, hA2⟩ := trodAll_cons hA1
  obtain ⟨v2, vs2, d2, ds2, p2, q2, rfl, rfl, rfl, h2, hA3⟩ := trodAll_cons hA2
  obtain ⟨v3, vs3, d3, ds3, p3, q3, rfl, rfl, rfl, h3, hA4⟩ := trodAll_cons hA3
  obtain ⟨v4, vs4, d4, ds4, p4, q4, rfl, rfl, rfl, h4, hA5⟩ := trodAll_cons hA4
  obtain ⟨rfl, rfl, rfl⟩ := trodAll_nil hA5
  obtain rfl : args = #[v0, v1, v2, v3, v4] := by cases args; simp_all
  obtain ⟨a, rfl, rfl, rfl, hwa⟩ := open_int Tryd.underlying5 (hval 0 5 v0 rfl rfl) h0
  obtain ⟨b, rfl, rfl, rfl, hwb⟩ := open_int Tryd.underlying5 (hval 1 5 v1 rfl rfl) h1
  obtain ⟨c, rfl, rfl, rfl, hwc⟩ := open_int Tryd.underlying5 (hval 2 5 v2 rfl rfl) h2
  obtain ⟨d, rfl, rfl, rfl, hwd⟩ := open_int Tryd.underlying5 (hval 3 5 v3 rfl rfl) h3
  obtain ⟨e, rfl, rfl, rfl, hwe⟩ := open_int Tryd.underlying5 (hval 4 5 v4 rfl rfl) h4
  obtain ⟨rfl, rfl⟩ : gs = [] ∧ q = [] := by
    cases gs with
    | nil => exact ⟨rfl, hV⟩
    | cons g r => exact absurd hV (by intro h; cases h)
  have e1 : Rows.exprWeakSpec.fn H ([.lit (.int .u8 a), .lit (.int .u8 b), .lit (.int .u8 c), .lit (.int .u8 d), .lit (.int .u8 e)] ++ []) = { results := [.lit (.bool true)], args := [.lit (.int .u8 a), .lit (.int .u8 b), .lit (.int .u8 c), .lit (.int .u8 d), .lit (.int .u8 e)] } := by simp [Rows.exprWeakSpec]
  refine (weak_calls hL (wf_u8 hwa) (wf_u8 hwb) (wf_u8 hwc) (wf_u8 hwd) (wf_u8 hwe)).mono fun x W' ⟨he, hw⟩ => ?_
  subst he
  refine ⟨_, rfl, _, _, _, [], [], [], hW', ?_, ?_, ?_, hw.frame _, fun h => by cases h⟩
  · rw [e1]; exact trodAll_mk1 (shut_bool Tryd.underlying4 true)
  · rw [e1]; exact ⟨[], _, shut_int Tryd.underlying5 hwa, trodAll_mk4 (shut_int Tryd.underlying5 hwb) (shut_int Tryd.underlying5 hwc) (shut_int Tryd.underlying5 hwd) (shut_int Tryd.underlying5 hwe), rfl⟩
  · rw [e1]; rfl
theorem weak_said : Rows.ExprWeakSaid :=
  OpenClaim.holds_of_wide 5 Tryd.f5 rfl rfl rfl rfl rfl rfl rfl ⟨rfl, rfl, rfl, rfl, rfl⟩ rfl rfl rfl rfl rfl (by kernel_rfl) Tryd.func5 (by kernel_rfl)
    (of_decide_eq_true (by kernel_rfl)) (by unfold Func.isWrapper; rw [if_neg (of_decide_eq_false (by kernel_rfl))]; exact ⟨rfl, rfl⟩)
    (fun os started H enc _ => weak_lifted os started H enc)
theorem weak_card : Rows.ExprWeakCardSaid :=
  Claim7.holds_tied_plain_at .later [] _ true Rows.exprWeakCard.stood.harness true
    weak_said (fun _ h => by cases h) (by kernel_rfl) (fun _ h => by cases h) exprWeak_row_tie rfl ⟨rfl, rfl⟩ (by kernel_rfl) rfl
    (fun f fn hf hfn => by
      obtain rfl : f = 5 := Option.some.inj ((show Tryd.prog.funcNamed "hasp/hasplaw13.ExprWeak" = some 5 by kernel_rfl).symm.trans hf) |>.symm
      obtain rfl : fn = Tryd.f5 := (Option.some.inj (Tryd.func5.symm.trans hfn)).symm
      exact ⟨by kernel_rfl, fun j t ht => by
        rw [Tryd.params5] at ht
        have h3 : t = 5 := by
          rcases j with _ | _ | _ | _ | _ | j
          · simpa using ht.symm
          · simpa using ht.symm
          · simpa using ht.symm
          · simpa using ht.symm
          · simpa using ht.symm
          · simp at ht
        subst h3
        exact (show Tryd.prog.wantsStandIn 5 = false by kernel_rfl)⟩)
    (by kernel_rfl)
#print axioms weak_card
end Go.Proofs.YtcncmfefcbdnoaaDoor
