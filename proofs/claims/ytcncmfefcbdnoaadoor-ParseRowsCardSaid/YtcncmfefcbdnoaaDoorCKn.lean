import Derived.Test.YtcncmfefcbdnoaaDoorXs4
import Derived.Test.YtcncmfefcbdnoaaDoorCAs
import Derived.Shelf.Pu.Clone
set_option linter.unusedVariables false
set_option linter.unusedSectionVars false
set_option maxRecDepth 100000
noncomputable section
namespace Go.Proofs.YtcncmfefcbdnoaaDoor
open Go.Den Go.Proofs Go.Extern Go.RowKit
variable [Interp]
theorem k_idx : GoodAt Tryd.prog 75 gIdx := good_idx Tryd.func75 (by kernel_rfl) (by kernel_rfl) (by kernel_rfl) (by kernel_rfl)
theorem k_typeOf : GoodAt Tryd.prog 47 (gOr (gTypeOf 9 121 59) (gTypeOf 9 121 156)) := good_or (good_typeOf (x := ReflectliteType.typeOf) Tryd.func47 (by kernel_rfl) (by kernel_rfl) (by kernel_rfl) (by kernel_rfl) (fun v w => by kernel_rfl)) (good_typeOf (x := ReflectliteType.typeOf) Tryd.func47 (by kernel_rfl) (by kernel_rfl) (by kernel_rfl) (by kernel_rfl) (fun v w => by kernel_rfl))
theorem k_comparable : GoodAt Tryd.prog 122 (gOr (gYes 9 59) (gYes 9 156)) := good_or (good_yes (x := ReflectliteType.method fun t => do Go.Extern.Rtype.noPackHeld "Comparable" t; pure (.bool (← typeInfo t).comparable)) Tryd.func122 (by kernel_rfl) (by kernel_rfl) (by kernel_rfl) (by kernel_rfl) (fun w => by kernel_rfl)) (good_yes (x := ReflectliteType.method fun t => do Go.Extern.Rtype.noPackHeld "Comparable" t; pure (.bool (← typeInfo t).comparable)) Tryd.func122 (by kernel_rfl) (by kernel_rfl) (by kernel_rfl) (by kernel_rfl) (fun w => by kernel_rfl))
def cloneRen : Shelf.Ren := { f := fun _ => 69, t := fun k => match k with | 0 => 0 | 3 => 3 | 4 => 4 | 5 => 5 | 9 => 9 | 37 => 22 | _ => 155, g := fun k => k }
theorem clone_lays : LaysPu.n25 Tryd.prog cloneRen := by constructor <;> first | kernel_rfl | (intro w; kernel_rfl)
theorem k_clone : GoodAt Tryd.prog 69 gClone := good_clone Tryd.func69 (by kernel_rfl) (by kernel_rfl) (fun s w hs => AnyPu.stringslite_Clone clone_lays s w hs)
theorem as_nil' (t : Value) (w : World) : Calls Tryd.prog 30 #[.nilIface, t] w fun e w' => e = .returned (.bool false) ∧ w' = w := as_nil t w
theorem k_as : GoodAt Tryd.prog 30 (gAs 0 9 121 29 73 83) :=
  good_as (by decide) Tryd.func30 (by kernel_rfl) (by kernel_rfl) as_nil (fun ea t old w h1 h2 h3 => (as_hit ea t old w h1 h2 h3).mono fun x w' hx => by
    obtain ⟨rfl, rfl⟩ := hx
    exact ⟨rfl, _, ((((Below.refl _ w).alloc (Nat.le_refl _) _).alloc (by simp) _).alloc (by simp; omega) _).alloc (by simp; omega) _, rfl⟩)
def kn : Known := knL [(75, gIdx), (47, gOr (gTypeOf 9 121 59) (gTypeOf 9 121 156)), (122, gOr (gYes 9 59) (gYes 9 156)), (69, gClone), (30, gAs 0 9 121 29 73 83)]
theorem kn_ok : KnownOK Tryd.prog kn := knL_ok fun p hp => by
  simp only [List.mem_cons, List.mem_nil_iff, or_false] at hp
  rcases hp with rfl | rfl | rfl | rfl | rfl
  · exact k_idx
  · exact k_typeOf
  · exact k_comparable
  · exact k_clone
  · exact k_as
theorem static : Static Tryd.prog := static_of (by kernel_rfl) (by kernel_rfl)
end Go.Proofs.YtcncmfefcbdnoaaDoor
