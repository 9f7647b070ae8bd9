/- What is known of calls: texts without digits, numbers. -/
import Derived.Test.YtcncmfefcbdnoaaDoorCPu
set_option linter.unusedVariables false
set_option linter.unusedSectionVars false
set_option maxRecDepth 100000
noncomputable section
namespace Go.Proofs.YtcncmfefcbdnoaaDoor
open Go.Den Go.Proofs Go.Extern Go.RowKit
variable [Msr]
noncomputable def allF (all : Nat) (b : Bool) : Fact := (.eq, .app all (.v 0) (.n 0) (.n 0), .n 1, b)
noncomputable def clA (set : List UInt8) (all : Nat) : Ctr := ⟨[.sstr (.v 0), .str set], 9 + 1, [], [short (.v 0), asciiF (.v 0), allF all true], .str [], [], []⟩
noncomputable def clB (set : List UInt8) (sym all : Nat) : Ctr := ⟨[.sstr (.v 0), .str set], 9 + 1, [], [short (.v 0), asciiF (.v 0), allF all false], .sstr (.app sym (.v 0) (.n 0) (.n 0)), [], []⟩
theorem dropWhile_all {p : UInt8 → Bool} : ∀ {s : List UInt8}, s.all p = true → s.dropWhile p = []
  | [], _ => rfl
  | c :: s, h => by
    simp only [List.all_cons, Bool.and_eq_true] at h
    rw [List.dropWhile_cons, h.1]; simpa using dropWhile_all h.2
theorem clA_ok {set : List UInt8} {sym all : Nat} {p : UInt8 → Bool} (h : CtrOK Tryd.prog 58 (clC set sym)) (hall : ∀ ρ : Rho, (SE.app all (.v 0) (.n 0) (.n 0)).den ρ = b01 ((ρ 0).s.all p)) (hsym : ∀ ρ : Rho, (SE.app sym (.v 0) (.n 0) (.n 0)).str ρ = (ρ 0).s.dropWhile p) : CtrOK Tryd.prog 58 (clA set all) := by
  refine CtrOK.withV h (fun ρ hF => fl_cons (hF _ (by simp)) (fl_cons (hF _ (by simp)) fl_nil)) (fun e hF => ?_)
  have h1 : ((SE.app all (.v 0) (.n 0) (.n 0)).den e.ρ == 1) = true := hF (allF all true) (by simp)
  rw [hall] at h1
  have h2 : (e.ρ 0).s.all p = true := by
    cases ha : (e.ρ 0).s.all p with
    | true => rfl
    | false => rw [ha] at h1; exact absurd h1 (by decide)
  show some (Value.string ⟨((SE.app sym (.v 0) (.n 0) (.n 0)).str e.ρ).toArray⟩) = some (Value.string ⟨[].toArray⟩)
  rw [hsym, dropWhile_all h2]
theorem clB_ok {set : List UInt8} {sym all : Nat} (h : CtrOK Tryd.prog 58 (clC set sym)) : CtrOK Tryd.prog 58 (clB set sym all) :=
  CtrOK.withV h (fun ρ hF => fl_cons (hF _ (by simp)) (fl_cons (hF _ (by simp)) fl_nil)) (fun e hF => rfl)
theorem two {P : Program} {f : FuncId} {a b : Ctr} (ha : CtrOK P f a) (hb : CtrOK P f b) : ∀ x ∈ [a, b], CtrOK P f x := fun x hx => by
  simp only [List.mem_cons, List.mem_nil_iff, or_false] at hx
  rcases hx with rfl | rfl
  · exact ha
  · exact hb
theorem one1 {P : Program} {f : FuncId} {a : Ctr} (ha : CtrOK P f a) : ∀ x ∈ [a], CtrOK P f x := fun x hx => by
  rw [List.mem_singleton] at hx; subst hx; exact ha
noncomputable def gCl : Gn := gOr (gC Tryd.prog 9 (clA setD 22) [clB setD 20 22]) (gC Tryd.prog 9 (clA setH 23) [clB setH 21 23])
theorem gCl_ok : GoodAt Tryd.prog 58 gCl := good_or (good_C gsz (by kernel_rfl) (two (clA_ok (p := isDec) clD (fun ρ => rfl) (fun ρ => rfl)) (clB_ok clD))) (good_C gsz (by kernel_rfl) (two (clA_ok (p := isHex) clH (fun ρ => rfl) (fun ρ => rfl)) (clB_ok clH)))
noncomputable def gCr : Gn := gOr (gC Tryd.prog 9 (crC setD 24) []) (gC Tryd.prog 9 (crC setH 25) [])
theorem gCr_ok : GoodAt Tryd.prog 57 gCr := good_or (good_C gsz (by kernel_rfl) (one1 crD)) (good_C gsz (by kernel_rfl) (one1 crH))
noncomputable def gPu : Gn := gOr (gC Tryd.prog 9 (puC bsD false) [puC bsD true]) (gC Tryd.prog 9 (puC bsH false) [puC bsH true])
theorem gPu_ok : GoodAt Tryd.prog 68 gPu := good_or (good_C gsz (by kernel_rfl) (two puDf puDt)) (good_C gsz (by kernel_rfl) (two puHf puHt))
noncomputable def kn2 : Known := knCons 58 (gRun Tryd.prog kn1 20 58 gCl) (knCons 57 (gRun Tryd.prog kn1 20 57 gCr) (knCons 68 (gRun Tryd.prog kn1 20 68 gPu) kn1))
theorem kn2_ok : KnownOK Tryd.prog kn2 := knCons_ok (good_runC static kn1_ok 20 gCl_ok) (knCons_ok (good_runC static kn1_ok 20 gCr_ok) (knCons_ok (good_runC static kn1_ok 20 gPu_ok) kn1_ok))
noncomputable def call2 : CallFn := runD Tryd.prog kn2 20
end Go.Proofs.YtcncmfefcbdnoaaDoor
