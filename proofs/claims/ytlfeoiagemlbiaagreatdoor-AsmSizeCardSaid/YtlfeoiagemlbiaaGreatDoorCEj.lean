/- Constants: the whole. -/
import Derived.Test.YtlfeoiagemlbiaaGreatDoorCEi
set_option linter.unusedVariables false
set_option linter.unusedSectionVars false
set_option linter.unusedSimpArgs false
set_option maxRecDepth 100000
noncomputable section
namespace Go.Proofs.YtlfeoiagemlbiaaGreatDoor
open Go.Den Go.Proofs Go.Extern Go.RowKit
variable [Mey]
noncomputable def kn14 : Known := knCons 217 (gOr (gRow 39) (fun args h => runD Tryz.prog kn10 30 217 args h)) kn10
theorem kn14_ok : KnownOK Tryz.prog kn14 := knCons_ok (good_or (gRow_ok 39 (fun b ok => (cb b ok).2.2.1) row_all) (good_run static kn10_ok 30 _)) kn10_ok
noncomputable def call14 : CallFn := runD Tryz.prog kn14 20
noncomputable def evLv : IV := .sslice (9 + 1) 4 (.n 0) (tRows (.v 0)) (.n 9223372036854775808)
noncomputable def evNv (b : Bool) : IV := bif b then namesV (9 + 2) (.v 1) (.v 6) else .nilSlice
noncomputable def evNx (b : Bool) : Nat := bif b then 9 + 3 else 9 + 2
noncomputable def evFs (b : Bool) : List Fact := [(.lt, tRows (.v 0), .n 1000000, true), (.lt, tRows (exNt b), .n 1000000, true), (.lt, .v 2, .n 0, false), (.le, .v 2, tRows (.v 0), true)]
noncomputable def evS (f : Nat) (b : Bool) : SE := exS f b (.v 2) (.n 0) (.n 0)
noncomputable def evC (b ok : Bool) : Ctr := ⟨[evLv, .sint .i64 (.v 2), evNv b], evNx b, (9 + 1, tkB.blk) :: (bif b then (9 + 2, namesB (.v 1)) :: baseL else baseL), evFs b ++ [(.eq, evS 42 b, .n 0, ok)], bif ok then .tuple [.sint .i64 (evS 40 b), .sint .i64 (evS 41 b), .nilIface] else .tuple [.int .i64 0, .int .i64 0, faultP (evNx b)], [(9 + 1, tkB)], bif ok then [] else [faultB (evS 43 b) (evS 42 b)]⟩
noncomputable def fsEv : Func := Tryz.f202
noncomputable def evT (b : Bool) : Tm := putLT [(0, evLv), (1, .sint .i64 (.v 2)), (2, evNv b)]
noncomputable def evSt (b : Bool) (F : List Fact) : SRes := startS Tryz.prog call14 fsEv 100000 (stpL []) (bodyOf fsEv) (evC b true) (evT b) F
noncomputable def evF (b ok : Bool) : List Fact := evFs b ++ [exM 39 (.n 0) (.n 0), (.eq, evS 42 b, .n 0, ok)]
noncomputable def evL (b ok : Bool) : List Need := bif ok then [.i (evS 40 b) (evS 40 b), .i (evS 41 b) (evS 41 b), .r (.v 0) (.v 0)] else [.r (.v 0) (.v 0), .i (evS 43 b) (evS 43 b), .i (evS 42 b) (evS 42 b)]
noncomputable def evChk (b ok : Bool) : Bool := needsR Tryz.prog 9 fsEv (evC b ok) (evSt b (evF b ok)) (evL b ok)
theorem ev_chk (b ok : Bool) : evChk b ok = true := match b, ok with
  | false, false => by kernel_rfl
  | false, true => by kernel_rfl
  | true, false => by kernel_rfl
  | true, true => by kernel_rfl
theorem ev_ctr (b ok : Bool) (ht : enterD (evC b ok).args fsEv.ntmps 0 .nil = some (evT b)) (hS : startS Tryz.prog call14 fsEv 100000 (stpL []) (bodyOf fsEv) (evC b ok) (evT b) = evSt b) : CtrOK Tryz.prog 202 (evC b ok) :=
  ctr_fin (fuel := 100000) (stp := stpL []) gsz mixed (runD_ok static kn14_ok 20) Tryz.func202 (by kernel_rfl) (show fsEv.body = some (bodyOf fsEv) by kernel_rfl) (by kernel_rfl) ht (fun ρ hF => by
    show ∃ (F : List Fact) (rn : List (Nat × Nat)) (L : List Need), _ ∧ needsB _ _ _ _ _ (startS Tryz.prog call14 fsEv 100000 (stpL []) (bodyOf fsEv) (evC b ok) (evT b) F) _ = true ∧ _
    rw [hS]
    refine ⟨evF b ok, _, evL b ok, fl_app (fun x hx => hF x (List.mem_append_left _ hx)) (fl_cons (ltT (show ((17 : Int) - 0) * 7 + (6 - 0) < ((200 : Nat) : Int) by decide)) (fl_cons (hF _ (List.mem_append_right _ List.mem_cons_self)) fl_nil)), ev_chk b ok, ?_⟩
    cases ok with
    | true => exact nd_cons rfl (nd_cons rfl (nd_cons rfl nd_nil))
    | false => exact nd_cons rfl (nd_cons rfl (nd_cons rfl nd_nil)))
theorem ev_cb (b ok : Bool) : ctrB 9 (evC b ok) = true := match b, ok with
  | false, false => by kernel_rfl
  | false, true => by kernel_rfl
  | true, false => by kernel_rfl
  | true, true => by kernel_rfl
noncomputable def gEv : Gn := gOr (gC Tryz.prog 9 (evC false true) [evC false false]) (gC Tryz.prog 9 (evC true true) [evC true false])
theorem gEv_ok : GoodAt Tryz.prog 202 gEv := good_or (good_C gsz (all2 (ev_cb _ _) (ev_cb _ _)) (two (ev_ctr false true (by kernel_rfl) rfl) (ev_ctr false false (by kernel_rfl) rfl))) (good_C gsz (all2 (ev_cb _ _) (ev_cb _ _)) (two (ev_ctr true true (by kernel_rfl) rfl) (ev_ctr true false (by kernel_rfl) rfl)))
noncomputable def kn15 : Known := knCons 202 (gOr gEv (fun args h => runD Tryz.prog kn14 20 202 args h)) kn14
theorem kn15_ok : KnownOK Tryz.prog kn15 := knCons_ok (good_or gEv_ok (good_run static kn14_ok 20 _)) kn14_ok
noncomputable def call15 : CallFn := runD Tryz.prog kn15 20
end Go.Proofs.YtlfeoiagemlbiaaGreatDoor
