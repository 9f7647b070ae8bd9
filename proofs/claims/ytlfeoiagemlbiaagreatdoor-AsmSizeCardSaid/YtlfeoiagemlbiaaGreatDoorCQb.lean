/- The reference's digits of sixteen. -/
import Derived.Test.YtlfeoiagemlbiaaGreatDoorCAs
import Derived.Test.YtlfeoiagemlbiaaGreatDoorXs4
set_option linter.unusedVariables false
set_option linter.unusedSectionVars false
set_option maxRecDepth 100000
noncomputable section
namespace Go.Proofs.YtlfeoiagemlbiaaGreatDoor
open Go.Den Go.Proofs Go.Extern Go.RowKit
variable [Mqa]
def hxC : Ctr := byteC 9 [] (.sint .i64 (.app 93 (.v 0) (.n 0) (.n 0)))
theorem hx_run : allBytes (bytesRun 9 (runD Tryz.prog kn 10) 148 (fun i => .int .i64 (hexV i))) 256 = true := by kernel_rfl
theorem hx_ok : CtrOK Tryz.prog 148 hxC := byte_ctr (runD_ok static kn_ok 10) hx_run fun e i hi he _ => by
  show some (Value.int .i64 (hexV (e.ρ 0).i.toNat)) = some (Value.int .i64 (hexV i))
  rw [he]; rfl
noncomputable def knq0 : Known := knCons 148 (gRun Tryz.prog kn 10 148 (gC Tryz.prog 9 hxC [])) kn
theorem knq0_ok : KnownOK Tryz.prog knq0 := knCons_ok (good_runC static kn_ok 10 (good_C gsz (by kernel_rfl) (fun x hx => by simp only [List.mem_singleton] at hx; subst hx; exact hx_ok))) kn_ok
noncomputable def callq0 : CallFn := runD Tryz.prog knq0 20
end Go.Proofs.YtlfeoiagemlbiaaGreatDoor
