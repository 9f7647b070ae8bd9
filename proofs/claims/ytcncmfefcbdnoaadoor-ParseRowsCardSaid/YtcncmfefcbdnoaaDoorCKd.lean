/- The kind of a byte. -/
import Derived.Test.YtcncmfefcbdnoaaDoorCKn
import Derived.Test.YtcncmfefcbdnoaaDoorXs4
set_option linter.unusedVariables false
set_option linter.unusedSectionVars false
set_option maxRecDepth 100000
noncomputable section
namespace Go.Proofs.YtcncmfefcbdnoaaDoor
open Go.Den Go.Proofs Go.Extern Go.RowKit
variable [Msr]
def kindC : Ctr := byteC 9 [] (.sint .i64 (.app 13 (.v 0) (.n 0) (.n 0)))
theorem kind_run : allBytes (bytesRun 9 (runD Tryd.prog kn 10) 26 (fun i => .int .i64 (kindF i))) 256 = true := by kernel_rfl
theorem kind_ok : CtrOK Tryd.prog 26 kindC := byte_ctr (runD_ok static kn_ok 10) kind_run fun e i hi he _ => by
  show some (Value.int .i64 (kindF (e.ρ 0).i.toNat)) = some (Value.int .i64 (kindF i))
  rw [he]; rfl
end Go.Proofs.YtcncmfefcbdnoaaDoor
