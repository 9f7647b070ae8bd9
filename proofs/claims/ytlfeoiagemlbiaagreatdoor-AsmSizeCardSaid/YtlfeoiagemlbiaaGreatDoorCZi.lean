/- A small text put together: the run. -/
import Derived.Test.YtlfeoiagemlbiaaGreatDoorCZh
set_option linter.unusedVariables false
set_option linter.unusedSectionVars false
set_option linter.unusedSimpArgs false
set_option maxRecDepth 1000000
noncomputable section
namespace Go.Proofs.YtlfeoiagemlbiaaGreatDoor
open Go.Den Go.Proofs Go.Extern Go.RowKit
variable [Msr]
theorem as1_chk : asB as1T as1V as1N = true := by kernel_rfl
theorem as1_ctr : CtrOK Tryz.prog 15 (asC as1T as1V as1N) := as_ctr as1_chk (by kernel_rfl)
end Go.Proofs.YtlfeoiagemlbiaaGreatDoor
