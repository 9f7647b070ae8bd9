/- A small text put together: the run. -/
import Derived.Test.YtlfeoiagemlbiaaGreatDoorCZh
set_option linter.unusedVariables false
set_option linter.unusedSectionVars false
set_option linter.unusedSimpArgs false
set_option maxRecDepth 1000000
noncomputable section
namespace Go.Proofs.YtlfeoiagemlbiaaGreatDoor
open Go.Den Go.Proofs Go.Extern Go.RowKit
variable [Msr]
theorem as2_chk : asB as2T as2V as2N = true := by kernel_rfl
theorem as2_ctr : CtrOK Tryz.prog 15 (asC as2T as2V as2N) := as_ctr as2_chk (by kernel_rfl)
end Go.Proofs.YtlfeoiagemlbiaaGreatDoor
