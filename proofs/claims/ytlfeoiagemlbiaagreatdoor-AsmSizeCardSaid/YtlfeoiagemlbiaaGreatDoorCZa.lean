/- How many operands an op has: checks. -/
import Derived.Test.YtlfeoiagemlbiaaGreatDoorCQg
import Derived.Test.YtlfeoiagemlbiaaGreatDoorCZa0
set_option linter.unusedVariables false
set_option linter.unusedSectionVars false
set_option linter.unusedSimpArgs false
set_option maxRecDepth 100000
noncomputable section
namespace Go.Proofs.YtlfeoiagemlbiaaGreatDoor
open Go.Den Go.Proofs Go.Extern Go.RowKit
variable [Msa]
theorem oa_t0 : allBytes (fun i => oaB (i + 0)) 6 = true := by kernel_rfl
theorem oa_t1 : allBytes (fun i => oaB (i + 6)) 6 = true := by kernel_rfl
theorem oa_t2 : allBytes (fun i => oaB (i + 12)) 6 = true := by kernel_rfl
theorem oa_t3 : allBytes (fun i => oaB (i + 18)) 6 = true := by kernel_rfl
theorem oa_t4 : allBytes (fun i => oaB (i + 24)) 6 = true := by kernel_rfl
theorem oa_t5 : allBytes (fun i => oaB (i + 30)) 6 = true := by kernel_rfl
theorem oa_t6 : allBytes (fun i => oaB (i + 36)) 6 = true := by kernel_rfl
theorem oa_t7 : allBytes (fun i => oaB (i + 42)) 6 = true := by kernel_rfl
theorem oa_t8 : allBytes (fun i => oaB (i + 48)) 6 = true := by kernel_rfl
theorem oa_t9 : allBytes (fun i => oaB (i + 54)) 6 = true := by kernel_rfl
theorem oa_t10 : allBytes (fun i => oaB (i + 60)) 6 = true := by kernel_rfl
theorem oa_t11 : allBytes (fun i => oaB (i + 66)) 6 = true := by kernel_rfl
theorem oa_t12 : allBytes (fun i => oaB (i + 72)) 1 = true := by kernel_rfl
end Go.Proofs.YtlfeoiagemlbiaaGreatDoor
