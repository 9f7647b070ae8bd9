/- An op by its name, as the reference has it: checks. -/
import Derived.Test.YtlfeoiagemlbiaaGreatDoorCQg
import Derived.Test.YtlfeoiagemlbiaaGreatDoorCZa0
set_option linter.unusedVariables false
set_option linter.unusedSectionVars false
set_option linter.unusedSimpArgs false
set_option maxRecDepth 100000
noncomputable section
namespace Go.Proofs.YtlfeoiagemlbiaaGreatDoor
open Go.Den Go.Proofs Go.Extern Go.RowKit
variable [Msa]
noncomputable def fsNd : Func := Tryz.f30
noncomputable def ndC (ok : Bool) : Ctr := ⟨[.sstr (.v 0)], 9 + 1, [], [(.eq, ze 98, .n 1, ok)], bif ok then .tuple [.agg [.sint .i64 (ze 100), .sstr (.v 0), .sint .i64 (ze 101)], .bool true] else .tuple [.agg [.int .i64 0, .str [], .int .i64 0], .bool false], [], []⟩
noncomputable def ndS (F : List Fact) : SRes := startS Tryz.prog (runD Tryz.prog kn 40) fsNd 100000 (stpL []) (bodyOf fsNd) (ndC true) nmT F
noncomputable def ndB (k : Nat) : Bool := bif Nat.blt k 67 then needsB Tryz.prog 9 fsNd (ndC true) [] (ndS (nmFs k)) [.i (ze 100) (.n (Int.ofNat (k + 1))), .s (.v 0) (.lit (opNm k)), .i (ze 101) (.n (Int.ofNat (opsT[k]?.getD ([], 0, 0)).2.1))] else needsB Tryz.prog 9 fsNd (ndC false) [] (ndS (nmFs k)) []
theorem nd_t0 : allBytes (fun i => ndB (i + 0)) 6 = true := by kernel_rfl
theorem nd_t1 : allBytes (fun i => ndB (i + 6)) 6 = true := by kernel_rfl
theorem nd_t2 : allBytes (fun i => ndB (i + 12)) 6 = true := by kernel_rfl
theorem nd_t3 : allBytes (fun i => ndB (i + 18)) 6 = true := by kernel_rfl
theorem nd_t4 : allBytes (fun i => ndB (i + 24)) 6 = true := by kernel_rfl
theorem nd_t5 : allBytes (fun i => ndB (i + 30)) 6 = true := by kernel_rfl
theorem nd_t6 : allBytes (fun i => ndB (i + 36)) 6 = true := by kernel_rfl
theorem nd_t7 : allBytes (fun i => ndB (i + 42)) 6 = true := by kernel_rfl
theorem nd_t8 : allBytes (fun i => ndB (i + 48)) 6 = true := by kernel_rfl
theorem nd_t9 : allBytes (fun i => ndB (i + 54)) 6 = true := by kernel_rfl
theorem nd_t10 : allBytes (fun i => ndB (i + 60)) 6 = true := by kernel_rfl
theorem nd_t11 : allBytes (fun i => ndB (i + 66)) 2 = true := by kernel_rfl
end Go.Proofs.YtlfeoiagemlbiaaGreatDoor
