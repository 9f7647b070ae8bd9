/- How many operands an op has: checks. -/
import Derived.Test.YtlfeoiagemlbiaaGreatDoorCQg
import Derived.Test.YtlfeoiagemlbiaaGreatDoorXs4
set_option linter.unusedVariables false
set_option linter.unusedSectionVars false
set_option linter.unusedSimpArgs false
set_option maxRecDepth 100000
noncomputable section
namespace Go.Proofs.YtlfeoiagemlbiaaGreatDoor
open Go.Den Go.Proofs Go.Extern Go.RowKit
variable [Msa]
noncomputable def fsOa : Func := Tryz.f29
noncomputable def ze (f : Nat) : SE := .app f (.v 0) (.n 0) (.n 0)
noncomputable def oaC (ok : Bool) : Ctr := ⟨[.sstr (.v 0)], 9 + 1, [], [(.eq, ze 96, .n 1, ok)], bif ok then .tuple [.sint .i64 (ze 97), .bool true] else .tuple [.int .i64 0, .bool false], [], []⟩
noncomputable def oaS (F : List Fact) : SRes := startS Tryz.prog (runD Tryz.prog kn 40) fsOa 100000 (stpL []) (bodyOf fsOa) (oaC true) nmT F
/-- none of the first names -/
noncomputable def nmNo : Nat → List Fact := @Nat.rec (fun _ => List Fact) [] (fun i ih => ih ++ [(.seq, .lit (opNm i), .v 0, false)])
/-- it is the k-th; none, from 72 on -/
noncomputable def nmPs (k : Nat) : List Fact := [(.seq, .v 0, .lit (opNm 67), Nat.beq k 67), (.seq, .v 0, .lit (opNm 68), Nat.beq k 68), (.seq, .v 0, .lit (opNm 69), Nat.beq k 69), (.seq, .v 0, .lit (opNm 70), Nat.beq k 70), (.seq, .v 0, .lit (opNm 71), Nat.beq k 71)]
noncomputable def nmFs (k : Nat) : List Fact := bif Nat.blt k 67 then nmNo k ++ [(.seq, .lit (opNm k), .v 0, true)] else nmPs k ++ nmNo 67
noncomputable def oaB (k : Nat) : Bool := bif Nat.blt k 72 then needsB Tryz.prog 9 fsOa (oaC true) [] (oaS (nmFs k)) [.i (ze 97) (.n (Int.ofNat (opsT[k]?.getD ([], 0, 0)).2.2))] else needsB Tryz.prog 9 fsOa (oaC false) [] (oaS (nmFs k)) []
end Go.Proofs.YtlfeoiagemlbiaaGreatDoor
