/- The reference's operands: the contract (what each operand is, is not told). -/
import Derived.Test.YtlfeoiagemlbiaaGreatDoorCQd
import Derived.Test.YtlfeoiagemlbiaaGreatDoorCPd
set_option linter.unusedVariables false
set_option linter.unusedSectionVars false
set_option linter.unusedSimpArgs false
set_option maxRecDepth 100000
noncomputable section
namespace Go.Proofs.YtlfeoiagemlbiaaGreatDoor
open Go.Den Go.Proofs Go.Extern Go.RowKit
variable [Mqc]
noncomputable def fsOp : Func := Tryz.f28
noncomputable def opL : IV := .sslice (9 + 1) 4 (.n 0) (tRows (.v 0)) (.n 9223372036854775808)
noncomputable def opT : Tm := putLT [(0, opL), (1, .sint .i64 (.v 1))]
noncomputable def opFs : List Fact := [(.lt, tRows (.v 0), .n 1000000, true), (.lt, .v 1, .n 0, false), (.lt, .v 1, tRows (.v 0), true)]
noncomputable def opA : SE := .app 95 (os 76) (.n 0) (.n 0)
noncomputable def opC (ok : Bool) : Ctr := ⟨[opL, .sint .i64 (.v 1)], 9 + 2, [(9 + 1, tkQ.blk)], opFs ++ [(.eq, os 77, .n 0, ok)], bif ok then .tuple [.sslice (9 + 2) 1 (.n 0) (tRows opA) (.n 9223372036854775808), .int .i64 (-1)] else .tuple [.nilSlice, .sint .i64 (os 78)], [(9 + 1, tkQ)], bif ok then [.rows 75 1 [.any] opA 1] else []⟩
noncomputable def opS (F : List Fact) : SRes := startS Tryz.prog callq4 fsOp 100000 (stpL [0]) (bodyOf fsOp) (opC true) opT F
noncomputable def opOutV (o : Bool) : IV := bif o then .sslice (9 + 2) 1 (.n 0) (tRows (.v 5)) (.n 9223372036854775808) else .nilSlice
noncomputable def opOneV (o : Bool) : IV := bif o then .sslice (9 + 3) 4 (.n 0) (tRows (.v 6)) (.n 9223372036854775808) else .nilSlice
noncomputable def opCanB (u o : Bool) : Go.Den.Can := ⟨[(0, opL), (1, .sint .i64 (.v 2)), (6, opOutV u), (7, opOneV o), (8, .sint .i64 (.v 3))], (9 + 1, tkQ.blk) :: ((bif u then [(9 + 2, .rows 75 1 [.any] (.v 5) 1)] else []) ++ (bif o then [(9 + 3, .rows 78 4 tokFs (.v 6) 1)] else [])), 9 + 4⟩
noncomputable def opCan (x : Nat) : Go.Den.Can := match x with
  | 0 => opCanB false false
  | 1 => opCanB false true
  | 2 => opCanB true false
  | _ => opCanB true true
def opU (x : Nat) : Bool := Nat.ble 2 x
def opO (x : Nat) : Bool := Nat.beq x 1 || Nat.beq x 3
noncomputable def opLp : La := ⟨0, srB (opS []), srK (opS []), [opCan 0, opCan 1, opCan 2, opCan 3]⟩
noncomputable def opSg (p d a o : SE) : List (Nat × SE) := [(0, .v 0), (1, .v 1), (2, p), (3, d), (5, a), (6, o)]
theorem op_stop : (chkStop Tryz.prog 9 (opSg (.v 1) (.n 0) tRowN tRowN) [] (opCan 0) 0 (opS []) && laB (9 + 2) opLp) = true := by kernel_rfl
noncomputable def opRd (x : Nat) (F : List Fact) : SRes := roundA Tryz.prog callq4 fsOp.ntmps 100000 (stpL [0]) 0 opLp (opCan x) F
noncomputable def opAg (σ : List (Nat × SE)) (y : Nat) (r : SRes) : Bool := chkAgain Tryz.prog 9 σ (rnAgain (opCan y) r) (opCan y) 0 r && above (9 + 1) (rnAgain (opCan y) r)
noncomputable def opIn : List Fact := [(.lt, .v 2, .n 0, false), (.le, .n 0, .v 2, true), (.lt, .v 2, tRows (.v 0), true)]
noncomputable def opOneF (x : Nat) : List Fact := bif opO x then [(.lt, tRows (.v 6), .n 1000000, true), (.lt, .n 0, tRows (.v 6), true), (.eq, tRows (.v 6), .n 0, false)] else []
noncomputable def opOutF (x : Nat) : List Fact := bif opU x then [(.lt, tRows (.v 5), .n 1000000, true)] else []
noncomputable def opK : SE := tCell (.v 0) (.v 2) 0
noncomputable def opTx : SE := tCell (.v 0) (.v 2) 1
/-- which word: 0 no sign, 1 another one, 2 a comma, 3, 4 brackets -/
noncomputable def opWord (q : Nat) : List Fact := match q with
  | 0 => [(.eq, opK, .n 3, false)]
  | q + 1 => [(.eq, opK, .n 3, true), (.seq, opTx, .lit [44], Nat.beq q 1), (.seq, opTx, .lit [40], Nat.beq q 2), (.seq, opTx, .lit [41], Nat.beq q 3)]
noncomputable def opFct (x q : Nat) (z : Bool) : List Fact := opIn ++ ([(.eq, .v 3, .n 0, z), (.lt, .n 0, .v 3, !z)] ++ (opWord q ++ (opOneF x ++ opOutF x)))
noncomputable def opD (q : Nat) (z : Bool) : SE := bif Nat.beq q 3 then osUp else bif Nat.beq q 4 && !z then osDn else .v 3
noncomputable def opRow1 : SE := tRow tRow0 (.n 0)
noncomputable def opRow4 : SE := tRow (tRow (tRow (tRow tRow0 (tCell (.v 0) (.v 2) 0)) (tCell (.v 0) (.v 2) 1)) (tCell (.v 0) (.v 2) 2)) (tCell (.v 0) (.v 2) 3)
noncomputable def opAdd (u : Bool) (a r : SE) : SE := tCatR (bif u then a else tRowN) r
def opY (x : Nat) : Nat := bif opU x then 3 else 1
/-- one word more -/
noncomputable def opMore (x q : Nat) (z : Bool) : Bool := opAg (opSg osNx (opD q z) (.v 5) (opAdd (opO x) (.v 6) opRow4)) (opY x) (opRd x (opFct x q z))
/-- an operand's end -/
noncomputable def opCut (x : Nat) : Bool := bif opO x then opAg (opSg osNx (.v 3) (opAdd (opU x) (.v 5) opRow1) (.v 6)) 2 (opRd x (opFct x 2 true)) else needsR Tryz.prog 9 fsOp (opC false) (opRd x (opFct x 2 true)) [.i (os 78) (.v 2), .r (.v 0) (.v 0)]
noncomputable def opEn (x : Nat) : List Fact := [(.lt, .v 2, .n 0, false), (.lt, .v 2, tRows (.v 0), false)] ++ (opOneF x ++ opOutF x)
noncomputable def opEnd (x : Nat) : Bool := bif opO x then needsR Tryz.prog 9 fsOp (opC true) (opRd x (opEn x)) ([.i (.n 0) (.n 0), .i (tRows opA) (bif opU x then tRows (opAdd true (.v 5) opRow1) else .n 1), .i (.n 9223372036854775808) (.n 9223372036854775808), .r (.v 0) (.v 0), .r opA (opAdd (opU x) (.v 5) opRow1)]) else needsR Tryz.prog 9 fsOp (opC false) (opRd x (opEn x)) [.i (os 78) (tRows (.v 0)), .r (.v 0) (.v 0)]
noncomputable def opAllX (x : Nat) : Bool := opMore x 0 true && opMore x 0 false && opMore x 1 true && opMore x 1 false && opMore x 2 false && opMore x 3 true && opMore x 3 false && opMore x 4 true && opMore x 4 false && opCut x && opEnd x
theorem op_0 : opAllX 0 = true := by kernel_rfl
theorem op_1 : opAllX 1 = true := by kernel_rfl
theorem op_2 : opAllX 2 = true := by kernel_rfl
theorem op_3 : opAllX 3 = true := by kernel_rfl
end Go.Proofs.YtlfeoiagemlbiaaGreatDoor
