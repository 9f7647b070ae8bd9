/- Lines of as many operands: checks. -/
import Derived.Test.YtcncmfefcbdnoaaDoorCRa
set_option linter.unusedVariables false
set_option linter.unusedSectionVars false
set_option linter.unusedSimpArgs false
set_option maxRecDepth 100000
noncomputable section
namespace Go.Proofs.YtcncmfefcbdnoaaDoor
open Go.Den Go.Proofs Go.Extern Go.RowKit
variable [Mpr]
noncomputable def fsRr : Func := Tryd.f3
/-- the bytes: 0, from place 3 of their block on -/
noncomputable def rrW : SE := .app 9 tRowN (.v 0) (.v 3)
noncomputable def rrN : SE := tRows rrW
noncomputable def rrL : IV := .sslice (9 + 1) 1 (.v 3) rrN (.v 2)
noncomputable def rrB : Blk := .rows 5 1 [.int .u8 0] rrW 2
noncomputable def rrHl : List (Nat × Blk) := (9 + 1, rrB) :: baseL
noncomputable def rrFs : List Fact := [(.eq, sy 79 rrW, .n 1, true), (.lt, .v 3, .n 0, false), (.lt, .v 1, .n 0, false), (.lt, .v 1, .n 256, true)]
noncomputable def rrC : Ctr := ⟨[rrL, .sint .u8 (.v 1)], 9 + 2, rrHl, rrFs, .bool true, [], []⟩
noncomputable def rrT : Tm := putLT [(0, rrL), (1, .sint .u8 (.v 1))]
noncomputable def rrS (F : List Fact) : SRes := startS Tryd.prog call24 fsRr 100000 (stpL [0, 2]) (bodyOf fsRr) rrC rrT F
noncomputable def rrLong : List Fact := [(.lt, .n 20, rrN, true)]
noncomputable def rrNone : List Fact := [(.lt, .n 20, rrN, false), (.eq, rrN, .n 0, true)]
noncomputable def rrGo : List Fact := rrFs ++ [(.lt, .n 20, rrN, false), (.eq, rrN, .n 0, false)]
/-! The text is put together: 4 the text, 5 the place. -/
noncomputable def rrCan : Go.Den.Can := ⟨[(0, rrL), (1, .sint .u8 (.v 1)), (5, .sstr (.v 4)), (6, .sint .i64 (.v 5))], rrHl, 9 + 2⟩
noncomputable def rrLp : La := ⟨0, srB (rrS rrGo), srK (rrS rrGo), [rrCan]⟩
noncomputable def rrSg (s i : SE) : List (Nat × SE) := [(0, .v 0), (1, .v 1), (2, .v 2), (3, .v 3), (4, s), (5, i)]
theorem rr_start : (needsB Tryd.prog 9 fsRr rrC [] (rrS rrLong) [] && needsB Tryd.prog 9 fsRr rrC [] (rrS rrNone) []) = true := by kernel_rfl
theorem rr_stop : (chkStop Tryd.prog 9 (rrSg (.lit [108, 97, 98, 58, 32, 111, 112, 32]) (.n 0)) [] rrCan 0 (rrS rrGo) && laB (9 + 2) rrLp) = true := by kernel_rfl
noncomputable def rrRd (F : List Fact) : SRes := roundA Tryd.prog call24 fsRr.ntmps 100000 (stpL [0, 2]) 0 rrLp rrCan F
noncomputable def rrD : SE := .wrap .i64 (.bin .rem .u8 (tCell rrW (.v 5) 0) (.n 16))
noncomputable def rrX0 : SE := tCat (.lit [99]) (sy 75 rrD)
noncomputable def rrX1 : SE := tCat (.lit [40, 49, 44, 32, 50, 44, 32]) rrX0
noncomputable def rrX (h : Bool) : SE := bif h then tCat rrX1 (.lit [41]) else rrX0
noncomputable def rrSc (c : Bool) : SE := bif c then tCat (.v 4) (.lit [44, 32]) else .v 4
noncomputable def rrM : SE := .bin .rem .i64 (.wrap .i64 (.v 1)) rrN
noncomputable def rrIn : List Fact := rrFs ++ [(.lt, .v 5, .n 0, false), (.lt, .n 20, rrN, false), (.eq, rrN, .n 0, false)]
/-- a round: is something ahead, is it the one in brackets -/
noncomputable def rrSt (c h : Bool) : List Fact := rrIn ++ ([(.lt, .v 5, rrN, true), (.lt, .n 0, .v 5, c)] ++ ((bif c then [mxL (rrSc true)] else []) ++ ([(.lt, rrD, .n 0, false), (.le, .n 16, rrD, false), mxL rrX0, (.eq, .v 5, rrM, h)] ++ ((bif h then [mxL rrX1, mxL (rrX true)] else []) ++ [mxL (tCat (rrSc c) (rrX h))]))))
noncomputable def rrNxt : SE := .bin .add .i64 (.v 5) (.n 1)
noncomputable def rrB0 (c h : Bool) : Bool := chkAgain Tryd.prog 9 (rrSg (tCat (rrSc c) (rrX h)) rrNxt) [] rrCan 0 (rrRd (rrSt c h))
theorem rr_rd : (rrB0 false false && rrB0 false true && rrB0 true false && rrB0 true true) = true := by kernel_rfl
/-! The text is read. -/
noncomputable def rrEnd : List Fact := rrIn ++ [(.lt, .v 5, rrN, false), short (.v 4), (.eq, sy 36 (.v 4), .n 0, true), (.eq, sy 80 (.v 4), .n 0, true), (.eq, sy 84 (.v 4), .n 1, false), (.eq, tRows (sy 85 (.v 4)), .n 0, false), (.seq, sy 82 (.v 4), .lit [108, 97, 98], true), (.seq, sy 83 (.v 4), .lit [111, 112], true), (.eq, tRows (sy 85 (.v 4)), rrN, true)]
/-! The operands are looked at: 5 the place. -/
noncomputable def rrA : SE := sy 85 (.v 4)
noncomputable def rrK : SE := sy 35 (.v 4)
noncomputable def rrH2 : List (Nat × Blk) := (9 + 2, .rows 61 4 tokFs rrK 1) :: (9 + 3, .rows 34 1 [.slc (9 + 2) 4 0 1] rrA 1) :: (9 + 4, .cells 27 4 [] (listT [.sstr (sy 82 (.v 4)), .sstr (sy 83 (.v 4)), .bool false, .sslice (9 + 3) 1 (.n 0) (tRows rrA) (tRows rrA)] 0 .nil) 0) :: rrHl
noncomputable def rrCan2 : Go.Den.Can := ⟨[(0, rrL), (1, .sint .u8 (.v 1)), (8, .ptr (9 + 4) 0), (10, .sint .i64 (.v 5))], rrH2, 9 + 5⟩
noncomputable def rrLp2 : La := ⟨2, srB (rrRd rrEnd), srK (rrRd rrEnd), [rrCan2]⟩
theorem rr_stop2 : (chkStop Tryd.prog 9 (rrSg (.v 4) (.n 0)) [(9 + 2, 9 + 2), (9 + 3, 9 + 3), (9 + 4, 9 + 4)] rrCan2 2 (rrRd rrEnd) && laB (9 + 2) rrLp2) = true := by kernel_rfl
noncomputable def rrRd2 (F : List Fact) : SRes := roundA Tryd.prog call24 fsRr.ntmps 100000 (stpL [0, 2]) 1 rrLp2 rrCan2 F
noncomputable def rrC0 : SE := tCell rrA (.v 5) 0
noncomputable def rrC1 : SE := tCell rrA (.v 5) 1
noncomputable def rrIn2 : List Fact := rrIn ++ [(.eq, tRows rrA, rrN, true)]
/-- a round: is it a register? -/
noncomputable def rrR (ok : Bool) : List Fact := rrIn2 ++ ([(.lt, .v 5, rrN, true), (.lt, .v 5, tRows rrA, true), (.eq, sy 72 rrK, .n 1, true), (.lt, rrC0, .n 0, false), (.lt, rrC1, .n 0, false), (.le, .app 7 rrC0 rrC1 (.n 0), tRows rrK, true), (.eq, .app 70 rrK rrC0 rrC1, .n 1, ok), (.eq, .v 5, rrM, !ok)] ++ (bif ok then [(.eq, .app 71 rrK rrC0 rrC1, rrD, true)] else []))
noncomputable def rrB2 (ok : Bool) : Bool := chkAgain Tryd.prog 9 (rrSg (.v 4) rrNxt) [(9 + 2, 9 + 2), (9 + 3, 9 + 3), (9 + 4, 9 + 4)] rrCan2 1 (rrRd2 (rrR ok))
theorem rr_rd2 : (rrB2 true && rrB2 false && needsB Tryd.prog 9 fsRr rrC [] (rrRd2 (rrIn2 ++ [(.lt, .v 5, rrN, false)])) []) = true := by kernel_rfl
end Go.Proofs.YtcncmfefcbdnoaaDoor
