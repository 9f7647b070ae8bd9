/- Operands: checks. -/
import Derived.Test.YtlfeoiagemlbiaaGreatDoorCPb
set_option linter.unusedVariables false
set_option linter.unusedSectionVars false
set_option linter.unusedSimpArgs false
set_option maxRecDepth 100000
noncomputable section
namespace Go.Proofs.YtlfeoiagemlbiaaGreatDoor
open Go.Den Go.Proofs Go.Extern Go.RowKit
variable [Mpr]
noncomputable def fsOs : Func := Tryz.f24
noncomputable def os (f : Nat) : SE := .app f (.v 0) (.v 1) (.n 0)
noncomputable def osFs : List Fact := [(.lt, tRows (.v 0), .n 1000000, true), (.lt, .v 1, .n 0, false), (.le, .v 1, tRows (.v 0), true)]
noncomputable def osHl : List (Nat × Blk) := (9 + 1, tkB.blk) :: baseL
noncomputable def osF1 : List Go.Den.Form := [.slc (9 + 1) 4 0 1]
noncomputable def osArgs : List IV := [evLv, .sint .i64 (.v 1)]
noncomputable def osRow (b : Nat) (t : SE) (c : SE) : IV := .sslice b 1 (.n 0) (tRows t) c
noncomputable def osNil : Ctr := ⟨osArgs, 9 + 2, osHl, osFs ++ [(.eq, os 77, .n 0, true), (.eq, tRows (os 76), .n 0, true)], .tuple [.nilSlice, .nilIface], [(9 + 1, tkB)], []⟩
noncomputable def osOk : Ctr := ⟨osArgs, 9 + 2, osHl, osFs ++ [(.eq, os 77, .n 0, true), (.eq, tRows (os 76), .n 0, false)], .tuple [osRow (9 + 2) (os 76) (tRows (os 76)), .nilIface], [(9 + 1, tkB)], [.rows 62 1 osF1 (os 76) 1]⟩
noncomputable def osBad : Ctr := ⟨osArgs, 9 + 2, osHl, osFs ++ [(.eq, os 77, .n 0, false)], .tuple [.nilSlice, faultP (9 + 2)], [(9 + 1, tkB)], [faultB (os 78) (.n 11)]⟩
noncomputable def osT : Tm := putLT [(0, evLv), (1, .sint .i64 (.v 1))]
noncomputable def osS (F : List Fact) : SRes := startS Tryz.prog call21 fsOs 100000 (stpL [0]) (bodyOf fsOs) osNil osT F
noncomputable def osSl (o : IV) : List (Nat × IV) := [(0, evLv), (1, .sint .i64 (.v 2)), (6, o), (7, .sint .i64 (.v 3)), (8, .sint .i64 (.v 4))]
noncomputable def osCan0 : Go.Den.Can := ⟨osSl .nilSlice, osHl, 9 + 2⟩
noncomputable def osCan1 : Go.Den.Can := ⟨osSl (osRow (9 + 2) (.v 5) (.n 9223372036854775808)), (9 + 2, .rows 62 1 osF1 (.v 5) 1) :: osHl, 9 + 3⟩
noncomputable def osGo : List Fact := osFs ++ [(.eq, .v 1, tRows (.v 0), false)]
noncomputable def osLp : La := ⟨0, srB (osS osGo), srK (osS osGo), [osCan0, osCan1]⟩
noncomputable def osRd (x : Nat) (F : List Fact) : SRes := roundA Tryz.prog call21 fsOs.ntmps 100000 (stpL [0]) 0 osLp (match x with | 0 => osCan0 | _ => osCan1) F
noncomputable def osF0 : List Fact := [(.lt, tRows (.v 0), .n 1000000, true), (.lt, .v 2, .n 0, false), (.lt, .v 3, .n 0, false), (.lt, .v 4, .n 0, false), (.le, .v 4, .v 2, true)]
noncomputable def osP : List Fact := osF0 ++ [(.le, .n 0, .v 2, true), (.le, .v 2, tRows (.v 0), true)]
noncomputable def osEnd : List Fact := osF0 ++ [(.le, .v 2, tRows (.v 0), false), (.lt, tRows (.v 5), .n 9223372036854775808, true)]
noncomputable def osOpen : List Fact := osP ++ isSg (.v 2) [] [40]
noncomputable def osDn : SE := .bin .sub .i64 (.v 3) (.n 1)
noncomputable def osClose (b : Bool) : List Fact := osP ++ isSg (.v 2) [[40]] [41] ++ [(.le, .n 0, osDn, b)]
noncomputable def osLast : List Fact := osP ++ noSg (.v 2) [[40], [41], [44]] 0 ++ [(.eq, .v 2, tRows (.v 0), true)]
noncomputable def osNl : Fact := (.eq, .v 2, tRows (.v 0), false)
noncomputable def osComma (b : Bool) : List Fact := osP ++ isSg (.v 2) [[40], [41]] [44] ++ [osNl, (.eq, .v 3, .n 0, b)]
noncomputable def osOther (x : Nat) (b : Bool) : List Fact := osP ++ noSg (.v 2) [[40], [41], [44]] x ++ [osNl, (.eq, .v 3, .n 0, b)]
noncomputable def osWd : SE := .app 8 (.v 2) (.v 4) (.n 0)
noncomputable def osCut (F : List Fact) : List Fact := F ++ [(.eq, .v 2, .v 4, false), (.lt, .v 4, tRows (.v 0), true), (.le, .app 7 (.v 4) osWd (.n 0), tRows (.v 0), true), (.lt, osWd, .n 0, false), (.lt, osWd, .n 9223372036854775808, true), (.lt, tRows (.v 5), .n 1000000, true)]
noncomputable def osEmp (F : List Fact) : List Fact := F ++ [(.eq, .v 2, .v 4, true)]
noncomputable def osNx : SE := .bin .add .i64 (.v 2) (.n 1)
noncomputable def osUp : SE := .bin .add .i64 (.v 3) (.n 1)
noncomputable def osRw : SE := tRow (tRow tRow0 (.app 7 (.v 4) (.n 0) (.n 0))) osWd
noncomputable def osSg (p d b r : SE) : List (Nat × SE) := [(0, .v 0), (1, .v 1), (2, p), (3, d), (4, b), (5, r)]
noncomputable def osCn (x : Nat) : Go.Den.Can := match x with | 0 => osCan0 | _ => osCan1
noncomputable def osAg (σ : List (Nat × SE)) (y : Nat) (r : SRes) : Bool := chkAgain Tryz.prog 9 σ (rnAgain (osCn y) r) (osCn y) 0 r && above (9 + 1) (rnAgain (osCn y) r)
noncomputable def osEr (x : Nat) (F : List Fact) : Bool := needsR Tryz.prog 9 fsOs osBad (osRd x (osEmp F)) [.r (.v 0) (.v 0), .i (os 78) (.v 2), .i (.n 11) (.n 11)]
noncomputable def osAdd (x : Nat) (F : List Fact) : Bool := osAg (osSg osNx (.v 3) osNx (tCatR (bif Nat.beq x 0 then tRowN else .v 5) osRw)) 1 (osRd x (osCut F))
noncomputable def osKeep (x : Nat) (d : SE) (F : List Fact) : Bool := osAg (osSg osNx d (.v 4) (.v 5)) x (osRd x F)
noncomputable def osChk (x : Nat) : Bool := osKeep x osUp osOpen && osKeep x osDn (osClose true) && osKeep x (.n 0) (osClose false) && osKeep x (.v 3) (osComma false) && osKeep x (.v 3) (osOther 1 true) && osKeep x (.v 3) (osOther 1 false) && osKeep x (.v 3) (osOther 2 true) && osKeep x (.v 3) (osOther 2 false) && osEr x osLast && osEr x (osComma true) && osAdd x osLast && osAdd x (osComma true)
theorem os_c0 : osChk 0 = true := by kernel_rfl
theorem os_c1 : osChk 1 = true := by kernel_rfl
noncomputable def osOkL : List Need := [.i (.n 0) (.n 0), .i (tRows (os 76)) (tRows (.v 5)), .i (tRows (os 76)) (tRows (.v 5)), .r (.v 0) (.v 0), .r (os 76) (.v 5)]
theorem os_end : needsB Tryz.prog 9 fsOs osOk [] (osRd 1 osEnd) osOkL = true := by kernel_rfl
noncomputable def osAtE : List Fact := osFs ++ [(.eq, .v 1, tRows (.v 0), true)]
theorem os_start : (needsB Tryz.prog 9 fsOs osNil [] (osS osAtE) [.r (.v 0) (.v 0)] && chkStop Tryz.prog 9 (osSg (.v 1) (.n 0) (.v 1) tRowN) [] osCan0 0 (osS osGo) && [osLp].all (laB (9 + 2))) = true := by kernel_rfl
end Go.Proofs.YtlfeoiagemlbiaaGreatDoor
