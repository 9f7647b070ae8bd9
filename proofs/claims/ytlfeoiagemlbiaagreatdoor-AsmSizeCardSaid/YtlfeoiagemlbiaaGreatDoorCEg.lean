/- Constants: numbers with signs between: checks. -/
import Derived.Test.YtlfeoiagemlbiaaGreatDoorCEf
set_option linter.unusedVariables false
set_option linter.unusedSectionVars false
set_option linter.unusedSimpArgs false
set_option maxRecDepth 100000
noncomputable section
namespace Go.Proofs.YtlfeoiagemlbiaaGreatDoor
open Go.Den Go.Proofs Go.Extern Go.RowKit
variable [Mex]
noncomputable def kn12 : Known := knCons 220 (gOne 39) (knCons 217 (gRow 38) kn10)
noncomputable def call12 : CallFn := runD Tryz.prog kn12 20
noncomputable def fsRow : Func := Tryz.f217
noncomputable def rwT : Tm := putLT [(0, .ptr (9 + 1) 0), (1, .sint .i64 (.v 4))]
noncomputable def rwS (b : Bool) (F : List Fact) : SRes := startS Tryz.prog call12 fsRow 100000 (stpL [0]) (bodyOf fsRow) (rowC b 39 true) rwT F
noncomputable def rwK1 : SE := .bin .add .i64 (.v 4) (.n 1)
/-- what is read at the next level, from a place on -/
noncomputable def rwI (f : Nat) (b : Bool) (p : SE) : SE := exS f b p (.v 3) rwK1
noncomputable def rwLv : List Fact := [(.lt, .v 4, .n 0, false), (.lt, .n 6, .v 4, false)]
noncomputable def rwGo (b : Bool) (p : SE) (ok : Bool) : List Fact := [(.lt, p, .n 0, false), (.le, p, tRows (.v 0), true), (.lt, rwK1, .n 0, false), (.lt, .n 6, rwK1, false), exM 38 (.v 3) rwK1, (.eq, rwI 42 b p, .n 0, ok)]
noncomputable def rwStart (b ok : Bool) : List Fact := exFs b ++ rwLv ++ [(.eq, .v 4, .n 6, false)] ++ rwGo b (.v 2) ok
noncomputable def rwOne (b ok : Bool) : List Fact := exFs b ++ rwLv ++ [(.eq, .v 4, .n 6, true), exM 39 (.v 3) (.n 6), (.eq, onV 42 b, .n 0, ok)]
noncomputable def rwSl (e : IV) : List (Nat × IV) := [(0, .ptr (9 + 1) 0), (1, .sint .i64 (.v 4)), (6, .sint .i64 (.v 5)), (7, e)]
noncomputable def rwCan0 (b : Bool) : Go.Den.Can := ⟨rwSl .nilIface, exHl b (.v 2) (.v 3), exNx b⟩
noncomputable def rwCan1 (b : Bool) : Go.Den.Can := ⟨rwSl (faultP (exNx b)), (exNx b, (faultB (.v 7) (.v 8)).blk) :: exHl b (.v 2) (.v 3), exNx b + 1⟩
noncomputable def rwLp (b : Bool) : La := ⟨0, srB (rwS b (rwStart b true)), srK (rwS b (rwStart b true)), [rwCan0 b, rwCan1 b]⟩
noncomputable def rwRd (b : Bool) (x : Nat) (F : List Fact) : SRes := roundA Tryz.prog call12 fsRow.ntmps 100000 (stpL [0]) 0 (rwLp b) (match x with | 0 => rwCan0 b | _ => rwCan1 b) F
noncomputable def rwSt (b : Bool) : List (Nat × SE) := [(0, .v 0), (1, .v 1), (2, rwI 41 b (.v 2)), (3, .v 3), (4, .v 4), (5, rwI 40 b (.v 2)), (6, .v 6), (7, rwI 43 b (.v 2)), (8, rwI 42 b (.v 2))]
theorem rw_stop (b : Bool) : (chkStop Tryz.prog 9 (rwSt b) [] (rwCan0 b) 0 (rwS b (rwStart b true)) && chkStop Tryz.prog 9 (rwSt b) [] (rwCan1 b) 0 (rwS b (rwStart b false)) && laB (exNx b) (rwLp b)) = true := match b with
  | false => by kernel_rfl
  | true => by kernel_rfl
noncomputable def roV (f : Nat) (b : Bool) : SE := exS f b (.v 2) (.v 3) (.v 4)
noncomputable def rwN (b : Bool) (v a : SE) (e : List Need) : List Need := .i (roV 40 b) v :: (rdN b (roV 41 b) a (.v 3) (.v 3) ++ e)
noncomputable def rwE (b : Bool) (p e : SE) : List Need := [.i (roV 43 b) p, .i (roV 42 b) e]
noncomputable def rwOk (b : Bool) (r : SRes) (v a : SE) : Bool := needsR Tryz.prog 9 fsRow (rowC b 39 true) r (rwN b v a [])
noncomputable def rwBad (b : Bool) (r : SRes) (v a p e : SE) : Bool := needsR Tryz.prog 9 fsRow (rowC b 39 false) r (rwN b v a (rwE b p e))
noncomputable def s8 : List (List UInt8) := [[124], [94], [38], [60, 60], [62, 62], [43], [45], [42]]
noncomputable def s8at (i : Nat) : List UInt8 := (s8[i]?).getD []
noncomputable def rwF0 (b : Bool) : List Fact := exFs b ++ rwLv
noncomputable def rwNo (b : Bool) (x : Nat) : List Fact := rwF0 b ++ noSg (.v 2) s8 x
noncomputable def rwSg (b : Bool) (i : Nat) : List Fact := rwF0 b ++ isSg (.v 2) (s8.take i) (s8at i)
noncomputable def rwOther (b : Bool) (i : Nat) : List Fact := rwSg b i ++ [(.eq, .n (levelS (s8at i)), .v 4, false)]
noncomputable def rwHit (b : Bool) (i : Nat) (ok : Bool) : List Fact := rwSg b i ++ [(.eq, .n (levelS (s8at i)), .v 4, true)] ++ rwGo b onP ok
noncomputable def rwOf (b : Bool) (f : Nat) : SE := .app f onTx (.v 5) (rwI 40 b onP)
noncomputable def rwHitO (b : Bool) (i : Nat) (ok : Bool) : List Fact := rwHit b i true ++ inBF (.v 5) ++ inBF (rwI 40 b onP) ++ [(.eq, rwOf b 49, .n 0, ok)]
noncomputable def rwSx (a v p e : SE) : List (Nat × SE) := [(0, .v 0), (1, .v 1), (2, a), (3, .v 3), (4, .v 4), (5, v), (6, .v 6), (7, p), (8, e)]
noncomputable def rwAg (b : Bool) (σ : List (Nat × SE)) (can : Go.Den.Can) (r : SRes) : Bool := chkAgain Tryz.prog 9 σ (rnAgain can r) can 0 r && above (exNx b - 1) (rnAgain can r)
noncomputable def rwChkI (b : Bool) (i : Nat) : Bool := rwOk b (rwRd b 0 (rwOther b i)) (.v 5) (.v 2) && rwAg b (rwSx (rwI 41 b onP) (.v 5) (rwI 43 b onP) (rwI 42 b onP)) (rwCan1 b) (rwRd b 0 (rwHit b i false)) && rwAg b (rwSx (rwI 41 b onP) (rwOf b 48) (.v 7) (.v 8)) (rwCan0 b) (rwRd b 0 (rwHitO b i true)) && rwAg b (rwSx (rwI 41 b onP) (rwOf b 48) (.v 2) (rwOf b 49)) (rwCan1 b) (rwRd b 0 (rwHitO b i false))
noncomputable def rwChk (b : Bool) : Bool := rwOk b (rwRd b 0 (rwNo b 0)) (.v 5) (.v 2) && rwOk b (rwRd b 0 (rwNo b 1)) (.v 5) (.v 2) && rwOk b (rwRd b 0 (rwNo b 2)) (.v 5) (.v 2) && rwBad b (rwRd b 1 []) (.v 5) (.v 2) (.v 7) (.v 8) && rwOk b (rwS b (rwOne b true)) (onV 40 b) (onV 41 b) && rwBad b (rwS b (rwOne b false)) (onV 40 b) (onV 41 b) (onV 43 b) (onV 42 b)
theorem rw_chk (b : Bool) : rwChk b = true := match b with
  | false => by kernel_rfl
  | true => by kernel_rfl
theorem rw_chkI (b : Bool) : allBytes (rwChkI b) 8 = true := match b with
  | false => by kernel_rfl
  | true => by kernel_rfl
end Go.Proofs.YtlfeoiagemlbiaaGreatDoor
