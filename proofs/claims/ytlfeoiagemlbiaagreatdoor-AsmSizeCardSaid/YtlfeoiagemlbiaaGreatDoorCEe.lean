/- Constants: a number with signs ahead: checks. -/
import Derived.Test.YtlfeoiagemlbiaaGreatDoorCEd
set_option linter.unusedVariables false
set_option linter.unusedSectionVars false
set_option linter.unusedSimpArgs false
set_option maxRecDepth 100000
noncomputable section
namespace Go.Proofs.YtlfeoiagemlbiaaGreatDoor
open Go.Den Go.Proofs Go.Extern Go.RowKit
variable [Mex]
noncomputable def exTup (p d k : SE) : SE := tRow (tRow (tRow tRow0 p) d) k
noncomputable def exS (f : Nat) (b : Bool) (p d k : SE) : SE := .app f (.v 0) (exNt b) (exTup p d k)
noncomputable def exM (m : Nat) (d k : SE) : Fact := (.lt, .app 44 d k (.n 0), .app m (.n 0) (.n 0) (.n 0), true)
noncomputable def oneC (b : Bool) (m : Nat) (ok : Bool) : Ctr := ⟨[.ptr (9 + 1) 0], exNx b, exHl b (.v 2) (.v 3), exFs b ++ [exM m (.v 3) (.n 6), (.eq, exS 42 b (.v 2) (.v 3) (.n 6), .n 0, ok)], .tuple [.sint .i64 (exS 40 b (.v 2) (.v 3) (.n 6)), bif ok then .nilIface else faultP (exNx b)], exOut b (exS 41 b (.v 2) (.v 3) (.n 6)) (.v 3), bif ok then [] else [faultB (exS 43 b (.v 2) (.v 3) (.n 6)) (exS 42 b (.v 2) (.v 3) (.n 6))]⟩
noncomputable def rowC (b : Bool) (m : Nat) (ok : Bool) : Ctr := ⟨[.ptr (9 + 1) 0, .sint .i64 (.v 4)], exNx b, exHl b (.v 2) (.v 3), exFs b ++ [(.lt, .v 4, .n 0, false), (.lt, .n 6, .v 4, false), exM m (.v 3) (.v 4), (.eq, exS 42 b (.v 2) (.v 3) (.v 4), .n 0, ok)], .tuple [.sint .i64 (exS 40 b (.v 2) (.v 3) (.v 4)), bif ok then .nilIface else faultP (exNx b)], exOut b (exS 41 b (.v 2) (.v 3) (.v 4)) (.v 3), bif ok then [] else [faultB (exS 43 b (.v 2) (.v 3) (.v 4)) (exS 42 b (.v 2) (.v 3) (.v 4))]⟩
noncomputable def gOne (m : Nat) : Gn := gOr (gC Tryz.prog 9 (oneC false m true) [oneC false m false]) (gC Tryz.prog 9 (oneC true m true) [oneC true m false])
noncomputable def gRow (m : Nat) : Gn := gOr (gC Tryz.prog 9 (rowC false m true) [rowC false m false]) (gC Tryz.prog 9 (rowC true m true) [rowC true m false])
/-- what is known where a reader stands in one sign more -/
noncomputable def kn11 : Known := knCons 220 (gOne 38) (knCons 217 (gRow 38) kn10)
noncomputable def call11 : CallFn := runD Tryz.prog kn11 20
noncomputable def fsOne : Func := Tryz.f220
noncomputable def onS (b : Bool) (F : List Fact) : SRes := startS Tryz.prog call11 fsOne 100000 (stpL []) (bodyOf fsOne) (oneC b 39 true) rdT F
noncomputable def onKd : SE := tCell (.v 0) (.v 2) 0
noncomputable def onTx : SE := tCell (.v 0) (.v 2) 1
noncomputable def onP : SE := .bin .add .i64 (.v 2) (.n 1)
noncomputable def onD : SE := .bin .add .i64 (.v 3) (.n 1)
/-- what is read within -/
noncomputable def onI (f : Nat) (b : Bool) (k : Int) : SE := exS f b onP onD (.n k)
noncomputable def onSg (s : List UInt8) (x : Bool) : Fact := (.seq, onTx, .lit s, x)
noncomputable def onLt : List Fact := [(.lt, .v 2, tRows (.v 0), true)]
noncomputable def onGo (b : Bool) (k : Int) : List Fact := [(.lt, .n 16, .v 3, false), (.lt, onP, .n 0, false), (.le, onP, tRows (.v 0), true), (.lt, onD, .n 0, false), (.lt, .n 17, onD, false), exM 38 onD (.n k)]
noncomputable def onV (f : Nat) (b : Bool) : SE := exS f b (.v 2) (.v 3) (.n 6)
noncomputable def onN (b : Bool) (v a d : SE) (e : List Need) : List Need := .i (onV 40 b) v :: (rdN b (onV 41 b) a (.v 3) d ++ e)
noncomputable def onE (b : Bool) (p e : SE) : List Need := [.i (onV 43 b) p, .i (onV 42 b) e]
noncomputable def onOk (b : Bool) (F : List Fact) (v a d : SE) : Bool := needsR Tryz.prog 9 fsOne (oneC b 39 true) (onS b F) (onN b v a d [])
noncomputable def onBad (b : Bool) (F : List Fact) (v a d p e : SE) : Bool := needsR Tryz.prog 9 fsOne (oneC b 39 false) (onS b F) (onN b v a d (onE b p e))
/-- no sign: 0: beyond the end; 1: another word; 2: another sign -/
noncomputable def noSg (t : SE) (l : List (List UInt8)) (x : Nat) : List Fact := match x with
  | 0 => [(.lt, t, tRows (.v 0), false)]
  | 1 => [(.lt, t, tRows (.v 0), true), (.lt, t, .n 0, false), (.eq, tCell (.v 0) t 0, .n 3, false)]
  | _ => [(.lt, t, tRows (.v 0), true), (.lt, t, .n 0, false), (.eq, tCell (.v 0) t 0, .n 3, true)] ++ l.map fun s => (.seq, tCell (.v 0) t 1, .lit s, false)
noncomputable def isSg (t : SE) (l : List (List UInt8)) (s : List UInt8) : List Fact := [(.lt, t, tRows (.v 0), true), (.lt, t, .n 0, false), (.eq, tCell (.v 0) t 0, .n 3, true)] ++ l.map (fun s => ((.seq, tCell (.v 0) t 1, .lit s, false) : Fact)) ++ [(.seq, tCell (.v 0) t 1, .lit s, true)]
noncomputable def onPl (b ok : Bool) (x : Nat) : List Fact := exFs b ++ noSg (.v 2) [[40], [45], [126]] x ++ [(.eq, plS 52 b, .n 0, ok)]
noncomputable def onChkP (b : Bool) (x : Nat) : Bool := onOk b (onPl b true x) (plS 50 b) (plS 51 b) (.v 3) && onBad b (onPl b false x) (plS 50 b) (plS 51 b) (.v 3) (plS 53 b) (plS 52 b)
/-- a sign: 0: bracket; 1: -; 2: ~ -/
noncomputable def onSn (b : Bool) (i : Nat) : List Fact := exFs b ++ match i with
  | 0 => isSg (.v 2) [] [40]
  | 1 => isSg (.v 2) [[40], [126]] [45]
  | _ => isSg (.v 2) [[40], [45]] [126]
noncomputable def onK (i : Nat) : Int := match i with
  | 0 => 0
  | _ => 6
noncomputable def onDp : SE := .bin .sub .i64 onD (.n 1)
noncomputable def onDeep (b : Bool) (i : Nat) : List Fact := onSn b i ++ [(.lt, .n 16, .v 3, true)]
noncomputable def onCall (b : Bool) (i : Nat) (ok : Bool) : List Fact := onSn b i ++ (onGo b (onK i) ++ [(.eq, onI 42 b (onK i), .n 0, ok)])
noncomputable def onW (b : Bool) (i : Nat) : SE := match i with
  | 1 => .bin .sub .i64 (.n 0) (onI 40 b 6)
  | _ => .bin .sub .i64 (.bin .sub .i64 (.n 0) (onI 40 b 6)) (.n 1)
noncomputable def onA1 (b : Bool) : SE := .bin .add .i64 (onI 41 b 0) (.n 1)
noncomputable def onChkS (b : Bool) (i : Nat) : Bool := onBad b (onDeep b i) (.n 0) (.v 2) (.v 3) (.v 2) (.n 15) && onBad b (onCall b i false) (.n 0) (onI 41 b (onK i)) onDp (onI 43 b (onK i)) (onI 42 b (onK i))
noncomputable def onChkB (b : Bool) : Bool := onOk b (onCall b 0 true ++ isSg (onI 41 b 0) [] [41]) (onI 40 b 0) (onA1 b) onDp && onBad b (onCall b 0 true ++ noSg (onI 41 b 0) [[41]] 0) (.n 0) (onI 41 b 0) onDp (onI 41 b 0) (.n 11) && onBad b (onCall b 0 true ++ noSg (onI 41 b 0) [[41]] 1) (.n 0) (onI 41 b 0) onDp (onI 41 b 0) (.n 11) && onBad b (onCall b 0 true ++ noSg (onI 41 b 0) [[41]] 2) (.n 0) (onI 41 b 0) onDp (onI 41 b 0) (.n 11)
noncomputable def onChkW (b : Bool) (i : Nat) : Bool := onOk b (onCall b i true ++ wiF (onW b i) 0) (onW b i) (onI 41 b 6) onDp && onBad b (onCall b i true ++ wiF (onW b i) 1) (.n 0) (onI 41 b 6) onDp (.v 2) (.n 14) && onBad b (onCall b i true ++ wiF (onW b i) 2) (.n 0) (onI 41 b 6) onDp (.v 2) (.n 14)
theorem on_p (b : Bool) : (onChkP b 0 && onChkP b 1 && onChkP b 2) = true := match b with
  | false => by kernel_rfl
  | true => by kernel_rfl
theorem on_s (b : Bool) : (onChkS b 0 && onChkS b 1 && onChkS b 2) = true := match b with
  | false => by kernel_rfl
  | true => by kernel_rfl
theorem on_b (b : Bool) : onChkB b = true := match b with
  | false => by kernel_rfl
  | true => by kernel_rfl
theorem on_w (b : Bool) : (onChkW b 1 && onChkW b 2) = true := match b with
  | false => by kernel_rfl
  | true => by kernel_rfl
end Go.Proofs.YtlfeoiagemlbiaaGreatDoor
