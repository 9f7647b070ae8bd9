/- Lines: checks. -/
import Derived.Test.YtlfeoiagemlbiaaGreatDoorCPd
set_option linter.unusedVariables false
set_option linter.unusedSectionVars false
set_option linter.unusedSimpArgs false
set_option maxRecDepth 100000
noncomputable section
namespace Go.Proofs.YtlfeoiagemlbiaaGreatDoor
open Go.Den Go.Proofs Go.Extern Go.RowKit
variable [Mpr]
noncomputable def fsPz : Func := Tryz.f9
noncomputable def pzZ : IV := .agg [.str [], .str [], .bool false, .nilSlice]
noncomputable def pzBad (e : Nat) : Ctr := ⟨[.sstr (.v 0)], 9 + 1, baseL, [short (.v 0), lnErr e], .tuple [pzZ, faultP (9 + 1)], [], [.cells 118 [.str [99, 111, 108], .sint .i64 (sy 37 (.v 0)), .iface 70 (.int .i64 (Int.ofNat e))] 0]⟩
noncomputable def pzF : List Fact := [short (.v 0), lnErr 0]
noncomputable def pzErr : Ctr := ⟨[.sstr (.v 0)], 9 + 1, baseL, pzF ++ [(.eq, sy 80 (.v 0), .n 0, false)], .tuple [pzZ, faultP (9 + 1)], [], [faultB (sy 81 (.v 0)) (sy 80 (.v 0))]⟩
noncomputable def pzOkF (dot : Bool) (none_ : Bool) : List Fact := pzF ++ [(.eq, sy 80 (.v 0), .n 0, true), (.eq, sy 84 (.v 0), .n 1, dot), (.eq, tRows (sy 85 (.v 0)), .n 0, none_)]
noncomputable def pzNil (dot : Bool) : Ctr := ⟨[.sstr (.v 0)], 9 + 1, baseL, pzOkF dot true, .tuple [.agg [.sstr (sy 82 (.v 0)), .sstr (sy 83 (.v 0)), .bool dot, .nilSlice], .nilIface], [], []⟩
noncomputable def pzOk (dot : Bool) : Ctr := ⟨[.sstr (.v 0)], 9 + 1, baseL, pzOkF dot false, .tuple [.agg [.sstr (sy 82 (.v 0)), .sstr (sy 83 (.v 0)), .bool dot, .sslice (9 + 2) 1 (.n 0) (tRows (sy 85 (.v 0))) (tRows (sy 85 (.v 0)))], .nilIface], [], [.rows 72 4 tokFs lnR 1, .rows 62 1 [.slc (9 + 1) 4 0 1] (sy 85 (.v 0)) 1]⟩
noncomputable def pzS (F : List Fact) : SRes := startS Tryz.prog call22 fsPz 100000 (stpL []) (bodyOf fsPz) (pzErr) wdT F
noncomputable def noSgR (r t : SE) (l : List (List UInt8)) (x : Nat) : List Fact := match x with
  | 0 => [(.lt, t, tRows r, false)]
  | 1 => [(.lt, t, tRows r, true), (.lt, t, .n 0, false), (.eq, tCell r t 0, .n 3, false)]
  | _ => [(.lt, t, tRows r, true), (.lt, t, .n 0, false), (.eq, tCell r t 0, .n 3, true)] ++ l.map fun s => (.seq, tCell r t 1, .lit s, false)
noncomputable def isSgR (r t : SE) (s : List UInt8) : List Fact := [(.lt, t, tRows r, true), (.lt, t, .n 0, false), (.eq, tCell r t 0, .n 3, true), (.seq, tCell r t 1, .lit s, true)]
noncomputable def pzRows : List Fact := pzF ++ [(.eq, tRows lnR, .n 0, false), (.lt, tRows lnR, .n 1000000, true), (.lt, .n 0, tRows lnR, true), (.eq, sy 72 lnR, .n 1, true)]
noncomputable def pzK (i : Nat) : SE := tCell lnR (.n (Int.ofNat i)) 0
noncomputable def pzKe (i k : Nat) (b : Bool) : Fact := (.eq, pzK i, .n (Int.ofNat k), b)
noncomputable def pzNo (y : Nat) : List Fact := match y with
  | 0 => pzRows ++ [pzKe 0 1 false]
  | y + 1 => pzRows ++ ([pzKe 0 1 true] ++ noSgR lnR (.n 1) [[58]] y)
noncomputable def pzLab (b : Bool) : List Fact := pzRows ++ ([pzKe 0 1 true] ++ (isSgR lnR (.n 1) [58] ++ [(.le, .n 1, tRows lnR, true), (.le, .app 7 (.n 0) (.n 1) (.n 0), tRows lnR, true), (.eq, .app 70 lnR (.n 0) (.n 1), .n 1, b)]))
/-- ahead of the name: 0 to 3: no label; 4: a label -/
noncomputable def pzH (y : Nat) : List Fact := match y with
  | 4 => pzLab false
  | y => pzNo y
noncomputable def pzA (y : Nat) : Nat := match y with
  | 4 => 2
  | _ => 0
noncomputable def pzLt (y : Nat) : SE := match y with
  | 4 => tCell lnR (.n 0) 1
  | _ => .lit []
noncomputable def pzIn (a : Nat) : List Fact := [(.lt, .n (Int.ofNat a), tRows lnR, true), pzKe a 0 false]
noncomputable def pzOt (y : Nat) : List Fact := pzH y ++ (pzIn (pzA y) ++ [pzKe (pzA y) 4 false, pzKe (pzA y) 1 false])
noncomputable def pzOp (f a : Nat) : SE := .app f lnR (.n (Int.ofNat a)) (.n 0)
noncomputable def pzW (y : Nat) (d e : Bool) : List Fact := pzH y ++ (pzIn (pzA y) ++ ((bif d then [pzKe (pzA y) 4 true] else [pzKe (pzA y) 4 false, pzKe (pzA y) 1 true]) ++ [(.le, .n (Int.ofNat (pzA y + 1)), tRows lnR, true), (.eq, pzOp 77 (pzA y + 1), .n 0, e)]))
noncomputable def pzWa (y : Nat) (d n : Bool) : List Fact := pzW y d true ++ [(.eq, tRows (pzOp 76 (pzA y + 1)), .n 0, n)]
noncomputable def pzNm (y : Nat) : SE := tCell lnR (.n (Int.ofNat (pzA y))) 1
noncomputable def pzErB (F : List Fact) (p e : SE) : Bool := needsR Tryz.prog 9 fsPz pzErr (pzS F) [.i (sy 81 (.v 0)) p, .i (sy 80 (.v 0)) e]
noncomputable def pzNiB (d : Bool) (F : List Fact) (lab nm : SE) : Bool := needsR Tryz.prog 9 fsPz (pzNil d) (pzS F) [.s (sy 82 (.v 0)) lab, .s (sy 83 (.v 0)) nm]
noncomputable def pzOkB (d : Bool) (F : List Fact) (lab nm a : SE) : Bool := needsB Tryz.prog 9 fsPz (pzOk d) [(9 + 1, 9 + 2), (9 + 2, 9 + 4)] (pzS F) [.s (sy 82 (.v 0)) lab, .s (sy 83 (.v 0)) nm, .i (.n 0) (.n 0), .i (tRows (sy 85 (.v 0))) (tRows a), .i (tRows (sy 85 (.v 0))) (tRows a), .r lnR lnR, .r (sy 85 (.v 0)) a]
noncomputable def pzOtB (y : Nat) : Bool := pzErB (pzOt y) (.n (Int.ofNat (pzA y))) (.n 11)
noncomputable def pzWB (y : Nat) (d : Bool) : Bool := pzErB (pzW y d false) (pzOp 78 (pzA y + 1)) (.n 11) && pzNiB d (pzWa y d true) (pzLt y) (pzNm y) && pzOkB d (pzWa y d false) (pzLt y) (pzNm y) (pzOp 76 (pzA y + 1))
noncomputable def pzEmp : List Fact := pzF ++ [(.eq, tRows lnR, .n 0, true)]
noncomputable def pzEl : List Fact := pzLab false ++ [(.lt, .n 2, tRows lnR, false)]
noncomputable def pzBB (e : Nat) : Bool := needsR Tryz.prog 9 fsPz (pzBad e) (pzS [short (.v 0), lnErr e]) [.i (sy 37 (.v 0)) (sy 37 (.v 0))]
theorem pz_ot0 : pzOtB 0 = true := by kernel_rfl
theorem pz_ot4 : pzOtB 4 = true := by kernel_rfl
theorem pz_w0 : pzWB 0 true = true := by kernel_rfl
theorem pz_w1 : pzWB 1 false = true := by kernel_rfl
theorem pz_w2 : pzWB 2 false = true := by kernel_rfl
theorem pz_w3 : pzWB 3 false = true := by kernel_rfl
theorem pz_w4f : pzWB 4 false = true := by kernel_rfl
theorem pz_w4t : pzWB 4 true = true := by kernel_rfl
theorem pz_reg : pzErB (pzLab true) (.n 0) (.n 12) = true := by kernel_rfl
theorem pz_el : pzNiB false pzEl (pzLt 4) (.lit []) = true := by kernel_rfl
theorem pz_emp : pzNiB false pzEmp (.lit []) (.lit []) = true := by kernel_rfl
theorem pz_b11 : pzBB 11 = true := by kernel_rfl
theorem pz_b14 : pzBB 14 = true := by kernel_rfl
theorem pz_b15 : pzBB 15 = true := by kernel_rfl
end Go.Proofs.YtlfeoiagemlbiaaGreatDoor
