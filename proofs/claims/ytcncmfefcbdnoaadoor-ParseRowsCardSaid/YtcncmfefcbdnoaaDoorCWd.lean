/- The word that begins a text. -/
import Derived.Test.YtcncmfefcbdnoaaDoorCKc
import Derived.Test.YtcncmfefcbdnoaaDoorXs4
set_option linter.unusedVariables false
set_option linter.unusedSectionVars false
set_option maxRecDepth 100000
noncomputable section
namespace Go.Proofs.YtcncmfefcbdnoaaDoor
open Go.Den Go.Proofs Go.Extern Go.RowKit
variable [Msr]
noncomputable def fs5 : Func := Tryd.f27
noncomputable def sy (f : Nat) (t : SE) : SE := .app f t (.n 0) (.n 0)
noncomputable def wdC (e : Nat) : Ctr := ⟨[.sstr (.v 0)], 9 + 1, baseL, [(.lt, .n 0, tLen (.v 0), true), short (.v 0), (.eq, sy 34 (.v 0), .n (Int.ofNat e), true)],
  .tuple [.agg [.sint .i64 (sy 30 (.v 0)), .sstr (sy 31 (.v 0)), .sint .i64 (sy 32 (.v 0)), .int .i64 0], .sint .i64 (sy 33 (.v 0)), errV e], [], []⟩
noncomputable def wdT : Tm := putLT [(0, .sstr (.v 0))]
noncomputable def wdS (e : Nat) (F : List Fact) : SRes := startS Tryd.prog call3 fs5 100000 (stpL [1, 3]) (bodyOf fs5) (wdC e) wdT F
noncomputable def wdB0 : SE := tByte (.v 0) (.n 0)
noncomputable def wdF (k : Nat) : List Fact := [(.lt, .n 0, tLen (.v 0), true), short (.v 0), (.eq, sy 13 wdB0, .n (Int.ofNat k), true)]
noncomputable def wdL (k t n l : SE) : List Need := [.i (sy 30 (.v 0)) k, .s (sy 31 (.v 0)) t, .i (sy 32 (.v 0)) n, .i (sy 33 (.v 0)) l]
noncomputable def wdN (e : Nat) (F : List Fact) (k t n l : SE) : Bool := needsB Tryd.prog 9 fs5 (wdC e) [] (wdS e F) (wdL k t n l)
noncomputable def wdZ : List Need := wdL (.n 0) (.lit []) (.n 0) (.n 0)
noncomputable def wdSub (n : SE) : SE := tSub (.v 0) (.n 0) n
noncomputable def wdW : SE := sy 15 (.v 0)
noncomputable def wdU : SE := sy 16 (.v 0)
-- begins with a letter
noncomputable def wd1a : List Fact := wdF 1 ++ [(.lt, .n 16, wdW, true)]
noncomputable def wd1b : List Fact := wdF 1 ++ [(.lt, .n 16, wdW, false), (.lt, wdW, .n 0, false), (.le, wdW, tLen (.v 0), true)]
theorem c1a : wdN 15 wd1a (.n 0) (.lit []) (.n 0) (.n 0) = true := by kernel_rfl
theorem c1b : wdN 0 wd1b (.n 1) (wdSub wdW) (.n 0) wdW = true := by kernel_rfl
-- with a digit
noncomputable def wd2 (e : Nat) : List Fact := wdF 2 ++ [(.lt, wdU, .n 0, false), (.le, wdU, tLen (.v 0), true), short (wdSub wdU), asciiF (wdSub wdU), (.eq, sy 29 (wdSub wdU), .n (Int.ofNat e), true)]
theorem c2a : wdN 0 (wd2 0) (.n 2) (wdSub wdU) (sy 28 (wdSub wdU)) wdU = true := by kernel_rfl
theorem c2b : wdN 11 (wd2 11) (.n 2) (wdSub wdU) (.n 0) wdU = true := by kernel_rfl
theorem c2c : wdN 14 (wd2 14) (.n 2) (wdSub wdU) (.n 0) wdU = true := by kernel_rfl
-- with a sign
noncomputable def wd5 : List Fact := wdF 5 ++ [(.le, .n 1, tLen (.v 0), true)]
theorem c5 : wdN 0 wd5 (.n 3) (wdSub (.n 1)) (.n 0) (.n 1) = true := by kernel_rfl
noncomputable def wd6a : List Fact := wdF 6 ++ [(.lt, tLen (.v 0), .n 2, true)]
noncomputable def wd6 (b : Bool) : List Fact := wdF 6 ++ [(.lt, tLen (.v 0), .n 2, false), (.lt, .n 1, tLen (.v 0), true), (.eq, tByte (.v 0) (.n 1), wdB0, b), (.le, .n 2, tLen (.v 0), true)]
theorem c6a : wdN 11 wd6a (.n 0) (.lit []) (.n 0) (.n 0) = true := by kernel_rfl
theorem c6b : wdN 0 (wd6 true) (.n 3) (wdSub (.n 2)) (.n 0) (.n 2) = true := by kernel_rfl
theorem c6c : wdN 11 (wd6 false) (.n 0) (.lit []) (.n 0) (.n 0) = true := by kernel_rfl
-- with none of these
theorem c0 : wdN 11 (wdF 0) (.n 0) (.lit []) (.n 0) (.n 0) = true := by kernel_rfl
theorem c7 : wdN 11 (wdF 7) (.n 0) (.lit []) (.n 0) (.n 0) = true := by kernel_rfl
theorem c8 : wdN 11 (wdF 8) (.n 0) (.lit []) (.n 0) (.n 0) = true := by kernel_rfl
-- the loops
noncomputable def tokZ : Blk := (OB.cells 61 [.int .i64 0, .str [], .int .i64 0, .int .i64 0] 0).blk
noncomputable def wdCan (sl : Nat) : Go.Den.Can := ⟨[(0, .sstr (.v 0)), (2, .ptr (9 + 1) 0), (3, .int .i64 0), (4, .nilIface), (sl, .sint .i64 (.v 1))], (9 + 1, tokZ) :: baseL, 9 + 2⟩
noncomputable def lp3 : Lp := ⟨1, srB (wdS 0 (wdF 3)), srK (wdS 0 (wdF 3)), wdCan 9⟩
noncomputable def lp4 : Lp := ⟨3, srB (wdS 0 (wdF 4)), srK (wdS 0 (wdF 4)), wdCan 10⟩
theorem s3 : chkStop Tryd.prog 9 [(0, .v 0), (1, .n 1)] [] lp3.can 1 (wdS 0 (wdF 3)) = true := by kernel_rfl
theorem s4 : chkStop Tryd.prog 9 [(0, .v 0), (1, .n 1)] [] lp4.can 3 (wdS 0 (wdF 4)) = true := by kernel_rfl
theorem wd_lps : ([lp3, lp4].all (lpB (9 + 1))) = true := by kernel_rfl
noncomputable def wr3 (F : List Fact) : SRes := roundS Tryd.prog call3 fs5.ntmps 100000 (stpL [1, 3]) 0 lp3 F
noncomputable def wr4 (F : List Fact) : SRes := roundS Tryd.prog call3 fs5.ntmps 100000 (stpL [1, 3]) 1 lp4 F
noncomputable def wrB (b : Nat) : List Fact := [(.lt, .v 1, .n 0, false), (.lt, .v 1, tLen (.v 0), true), (.eq, tByte (.v 0) (.v 1), .n (Int.ofNat b), true)]
noncomputable def wrE : List Fact := [(.lt, .v 1, .n 0, false), (.lt, .v 1, tLen (.v 0), false)]
noncomputable def wr3X (b : Bool) : List Fact := [(.eq, .v 1, .n 1, b), (.le, .n 1, .v 1, true), (.le, .v 1, tLen (.v 0), true)]
noncomputable def wr4X : List Fact := [(.eq, .v 1, tLen (.v 0), false), (.le, .n 1, .v 1, true), (.le, .v 1, tLen (.v 0), true)]
noncomputable def wdText : SE := tSub (.v 0) (.n 1) (.v 1)
noncomputable def wdNext : SE := .bin .add .i64 (.v 1) (.n 1)
noncomputable def nB (e : Nat) (r : SRes) (k t n l : SE) : Bool := needsB Tryd.prog 9 fs5 (wdC e) [] r (wdL k t n l)
noncomputable def wr3Out (e : Nat) (F : List Fact) : Bool := nB 11 (wr3 (F ++ wr3X true)) (.n 0) (.lit []) (.n 0) (.n 0) && nB 0 (wr3 (F ++ wr3X false)) (.n 4) wdText (.n 0) (.v 1)
noncomputable def wr3Chk (b : Nat) : Bool := bif isLow (UInt8.ofNat b) then chkAgain Tryd.prog 9 [(0, .v 0), (1, wdNext)] [] lp3.can 0 (wr3 (wrB b)) else wr3Out 0 (wrB b)
noncomputable def wr4Chk (b : Nat) : Bool := bif isText (UInt8.ofNat b) then chkAgain Tryd.prog 9 [(0, .v 0), (1, wdNext)] [] lp4.can 1 (wr4 (wrB b))
  else bif Nat.beq b 34 then nB 0 (wr4 (wrB b ++ wr4X)) (.n 5) wdText (.n 0) wdNext else nB 11 (wr4 (wrB b ++ wr4X)) (.n 0) (.lit []) (.n 0) (.n 0)
theorem w3_ok : allBytes wr3Chk 256 = true := by kernel_rfl
theorem w4_ok : allBytes wr4Chk 256 = true := by kernel_rfl
theorem w3_end : wr3Out 0 wrE = true := by kernel_rfl
theorem w4_end : nB 11 (wr4 (wrE ++ [(.eq, .v 1, tLen (.v 0), true)])) (.n 0) (.lit []) (.n 0) (.n 0) = true := by kernel_rfl
end Go.Proofs.YtcncmfefcbdnoaaDoor
