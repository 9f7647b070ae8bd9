/- The words of a line: checks. -/
import Derived.Test.YtcncmfefcbdnoaaDoorCWf
import Derived.Test.YtcncmfefcbdnoaaDoorXs4
set_option linter.unusedVariables false
set_option linter.unusedSectionVars false
set_option maxRecDepth 100000
noncomputable section
namespace Go.Proofs.YtcncmfefcbdnoaaDoor
open Go.Den Go.Proofs Go.Extern Go.RowKit
variable [Msr]
noncomputable def kn4 : Known := knCons 27 (gRun Tryd.prog kn3 20 27 gWd) kn3
theorem kn4_ok : KnownOK Tryd.prog kn4 := knCons_ok (good_runC static kn3_ok 20 gWd_ok) kn3_ok
noncomputable def call4 : CallFn := runD Tryd.prog kn4 20
noncomputable def fs6 : Func := Tryd.f14
noncomputable def tokFs : List Go.Den.Form := [.int .i64 0, .str 1, .int .i64 2, .int .i64 3]
noncomputable def lnR : SE := sy 35 (.v 0)
noncomputable def lnErr (e : Nat) : Fact := (.eq, sy 36 (.v 0), .n (Int.ofNat e), true)
noncomputable def lnNil : Ctr := ⟨[.sstr (.v 0)], 9 + 1, baseL, [short (.v 0), lnErr 0, (.eq, tRows lnR, .n 0, true)], .tuple [.nilSlice, .nilIface], [], []⟩
noncomputable def lnOk : Ctr := ⟨[.sstr (.v 0)], 9 + 1, baseL, [short (.v 0), lnErr 0, (.eq, tRows lnR, .n 0, false)], .tuple [.sslice (9 + 1) 4 (.n 0) (tRows lnR) (.n 9223372036854775808), .nilIface], [], [.rows 61 4 tokFs lnR 1]⟩
noncomputable def lnBad (e : Nat) : Ctr := ⟨[.sstr (.v 0)], 9 + 1, baseL, [short (.v 0), lnErr e], .tuple [.nilSlice, .iface 73 (.ptr (9 + 1) 0)], [], [.cells 75 [.str [99, 111, 108], .sint .i64 (sy 37 (.v 0)), .iface 59 (.int .i64 (Int.ofNat e))] 0]⟩
noncomputable def lnS (F : List Fact) : SRes := startS Tryd.prog call4 fs6 100000 (stpL [0]) (bodyOf fs6) lnNil wdT F
noncomputable def lnCan0 : Go.Den.Can := ⟨[(0, .sstr (.v 0)), (4, .nilSlice), (5, .sint .i64 (.v 1))], baseL, 9 + 1⟩
noncomputable def lnCan1 : Go.Den.Can := ⟨[(0, .sstr (.v 0)), (4, .sslice (9 + 1) 4 (.n 0) (tRows (.v 2)) (.n 9223372036854775808)), (5, .sint .i64 (.v 1))], (9 + 1, .rows 61 4 tokFs (.v 2) 1) :: baseL, 9 + 2⟩
noncomputable def lnLp : La := ⟨0, srB (lnS []), srK (lnS []), [lnCan0, lnCan1]⟩
theorem ln_stop : chkStop Tryd.prog 9 [(0, .v 0), (1, .n 0), (2, tRowN)] [] lnCan0 0 (lnS []) = true := by kernel_rfl
theorem ln_lps : ([lnLp].all (laB (9 + 1))) = true := by kernel_rfl
noncomputable def lnTail : SE := tSub (.v 0) (.v 1) (tLen (.v 0))
noncomputable def lnAt : SE := .bin .add .i64 (.v 1) (sy 14 lnTail)
noncomputable def lnRest : SE := tSub (.v 0) lnAt (tLen (.v 0))
noncomputable def lnKind : SE := sy 13 (tByte (.v 0) lnAt)
noncomputable def lnNext : SE := .bin .add .i64 lnAt (sy 33 lnRest)
noncomputable def lnRow : SE := tRow (tRow (tRow (tRow tRow0 (sy 30 lnRest)) (sy 31 lnRest)) (sy 32 lnRest)) lnAt
noncomputable def lnF0 : List Fact := [short lnTail, (.lt, .v 1, .n 0, false), (.le, .v 1, tLen (.v 0), true)]
/-- the text's end; a remark; a word -/
noncomputable def lnEnd : List Fact := lnF0 ++ [(.eq, lnAt, tLen (.v 0), true)]
noncomputable def lnF1 : List Fact := lnF0 ++ [(.eq, lnAt, tLen (.v 0), false), (.lt, lnAt, .n 0, false), (.lt, lnAt, tLen (.v 0), true)]
noncomputable def lnRem : List Fact := lnF1 ++ [(.eq, lnKind, .n 7, true)]
noncomputable def lnF2 : List Fact := lnF1 ++ [(.eq, lnKind, .n 7, false), (.le, lnAt, tLen (.v 0), true), (.lt, .n 0, tLen lnRest, true), short lnRest]
noncomputable def lnWd (e : Nat) : List Fact := lnF2 ++ [(.eq, sy 34 lnRest, .n (Int.ofNat e), true), (.lt, tRows (.v 2), .n 1000000, true)]
noncomputable def lnRd (x : Nat) (F : List Fact) : SRes := roundA Tryd.prog call4 fs6.ntmps 100000 (stpL [0]) 0 lnLp (match x with | 0 => lnCan0 | _ => lnCan1) F
noncomputable def lnNd (c : Ctr) (rn : List (Nat × Nat)) (r : SRes) (L : List Need) : Bool := needsB Tryd.prog 9 fs6 c rn r L
theorem ln0_end : lnNd lnNil [] (lnRd 0 lnEnd) [] = true := by kernel_rfl
theorem ln0_rem : lnNd lnNil [] (lnRd 0 lnRem) [] = true := by kernel_rfl
noncomputable def lnOkL : List Need := [.i (.n 0) (.n 0), .i (tRows lnR) (tRows (.v 2)), .i (.n 9223372036854775808) (.n 9223372036854775808), .r lnR (.v 2)]
theorem ln1_end : lnNd lnOk [] (lnRd 1 lnEnd) lnOkL = true := by kernel_rfl
theorem ln1_rem : lnNd lnOk [] (lnRd 1 lnRem) lnOkL = true := by kernel_rfl
noncomputable def lnBadB (e : Nat) : Bool := lnNd (lnBad e) [(9 + 1, 9 + 3)] (lnRd 0 (lnWd e)) [.i (sy 37 (.v 0)) lnAt] && lnNd (lnBad e) [(9 + 1, 9 + 4)] (lnRd 1 (lnWd e)) [.i (sy 37 (.v 0)) lnAt]
theorem ln_b11 : lnBadB 11 = true := by kernel_rfl
theorem ln_b14 : lnBadB 14 = true := by kernel_rfl
theorem ln_b15 : lnBadB 15 = true := by kernel_rfl
theorem ln1_again : chkAgain Tryd.prog 9 [(0, .v 0), (1, lnNext), (2, tCatR (.v 2) lnRow)] [(9 + 1, 9 + 5)] lnCan1 0 (lnRd 1 (lnWd 0)) = true := by kernel_rfl
theorem ln0_again : chkAgain Tryd.prog 9 [(0, .v 0), (1, lnNext), (2, tCatR tRowN lnRow)] [(9 + 1, 9 + 4)] lnCan1 0 (lnRd 0 (lnWd 0)) = true := by kernel_rfl
end Go.Proofs.YtcncmfefcbdnoaaDoor
