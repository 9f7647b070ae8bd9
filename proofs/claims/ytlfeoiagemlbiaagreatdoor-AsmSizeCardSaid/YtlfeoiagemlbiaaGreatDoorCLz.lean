/- How much a line's op takes: the law's contract. -/
import Derived.Test.YtlfeoiagemlbiaaGreatDoorCZc
import Derived.Test.YtlfeoiagemlbiaaGreatDoorCZk
set_option linter.unusedVariables false
set_option linter.unusedSectionVars false
set_option linter.unusedSimpArgs false
set_option maxRecDepth 100000
noncomputable section
namespace Go.Proofs.YtlfeoiagemlbiaaGreatDoor
open Go.Den Go.Proofs Go.Extern Go.RowKit
variable [Msa]
noncomputable def knz : Known := knCons 8 gKa (knCons 9 gPz (knCons 10 gRp (knCons 29 gOa (knCons 30 gNd kn))))
theorem knz_ok : KnownOK Tryz.prog knz := knCons_ok gKa_ok (knCons_ok gPz_ok (knCons_ok gRp_ok (knCons_ok gOa_ok (knCons_ok gNd_ok kn_ok))))
noncomputable def fsSz : Func := Tryz.f3
noncomputable def szC : Ctr := ⟨[.sstr (.v 0)], 9 + 1, baseL, [], .bool true, [], []⟩
noncomputable def szS (F : List Fact) : SRes := startS Tryz.prog (runD Tryz.prog knz 20) fsSz 100000 (stpL []) (bodyOf fsSz) szC nmT F
noncomputable def szOk (F : List Fact) : Bool := needsB Tryz.prog 9 fsSz szC [] (szS F) []
noncomputable def szN : SE := sy 83 (.v 0)
noncomputable def szL : List Fact := [(.lt, .n 200, tLen (.v 0), false)]
/-- what a name is: none that is known; no name; the five that are made of others; one of the machine's -/
noncomputable def szNm (x : Nat) : List Fact := [(.eq, .app 96 szN (.n 0) (.n 0), .n 1, Nat.blt 1 x), (.eq, .app 98 szN (.n 0) (.n 0), .n 1, Nat.beq x 7), (.seq, szN, .lit [], Nat.beq x 1), (.seq, szN, .lit (opNm 67), Nat.beq x 2), (.seq, szN, .lit (opNm 68), Nat.beq x 3), (.seq, szN, .lit (opNm 69), Nat.beq x 4), (.seq, szN, .lit (opNm 70), Nat.beq x 5), (.seq, szN, .lit (opNm 71), Nat.beq x 6)]
noncomputable def szM (d n : Bool) (x : Nat) : List Fact := szL ++ (pzOkF d n ++ szNm x)
noncomputable def szLex (e : Nat) : List Fact := szL ++ [Go.Proofs.YtlfeoiagemlbiaaGreatDoor.short (.v 0), lnErr e]
noncomputable def szBad : List Fact := szL ++ (pzF ++ [(.eq, sy 80 (.v 0), .n 0, false)])
theorem sz_main : allBytes (fun x => szOk (szM false false x) && szOk (szM false true x) && szOk (szM true false x) && szOk (szM true true x)) 8 = true := by kernel_rfl
theorem sz_lex : (szOk (szLex 11) && szOk (szLex 14) && szOk (szLex 15)) = true := by kernel_rfl
theorem sz_bad : szOk szBad = true := by kernel_rfl
theorem sz_len : szOk [(.lt, .n 200, tLen (.v 0), true)] = true := by kernel_rfl
end Go.Proofs.YtlfeoiagemlbiaaGreatDoor
