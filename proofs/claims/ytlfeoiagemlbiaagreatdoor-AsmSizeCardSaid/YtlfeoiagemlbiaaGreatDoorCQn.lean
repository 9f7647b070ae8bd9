/- The reference's numbers: the contract. -/
import Derived.Test.YtlfeoiagemlbiaaGreatDoorCQb
import Derived.Test.YtlfeoiagemlbiaaGreatDoorXs4
set_option linter.unusedVariables false
set_option linter.unusedSectionVars false
set_option linter.unusedSimpArgs false
set_option maxRecDepth 100000
noncomputable section
namespace Go.Proofs.YtlfeoiagemlbiaaGreatDoor
open Go.Den Go.Proofs Go.Extern Go.RowKit
variable [Mqa]
noncomputable def fsNm : Func := Tryz.f98
noncomputable def nmT : Tm := putLT [(0, .sstr (.v 0))]
noncomputable def nmC (e : Nat) : Ctr := ⟨[.sstr (.v 0)], 9 + 1, [], [short (.v 0), (.eq, .app 92 (.v 0) (.n 0) (.n 0), .n (Int.ofNat e), true)], .tuple [.sint .i64 (.app 90 (.v 0) (.n 0) (.n 0)), .sint .i64 (.app 91 (.v 0) (.n 0) (.n 0)), .int .i64 (Int.ofNat e)], [], []⟩
noncomputable def nmS (F : List Fact) : SRes := startS Tryz.prog callq0 fsNm 100000 (stpL [0]) (bodyOf fsNm) (nmC 0) nmT F
def nmP (x : Nat) : UInt8 → Bool := match x with
  | 0 => isDec
  | _ => isHex
def nmBs (x : Nat) : Nat := match x with
  | 0 => 10
  | _ => 16
def nmO (x : Nat) : Nat := match x with
  | 0 => 0
  | _ => 2
noncomputable def nmCan (x : Nat) : Go.Den.Can := ⟨[(0, .sstr (.v 0)), (5, .sint .i64 (.v 1)), (6, .int .i64 (Int.ofNat (nmBs x))), (7, .sint .i64 (.v 2))], [], 9 + 1⟩
/-- how it begins -/
noncomputable def nmB (i : Int) : SE := tByte (.v 0) (.n i)
noncomputable def nmHx (t : SE) : SE := .app 93 t (.n 0) (.n 0)
noncomputable def nmS1 : List Fact := [(.lt, .n 2, tLen (.v 0), true), (.lt, .n 0, tLen (.v 0), true)]
noncomputable def nmS2 : List Fact := nmS1 ++ [(.eq, nmB 0, .n 48, true), (.lt, .n 1, tLen (.v 0), true)]
noncomputable def nmS3 : List Fact := nmS2 ++ [(.eq, nmB 1, .n 120, true)]
noncomputable def nmSt (k : Nat) : List Fact := match k with
  | 0 => [(.lt, .n 2, tLen (.v 0), false)]
  | 1 => nmS1 ++ [(.eq, nmB 0, .n 48, false)]
  | 2 => nmS2 ++ [(.eq, nmB 1, .n 120, false)]
  | 3 => nmS3 ++ [(.le, .n 0, nmHx (nmB 2), false)]
  | _ => nmS3 ++ [(.le, .n 0, nmHx (nmB 2), true)]
def nmX (k : Nat) : Nat := match k with
  | 4 => 1
  | _ => 0
noncomputable def nmLp : La := ⟨0, srB (nmS (nmSt 0)), srK (nmS (nmSt 0)), [nmCan 0, nmCan 1]⟩
noncomputable def nmStB (k : Nat) : Bool := chkStop Tryz.prog 9 [(0, .v 0), (1, .n (Int.ofNat (nmO (nmX k)))), (2, .n 0)] [] (nmCan (nmX k)) 0 (nmS (nmSt k))
theorem nm_stop : (nmStB 0 && nmStB 1 && nmStB 2 && nmStB 3 && nmStB 4 && laB (9 + 1) nmLp) = true := by kernel_rfl
/-! A round. -/
noncomputable def nmRd (x : Nat) (F : List Fact) : SRes := roundA Tryz.prog callq0 fsNm.ntmps 100000 (stpL [0]) 0 nmLp (nmCan x) F
noncomputable def nmBy : SE := tByte (.v 0) (.v 1)
noncomputable def nmH : SE := nmHx nmBy
noncomputable def nmNx : SE := .bin .add .i64 (.v 1) (.n 1)
noncomputable def nmV (x : Nat) : SE := .bin .add .i64 (.bin .mul .i64 (.v 2) (.n (Int.ofNat (nmBs x)))) nmH
noncomputable def nmIn : List Fact := [(.lt, .v 1, tLen (.v 0), true), (.lt, .v 1, .n 0, false)]
noncomputable def nmD (x : Nat) (o : Bool) : List Fact := nmIn ++ [(.le, .n 0, nmH, true), (.lt, nmH, .n (Int.ofNat (nmBs x)), true), (.lt, .n 1099511627776, nmV x, o)]
noncomputable def nmAg (x : Nat) (o : Bool) : Bool := chkAgain Tryz.prog 9 [(0, .v 0), (1, nmNx), (2, bif o then .n 1099511627776 else nmV x)] [] (nmCan x) 0 (nmRd x (nmD x o))
theorem nm_again : (nmAg 0 false && nmAg 0 true && nmAg 1 false && nmAg 1 true) = true := by kernel_rfl
noncomputable def nmNd (e x : Nat) (v : SE) (F : List Fact) : Bool := needsB Tryz.prog 9 fsNm (nmC e) [] (nmRd x F) [.i (.app 90 (.v 0) (.n 0) (.n 0)) (.v 1), .i (.app 91 (.v 0) (.n 0) (.n 0)) v]
noncomputable def nmOv (o : Bool) : List Fact := [(.le, .n 1099511627776, .v 2, o)]
noncomputable def nmE (x : Nat) : Bool := nmNd 14 x (.n 0) ((.lt, .v 1, tLen (.v 0), false) :: nmOv true) && nmNd 0 x (.v 2) ((.lt, .v 1, tLen (.v 0), false) :: nmOv false)
theorem nm_end : (nmE 0 && nmE 1) = true := by kernel_rfl
/-- a byte that is no digit -/
def nmH0 (c : Nat) : Bool := leZ 0 (hexV c)
def nmHB (x c : Nat) : Bool := @Bool.rec (fun _ => Bool) true (leZ (hexV c) (Int.ofNat (nmBs x)) && !(eqZ (hexV c) (Int.ofNat (nmBs x)))) (nmH0 c)
noncomputable def nmF (x c : Nat) : List Fact := nmIn ++ ([(.eq, nmBy, .n (Int.ofNat c), true), (.le, .n 0, nmH, nmH0 c)] ++ (bif nmH0 c then [(.lt, nmH, .n (Int.ofNat (nmBs x)), false)] else []))
noncomputable def nmOut (x c : Nat) : Bool := bif nmP x (UInt8.ofNat c) then true else bif isNum (UInt8.ofNat c) then nmNd 11 x (.n 0) (nmF x c) else nmNd 14 x (.n 0) (nmF x c ++ nmOv true) && nmNd 0 x (.v 2) (nmF x c ++ nmOv false)
theorem nm_out0 : allBytes (nmOut 0) 256 = true := by kernel_rfl
theorem nm_out1 : allBytes (nmOut 1) 256 = true := by kernel_rfl
end Go.Proofs.YtlfeoiagemlbiaaGreatDoor
