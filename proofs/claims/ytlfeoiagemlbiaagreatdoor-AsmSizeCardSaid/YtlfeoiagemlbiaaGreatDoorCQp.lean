/- The word that begins a text, as the reference reads it: checks. -/
import Derived.Test.YtlfeoiagemlbiaaGreatDoorCQq
set_option linter.unusedVariables false
set_option linter.unusedSectionVars false
set_option linter.unusedSimpArgs false
set_option maxRecDepth 100000
noncomputable section
namespace Go.Proofs.YtlfeoiagemlbiaaGreatDoor
open Go.Den Go.Proofs Go.Extern Go.RowKit
variable [Mqa]
noncomputable def fsRo : Func := Tryz.f56
noncomputable def ro1 (f : Nat) : SE := .app f (.v 0) (.n 0) (.n 0)
noncomputable def roFs (e : Nat) : List Fact := [(.lt, .n 0, tLen (.v 0), true), short (.v 0), (.eq, ro1 34, .n (Int.ofNat e), true)]
noncomputable def roC (e : Nat) : Ctr := ⟨[.sstr (.v 0)], 9 + 1, [], roFs e, .tuple [.agg [.sint .i64 (ro1 86), .sstr (ro1 87), .sint .i64 (ro1 88), .int .i64 0], .sint .i64 (ro1 89), .int .i64 (Int.ofNat e)], [], []⟩
noncomputable def roS (F : List Fact) : SRes := startS Tryz.prog callq1 fsRo 100000 (stpL [1, 3]) (bodyOf fsRo) (roC 0) nmT F
noncomputable def roL (k t n l : SE) : List Need := [.i (ro1 86) k, .s (ro1 87) t, .i (ro1 88) n, .i (ro1 89) l]
noncomputable def roNd (e : Nat) (r : SRes) (k t n l : SE) : Bool := needsB Tryz.prog 9 fsRo (roC e) [] r (roL k t n l)
noncomputable def roZ (e : Nat) (r : SRes) : Bool := roNd e r (.n 0) (.lit []) (.n 0) (.n 0)
noncomputable def roHl : List (Nat × Blk) := [(9 + 1, .cells 78 4 [] (listT [.int .i64 0, .str [], .int .i64 0, .int .i64 0] 0 .nil) 0)]
noncomputable def roCan : Go.Den.Can := ⟨[(0, .sstr (.v 0)), (2, .ptr (9 + 1) 0), (6, .sint .i64 (.v 1))], roHl, 9 + 2⟩
noncomputable def roF (c : Nat) : List Fact := [(.lt, .n 0, tLen (.v 0), true), (.eq, nmB 0, .n (Int.ofNat c), true)]
/-- a letter -/
noncomputable def roLe (k : Nat) : List Fact := (.lt, .n 0, tLen (.v 0), true) :: (match k with
  | 0 => [(.le, .n 97, nmB 0, true), (.le, nmB 0, .n 122, true)]
  | 1 => [(.le, .n 97, nmB 0, false), (.le, .n 65, nmB 0, true), (.le, nmB 0, .n 90, true)]
  | _ => [(.le, .n 97, nmB 0, false), (.le, .n 65, nmB 0, true), (.le, nmB 0, .n 90, false), (.eq, nmB 0, .n 95, true)])
noncomputable def roLp1 : Lp := ⟨1, srB (roS (roLe 0)), srK (roS (roLe 0)), roCan⟩
noncomputable def roLp3 : Lp := ⟨3, srB (roS (roF 46)), srK (roS (roF 46)), roCan⟩
noncomputable def roSg : List (Nat × SE) := [(0, .v 0), (1, .n 1)]
noncomputable def roSub (n : SE) : SE := tSub (.v 0) (.n 0) n
noncomputable def roX (b : Bool) : List Fact := (.lt, .n 1, tLen (.v 0), b) :: (bif b then [(.le, .n 2, tLen (.v 0), true), (.seq, roSub (.n 2), .lit [60, 60], false), (.seq, roSub (.n 2), .lit [62, 62], false)] else [])
noncomputable def roX6 (c : Nat) : List Fact := [(.lt, .n 1, tLen (.v 0), true), (.le, .n 2, tLen (.v 0), true)] ++ (bif Nat.beq c 60 then [(.seq, roSub (.n 2), .lit [60, 60], true)] else [(.seq, roSub (.n 2), .lit [60, 60], false), (.seq, roSub (.n 2), .lit [62, 62], true)])
noncomputable def roN (e : Nat) : List Fact := [short (.v 0), (.eq, ro1 92, .n (Int.ofNat e), true), (.lt, ro1 90, .n 0, false), (.le, ro1 90, tLen (.v 0), true)]
noncomputable def roQ (b : Bool) : List Fact := [short (.v 0), (.lt, ro1 94, .n 0, b)] ++ (bif b then [] else [(.le, .n 1, .bin .sub .i64 (ro1 94) (.n 1), true), (.le, .bin .sub .i64 (ro1 94) (.n 1), tLen (.v 0), true)])
noncomputable def roQT : SE := tSub (.v 0) (.n 1) (.bin .sub .i64 (ro1 94) (.n 1))
noncomputable def roNum (c e : Nat) : Bool := roNd e (roS (roF c ++ roN e)) (.n 2) (roSub (ro1 90)) (bif Nat.beq e 0 then ro1 91 else ro1 91) (ro1 90)
noncomputable def roB (c : Nat) : Bool := match kindF c with
  | 1 => true
  | 2 => roNum c 0 && roNum c 11 && roNum c 14
  | 3 => chkStop Tryz.prog 9 roSg [(9 + 1, 9 + 1)] roCan 3 (roS (roF c))
  | 4 => roZ 11 (roS (roF c ++ roQ true)) && roNd 0 (roS (roF c ++ roQ false)) (.n 5) roQT (.n 0) (ro1 94)
  | 5 => roNd 0 (roS (roF c ++ (roX false ++ [(.le, .n 1, tLen (.v 0), true)]))) (.n 3) (roSub (.n 1)) (.n 0) (.n 1) && roNd 0 (roS (roF c ++ (roX true ++ [(.le, .n 1, tLen (.v 0), true)]))) (.n 3) (roSub (.n 1)) (.n 0) (.n 1)
  | 6 => roZ 11 (roS (roF c ++ roX false)) && roZ 11 (roS (roF c ++ roX true)) && roNd 0 (roS (roF c ++ roX6 c)) (.n 3) (roSub (.n 2)) (.n 0) (.n 2)
  | _ => roZ 11 (roS (roF c ++ roX false)) && roZ 11 (roS (roF c ++ roX true))
theorem ro_all : allBytes roB 256 = true := by kernel_rfl
noncomputable def roLB (k : Nat) : Bool := chkStop Tryz.prog 9 roSg [(9 + 1, 9 + 1)] roCan 1 (roS (roLe k))
theorem ro_let : (roLB 0 && roLB 1 && roLB 2) = true := by kernel_rfl
theorem ro_lps : (lpB (9 + 1) roLp1 && lpB (9 + 1) roLp3) = true := by kernel_rfl
/-! Rounds. -/
noncomputable def roR1 (F : List Fact) : SRes := roundS Tryz.prog callq1 fsRo.ntmps 100000 (stpL [1, 3]) 0 roLp1 F
noncomputable def roR3 (F : List Fact) : SRes := roundS Tryz.prog callq1 fsRo.ntmps 100000 (stpL [1, 3]) 1 roLp3 F
noncomputable def roIn (c : Nat) : List Fact := [(.lt, .v 1, .n 0, false), (.lt, .v 1, tLen (.v 0), true), (.eq, nmBy, .n (Int.ofNat c), true)]
noncomputable def roEn : List Fact := [(.lt, .v 1, .n 0, false), (.lt, .v 1, tLen (.v 0), false)]
noncomputable def roK (b : Bool) : List Fact := [(.lt, .n 16, .v 1, b), (.le, .v 1, tLen (.v 0), true)]
noncomputable def roO1 (F : List Fact) : Bool := roZ 15 (roR1 (F ++ roK true)) && roNd 0 (roR1 (F ++ roK false)) (.n 1) (roSub (.v 1)) (.n 0) (.v 1)
noncomputable def roY (b : Bool) : List Fact := [(.eq, .v 1, .n 1, b), (.le, .n 1, .v 1, true), (.le, .v 1, tLen (.v 0), true)]
noncomputable def roO3 (F : List Fact) : Bool := roZ 11 (roR3 (F ++ roY true)) && roNd 0 (roR3 (F ++ roY false)) (.n 4) (tSub (.v 0) (.n 1) (.v 1)) (.n 0) (.v 1)
noncomputable def roB1 (c : Nat) : Bool := bif isWord (UInt8.ofNat c) then chkAgain Tryz.prog 9 [(0, .v 0), (1, nmNx)] [(9 + 1, 9 + 1)] roCan 0 (roR1 (roIn c)) else roO1 (roIn c)
noncomputable def roB3 (c : Nat) : Bool := bif isLow (UInt8.ofNat c) then chkAgain Tryz.prog 9 [(0, .v 0), (1, nmNx)] [(9 + 1, 9 + 1)] roCan 1 (roR3 (roIn c)) else roO3 (roIn c)
theorem ro_all1 : allBytes roB1 256 = true := by kernel_rfl
theorem ro_all3 : allBytes roB3 256 = true := by kernel_rfl
theorem ro_end : (roO1 roEn && roO3 roEn) = true := by kernel_rfl
end Go.Proofs.YtlfeoiagemlbiaaGreatDoor
