import Derived.Test.YtlfeoiagemlbiaaGreatDoorCKc
import Derived.Test.YtlfeoiagemlbiaaGreatDoorXs4
/- The word that begins a text. -/
set_option linter.unusedVariables false
set_option linter.unusedSectionVars false
set_option maxRecDepth 100000
noncomputable section
namespace Go.Proofs.YtlfeoiagemlbiaaGreatDoor
open Go.Den Go.Proofs Go.Extern Go.RowKit
variable [Msr]
noncomputable def fs5 : Func := Tryz.f50
noncomputable def sy (f : Nat) (t : SE) : SE := .app f t (.n 0) (.n 0)
noncomputable def wdC (e : Nat) : Ctr := ⟨[.sstr (.v 0)], 9 + 1, baseL, [(.lt, .n 0, tLen (.v 0), true), short (.v 0), (.eq, sy 34 (.v 0), .n (Int.ofNat e), true)],
  .tuple [.agg [.sint .i64 (sy 30 (.v 0)), .sstr (sy 31 (.v 0)), .sint .i64 (sy 32 (.v 0)), .int .i64 0], .sint .i64 (sy 33 (.v 0)), errV e], [], []⟩
noncomputable def wdT : Tm := putLT [(0, .sstr (.v 0))]
noncomputable def wdS (e : Nat) (F : List Fact) : SRes := startS Tryz.prog call3 fs5 100000 (stpL [1, 3]) (bodyOf fs5) (wdC e) wdT F
noncomputable def wdB0 : SE := tByte (.v 0) (.n 0)
noncomputable def wdF (k : Nat) : List Fact := [(.lt, .n 0, tLen (.v 0), true), short (.v 0), (.eq, sy 13 wdB0, .n (Int.ofNat k), true)]
noncomputable def wdL (k t n l : SE) : List Need := [.i (sy 30 (.v 0)) k, .s (sy 31 (.v 0)) t, .i (sy 32 (.v 0)) n, .i (sy 33 (.v 0)) l]
noncomputable def wdN (e : Nat) (F : List Fact) (k t n l : SE) : Bool := needsB Tryz.prog 9 fs5 (wdC e) [] (wdS e F) (wdL k t n l)
noncomputable def wdZ : List Need := wdL (.n 0) (.lit []) (.n 0) (.n 0)
noncomputable def wdSub (n : SE) : SE := tSub (.v 0) (.n 0) n
noncomputable def wdW : SE := sy 15 (.v 0)
noncomputable def wdU : SE := sy 16 (.v 0)
-- begins with a letter
noncomputable def wd1a : List Fact := wdF 1 ++ [(.lt, .n 16, wdW, true)]
noncomputable def wd1b : List Fact := wdF 1 ++ [(.lt, .n 16, wdW, false), (.lt, wdW, .n 0, false), (.le, wdW, tLen (.v 0), true)]
theorem c1a : wdN 15 wd1a (.n 0) (.lit []) (.n 0) (.n 0) = true := by kernel_rfl
theorem c1b : wdN 0 wd1b (.n 1) (wdSub wdW) (.n 0) wdW = true := by kernel_rfl
-- with a digit
noncomputable def wd2 (e : Nat) : List Fact := wdF 2 ++ [(.lt, wdU, .n 0, false), (.le, wdU, tLen (.v 0), true), short (wdSub wdU), asciiF (wdSub wdU), (.eq, sy 29 (wdSub wdU), .n (Int.ofNat e), true)]
theorem c2a : wdN 0 (wd2 0) (.n 2) (wdSub wdU) (sy 28 (wdSub wdU)) wdU = true := by kernel_rfl
theorem c2b : wdN 11 (wd2 11) (.n 2) (wdSub wdU) (.n 0) wdU = true := by kernel_rfl
theorem c2c : wdN 14 (wd2 14) (.n 2) (wdSub wdU) (.n 0) wdU = true := by kernel_rfl
-- with a sign
noncomputable def wd5 : List Fact := wdF 5 ++ [(.le, .n 1, tLen (.v 0), true)]
theorem c5 : wdN 0 wd5 (.n 3) (wdSub (.n 1)) (.n 0) (.n 1) = true := by kernel_rfl
noncomputable def wd6a : List Fact := wdF 6 ++ [(.lt, tLen (.v 0), .n 2, true)]
noncomputable def wd6 (b : Bool) : List Fact := wdF 6 ++ [(.lt, tLen (.v 0), .n 2, false), (.lt, .n 1, tLen (.v 0), true), (.eq, tByte (.v 0) (.n 1), wdB0, b), (.le, .n 2, tLen (.v 0), true)]
theorem c6a : wdN 11 wd6a (.n 0) (.lit []) (.n 0) (.n 0) = true := by kernel_rfl
theorem c6b : wdN 0 (wd6 true) (.n 3) (wdSub (.n 2)) (.n 0) (.n 2) = true := by kernel_rfl
theorem c6c : wdN 11 (wd6 false) (.n 0) (.lit []) (.n 0) (.n 0) = true := by kernel_rfl
-- with none of these
theorem c0 : wdN 11 (wdF 0) (.n 0) (.lit []) (.n 0) (.n 0) = true := by kernel_rfl
theorem c7 : wdN 11 (wdF 7) (.n 0) (.lit []) (.n 0) (.n 0) = true := by kernel_rfl
theorem c8 : wdN 11 (wdF 8) (.n 0) (.lit []) (.n 0) (.n 0) = true := by kernel_rfl
-- the loops
noncomputable def tokZ : Blk := (OB.cells 72 [.int .i64 0, .str [], .int .i64 0, .int .i64 0] 0).blk
noncomputable def wdCan (sl : Nat) : Go.Den.Can := ⟨[(0, .sstr (.v 0)), (2, .ptr (9 + 1) 0), (3, .int .i64 0), (4, .nilIface), (sl, .sint .i64 (.v 1))], (9 + 1, tokZ) :: baseL, 9 + 2⟩
noncomputable def lp3 : Lp := ⟨1, srB (wdS 0 (wdF 3)), srK (wdS 0 (wdF 3)), wdCan 9⟩
noncomputable def lp4 : Lp := ⟨3, srB (wdS 0 (wdF 4)), srK (wdS 0 (wdF 4)), wdCan 10⟩
theorem s3 : chkStop Tryz.prog 9 [(0, .v 0), (1, .n 1)] [] lp3.can 1 (wdS 0 (wdF 3)) = true := by kernel_rfl
theorem s4 : chkStop Tryz.prog 9 [(0, .v 0), (1, .n 1)] [] lp4.can 3 (wdS 0 (wdF 4)) = true := by kernel_rfl
theorem wd_lps : ([lp3, lp4].all (lpB (9 + 1))) = true := by kernel_rfl
noncomputable def wr3 (F : List Fact) : SRes := roundS Tryz.prog call3 fs5.ntmps 100000 (stpL [1, 3]) 0 lp3 F
noncomputable def wr4 (F : List Fact) : SRes := roundS Tryz.prog call3 fs5.ntmps 100000 (stpL [1, 3]) 1 lp4 F
noncomputable def wrB (b : Nat) : List Fact := [(.lt, .v 1, .n 0, false), (.lt, .v 1, tLen (.v 0), true), (.eq, tByte (.v 0) (.v 1), .n (Int.ofNat b), true)]
noncomputable def wrE : List Fact := [(.lt, .v 1, .n 0, false), (.lt, .v 1, tLen (.v 0), false)]
noncomputable def wr3X (b : Bool) : List Fact := [(.eq, .v 1, .n 1, b), (.le, .n 1, .v 1, true), (.le, .v 1, tLen (.v 0), true)]
noncomputable def wr4X : List Fact := [(.eq, .v 1, tLen (.v 0), false), (.le, .n 1, .v 1, true), (.le, .v 1, tLen (.v 0), true)]
noncomputable def wdText : SE := tSub (.v 0) (.n 1) (.v 1)
noncomputable def wdNext : SE := .bin .add .i64 (.v 1) (.n 1)
noncomputable def nB (e : Nat) (r : SRes) (k t n l : SE) : Bool := needsB Tryz.prog 9 fs5 (wdC e) [] r (wdL k t n l)
noncomputable def wr3Out (e : Nat) (F : List Fact) : Bool := nB 11 (wr3 (F ++ wr3X true)) (.n 0) (.lit []) (.n 0) (.n 0) && nB 0 (wr3 (F ++ wr3X false)) (.n 4) wdText (.n 0) (.v 1)
noncomputable def wr3Chk (b : Nat) : Bool := bif isLow (UInt8.ofNat b) then chkAgain Tryz.prog 9 [(0, .v 0), (1, wdNext)] [] lp3.can 0 (wr3 (wrB b)) else wr3Out 0 (wrB b)
noncomputable def wr4Chk (b : Nat) : Bool := bif isText (UInt8.ofNat b) then chkAgain Tryz.prog 9 [(0, .v 0), (1, wdNext)] [] lp4.can 1 (wr4 (wrB b))
  else bif Nat.beq b 34 then nB 0 (wr4 (wrB b ++ wr4X)) (.n 5) wdText (.n 0) wdNext else nB 11 (wr4 (wrB b ++ wr4X)) (.n 0) (.lit []) (.n 0) (.n 0)
theorem w3_ok : allBytes wr3Chk 256 = true := by kernel_rfl
theorem w4_ok : allBytes wr4Chk 256 = true := by kernel_rfl
theorem w3_end : wr3Out 0 wrE = true := by kernel_rfl
theorem w4_end : nB 11 (wr4 (wrE ++ [(.eq, .v 1, tLen (.v 0), true)])) (.n 0) (.lit []) (.n 0) (.n 0) = true := by kernel_rfl
end Go.Proofs.YtlfeoiagemlbiaaGreatDoor

/- The word that begins a text: its contracts. -/
set_option linter.unusedVariables false
set_option linter.unusedSectionVars false
set_option maxRecDepth 100000
noncomputable section
namespace Go.Proofs.YtlfeoiagemlbiaaGreatDoor
open Go.Den Go.Proofs Go.Extern Go.RowKit
variable [Msr]
noncomputable def wdI (i : Nat) (ρ0 ρ : Rho) (n : Nat) : Prop := ∃ (c : UInt8) (r : List UInt8) (j : Nat), ρ 0 = ρ0 0 ∧ (ρ0 0).s = c :: r ∧ (ρ 1).i = (j : Int) + 1 ∧ n = r.length - j ∧ r.length < 999999 ∧ kindF c.toNat = i + 3 ∧ (i = 0 → j ≤ tw isLow r) ∧ (i = 1 → j ≤ tw isText r) ∧ i ≤ 1
theorem wdS_eq (e : Nat) (F : List Fact) : wdS e F = wdS 0 F := rfl
theorem wd_fin {e : Nat} {ρ0 ρ : Rho} {cur : Option (Nat × Nat)} {r : SRes} {k t n l : SE} (h : needsB Tryz.prog 9 fs5 (wdC e) [] r (wdL k t n l) = true) {W : Wd} (hW : wordF (ρ0 0).s = W)
    (h1 : (W.kind : Int) = k.den ρ) (h2 : W.text = t.str ρ) (h3 : (W.n : Int) = n.den ρ) (h4 : (W.len : Int) = l.den ρ) : OutP Tryz.prog 9 fs5 (wdC e) [lp3, lp4] wdI ρ0 ρ cur r := by
  refine .fin [] _ (needsB_ok h) fun x hx => ?_
  simp only [wdL, List.mem_cons, List.mem_nil_iff, or_false] at hx
  rcases hx with rfl | rfl | rfl | rfl
  · show (((wordF (ρ0 0).s).kind : Nat) : Int) = k.den ρ; rw [hW]; exact h1
  · show (wordF (ρ0 0).s).text = t.str ρ; rw [hW]; exact h2
  · show (((wordF (ρ0 0).s).n : Nat) : Int) = n.den ρ; rw [hW]; exact h3
  · show (((wordF (ρ0 0).s).len : Nat) : Int) = l.den ρ; rw [hW]; exact h4
theorem cond_le {b : Bool} {x y n : Nat} (hx : x ≤ n) (hy : y ≤ n) : (bif b then x else y) ≤ n := by cases b <;> assumption
theorem kindF_le (c : Nat) : kindF c ≤ 8 := cond_le (by decide) (cond_le (by decide) (cond_le (by decide) (cond_le (by decide) (cond_le (by decide) (cond_le (by decide) (cond_le (by decide) (cond_le (by decide) (by decide))))))))
theorem wd_start (e : Nat) (ρ : Rho) (hF : ∀ x ∈ (wdC e).facts, x.holds ρ) : ∃ F : List Fact, (∀ x ∈ F, x.holds ρ) ∧ OutP Tryz.prog 9 fs5 (wdC e) [lp3, lp4] wdI ρ ρ none (wdS e F) := by
  have h1 := hF _ (List.mem_cons_self)
  have h2 := hF _ (List.mem_cons_of_mem _ (List.mem_cons_self))
  have h3 : ((((wordF (ρ 0).s).err : Nat) : Int) == (e : Int)) = true := hF _ (List.mem_cons_of_mem _ (List.mem_cons_of_mem _ (List.mem_cons_self)))
  have he : (wordF (ρ 0).s).err = e := by have := eq_of_beq h3; omega
  have hsh := short_of h2
  have hpos : (0 : Int) < ((ρ 0).s.length : Int) := by
    have h : decide ((0 : Int) < ((ρ 0).s.length : Int)) = true := h1
    simpa using h
  have hlen : (tLen (.v 0)).den ρ = ((ρ 0).s.length : Int) := rfl
  cases hs : (ρ 0).s with
  | nil => rw [hs] at hpos; simp at hpos
  | cons c r =>
    have hb0 : wdB0.den ρ = (c.toNat : Int) := by
      show ((((ρ 0).s[(0 : Int).toNat]?).getD 0).toNat : Int) = _
      rw [hs]; rfl
    have hk : ∀ k, kindF c.toNat = k → ∀ x ∈ wdF k, x.holds ρ := fun k hk => fl_cons h1 (fl_cons h2 (fl_cons (eqF_ok (by
      show ((kindF (wdB0.den ρ).toNat : Nat) : Int) = _
      rw [hb0, Int.toNat_natCast, hk]; rfl)) fl_nil))
    have hsub : ∀ t : SE, (wdSub t).str ρ = (ρ 0).s.take (t.den ρ).toNat := fun t => by
      show ((ρ 0).s.take (t.den ρ).toNat).drop (0 : Int).toNat = _
      simp
    have hW : wordF (ρ 0).s = wordF (c :: r) := by rw [hs]
    rw [hW] at he
    have hl2 : (c :: r).length < 1000000 := by rw [← hs]; omega
    have hlc : (tLen (.v 0)).den ρ = ((r.length + 1 : Nat) : Int) := by rw [hlen, hs]; simp
    have hle := kindF_le c.toNat
    generalize hkk : kindF c.toNat = k at *
    have hkf := hk k rfl
    match k, hkk, hkf, hle with
    | 0, hkk, hkf, _ =>
      have hw : wordF (c :: r) = ⟨0, [], 0, 0, 11⟩ := by unfold wordF; simp only [hkk]
      rw [hw] at he; have he' : 11 = e := he; subst he'
      exact ⟨_, hkf, wd_fin c0 (hW.trans hw) rfl rfl rfl rfl⟩
    | 7, hkk, hkf, _ =>
      have hw : wordF (c :: r) = ⟨0, [], 0, 0, 11⟩ := by unfold wordF; simp only [hkk]
      rw [hw] at he; have he' : 11 = e := he; subst he'
      exact ⟨_, hkf, wd_fin c7 (hW.trans hw) rfl rfl rfl rfl⟩
    | 8, hkk, hkf, _ =>
      have hw : wordF (c :: r) = ⟨0, [], 0, 0, 11⟩ := by unfold wordF; simp only [hkk]
      rw [hw] at he; have he' : 11 = e := he; subst he'
      exact ⟨_, hkf, wd_fin c8 (hW.trans hw) rfl rfl rfl rfl⟩
    | 1, hkk, hkf, _ =>
      have hwd : wdW.den ρ = (tw isWord (c :: r) : Int) := by show ((tw isWord (ρ 0).s : Nat) : Int) = _; rw [hs]
      by_cases h16 : tw isWord (c :: r) ≤ 16
      · have hw : wordF (c :: r) = ⟨1, (c :: r).take (tw isWord (c :: r)), 0, tw isWord (c :: r), 0⟩ := by unfold wordF; simp only [hkk, Nat.ble_eq_true_of_le h16, cond_true]
        rw [hw] at he; have he' : 0 = e := he; subst he'
        have htl := tw_le (p := isWord) (c :: r)
        refine ⟨_, fl_app hkf (fl_cons (ltN (by rw [hwd, den_n]; omega)) (fl_cons (ltN (by rw [hwd, den_n]; omega)) (fl_cons (leT (by rw [hwd, hlc]; simp at htl; omega)) fl_nil))), wd_fin c1b (hW.trans hw) rfl ?_ rfl ?_⟩
        · rw [hsub, hwd, hs]; simp
        · rw [hwd]
      · have hw : wordF (c :: r) = ⟨0, [], 0, 0, 15⟩ := by
          unfold wordF
          have : Nat.ble (tw isWord (c :: r)) 16 = false := by
            cases hx : Nat.ble (tw isWord (c :: r)) 16 with
            | false => rfl
            | true => exact absurd (Nat.le_of_ble_eq_true hx) h16
          simp only [hkk, this, cond_false]
        rw [hw] at he; have he' : 15 = e := he; subst he'
        exact ⟨_, fl_app hkf (fl_cons (ltT (by rw [hwd, den_n]; omega)) fl_nil), wd_fin c1a (hW.trans hw) rfl rfl rfl rfl⟩
    | 2, hkk, hkf, _ =>
      have hwd : wdU.den ρ = (tw isNum (c :: r) : Int) := by show ((tw isNum (ρ 0).s : Nat) : Int) = _; rw [hs]
      have hst : (wdSub wdU).str ρ = (c :: r).take (tw isNum (c :: r)) := by rw [hsub, hwd, hs]; simp
      have htl := tw_le (p := isNum) (c :: r)
      have hw : wordF (c :: r) = ⟨2, (c :: r).take (tw isNum (c :: r)), (numF ((c :: r).take (tw isNum (c :: r)))).1, tw isNum (c :: r), (numF ((c :: r).take (tw isNum (c :: r)))).2⟩ := by unfold wordF; simp only [hkk]
      rw [hw] at he
      have he' : (numF ((c :: r).take (tw isNum (c :: r)))).2 = e := he
      have hasc : ascii ((c :: r).take (tw isNum (c :: r))) = true := isNum_ascii _
      have hfs : ∀ x ∈ wd2 e, x.holds ρ := fl_app hkf (fl_cons (ltN (by rw [hwd, den_n]; omega)) (fl_cons (leT (by rw [hwd, hlc]; simp at htl; omega)) (fl_cons (ltT (by rw [tLen_den, den_n, hst]; simp; omega)) (fl_cons (asciiF_ok (by rw [hst]; exact hasc)) (fl_cons (eqF_ok (by
        show (((numF ((wdSub wdU).str ρ)).2 : Nat) : Int) = _
        rw [hst, he']; rfl)) fl_nil)))))
      rcases numF_err ((c :: r).take (tw isNum (c :: r))) with ⟨h0, _⟩ | ⟨h0, h00⟩ | ⟨h0, h00⟩
      · rw [h0] at he'; subst he'
        refine ⟨_, hfs, wd_fin c2a (hW.trans hw) rfl hst.symm ?_ ?_⟩
        · show _ = (((numF ((wdSub wdU).str ρ)).1 : Nat) : Int); rw [hst]
        · rw [hwd]
      · rw [h0] at he'; subst he'
        exact ⟨_, hfs, wd_fin c2b (hW.trans hw) rfl hst.symm (by show (((numF _).1 : Nat) : Int) = 0; rw [h00]; rfl) (by rw [hwd])⟩
      · rw [h0] at he'; subst he'
        exact ⟨_, hfs, wd_fin c2c (hW.trans hw) rfl hst.symm (by show (((numF _).1 : Nat) : Int) = 0; rw [h00]; rfl) (by rw [hwd])⟩
    | 3, hkk, hkf, _ => exact ⟨_, hkf, .stop 0 lp3 _ [] r.length rfl (fun i m h => by cases h) (by rw [wdS_eq]; rfl) (by rw [wdS_eq]; rfl) (by rw [wdS_eq]; exact s3) rfl ⟨c, r, 0, rfl, hs, rfl, by simp, by simp at hl2; omega, hkk, fun _ => Nat.zero_le _, fun _ => Nat.zero_le _, by omega⟩⟩
    | 4, hkk, hkf, _ => exact ⟨_, hkf, .stop 1 lp4 _ [] r.length rfl (fun i m h => by cases h) (by rw [wdS_eq]; rfl) (by rw [wdS_eq]; rfl) (by rw [wdS_eq]; exact s4) rfl ⟨c, r, 0, rfl, hs, rfl, by simp, by simp at hl2; omega, hkk, fun _ => Nat.zero_le _, fun _ => Nat.zero_le _, by omega⟩⟩
    | 5, hkk, hkf, _ =>
      have hw : wordF (c :: r) = ⟨3, [c], 0, 1, 0⟩ := by unfold wordF; simp only [hkk]
      rw [hw] at he; have he' : 0 = e := he; subst he'
      exact ⟨_, fl_app hkf (fl_cons (leT (by rw [hlc, den_n]; omega)) fl_nil), wd_fin c5 (hW.trans hw) rfl (by rw [hsub, hs]; rfl) rfl rfl⟩
    | 6, hkk, hkf, _ =>
      cases r with
      | nil =>
        have hw : wordF [c] = ⟨0, [], 0, 0, 11⟩ := by unfold wordF; simp only [hkk]; rfl
        rw [hw] at he; have he' : 11 = e := he; subst he'
        exact ⟨_, fl_app hkf (fl_cons (ltT (by rw [hlc, den_n]; simp)) fl_nil), wd_fin c6a (hW.trans hw) rfl rfl rfl rfl⟩
      | cons d r =>
        have hb1 : (tByte (.v 0) (.n 1)).den ρ = (d.toNat : Int) := by
          show ((((ρ 0).s[(1 : Int).toNat]?).getD 0).toNat : Int) = _
          rw [hs]; rfl
        have hfs : ∀ b : Bool, (d == c) = b → ∀ x ∈ wd6 b, x.holds ρ := fun b hb => fl_app hkf (fl_cons (ltN (by rw [hlc, den_n]; simp; omega)) (fl_cons (ltT (by rw [hlc, den_n]; simp; omega)) (fl_cons (by
          show ((tByte (.v 0) (.n 1)).den ρ == wdB0.den ρ) = b
          rw [hb1, hb0, ← hb, int_beq, Bool.eq_iff_iff]
          simp only [beq_iff_eq]
          constructor
          · intro h; exact (UInt8.toNat_inj.1 h).symm
          · intro h; rw [h]) (fl_cons (leT (by rw [hlc, den_n]; simp; omega)) fl_nil))))
        cases hdc : (d == c) with
        | true =>
          have hdc' := eq_of_beq hdc
          have hw : wordF (c :: d :: r) = ⟨3, [c, c], 0, 2, 0⟩ := by unfold wordF; simp only [hkk, List.head?_cons, hdc']; simp
          rw [hw] at he; have he' : 0 = e := he; subst he'
          exact ⟨_, hfs _ hdc, wd_fin c6b (hW.trans hw) rfl (by rw [hsub, hs, hdc']; rfl) rfl rfl⟩
        | false =>
          have hdc' : ¬ d = c := fun h => by subst h; simp at hdc
          have hw : wordF (c :: d :: r) = ⟨0, [], 0, 0, 11⟩ := by unfold wordF; simp only [hkk, List.head?_cons]; show (bif d == c then _ else _) = _; rw [hdc]; rfl
          rw [hw] at he; have he' : 11 = e := he; subst he'
          exact ⟨_, hfs _ hdc, wd_fin c6c (hW.trans hw) rfl rfl rfl rfl⟩
    | k + 9, _, _, h => omega
end Go.Proofs.YtlfeoiagemlbiaaGreatDoor

/- The word that begins a text: its loops; the contract. -/
set_option linter.unusedVariables false
set_option linter.unusedSectionVars false
set_option maxRecDepth 100000
noncomputable section
namespace Go.Proofs.YtlfeoiagemlbiaaGreatDoor
open Go.Den Go.Proofs Go.Extern Go.RowKit
variable [Msr]
theorem wd_loop (e : Nat) (i : Nat) (ρ0 ρ : Rho) (n : Nat) (hF : ∀ x ∈ (wdC e).facts, x.holds ρ0) (hI : wdI i ρ0 ρ n) :
    ∃ F : List Fact, (∀ x ∈ F, x.holds ρ) ∧ OutP Tryz.prog 9 fs5 (wdC e) [lp3, lp4] wdI ρ0 ρ (some (i, n)) (bif Nat.beq i 0 then wr3 F else wr4 F) := by
  obtain ⟨c, r, j, h1, hs, hv, hn, hr, hk, hj0, hj1, hi⟩ := hI
  have h3 : ((((wordF (ρ0 0).s).err : Nat) : Int) == (e : Int)) = true := hF _ (List.mem_cons_of_mem _ (List.mem_cons_of_mem _ (List.mem_cons_self)))
  have he : (wordF (ρ0 0).s).err = e := by have := eq_of_beq h3; omega
  have hW : wordF (ρ0 0).s = wordF (c :: r) := by rw [hs]
  rw [hW] at he
  have hlen : (tLen (.v 0)).den ρ = ((r.length + 1 : Nat) : Int) := by show ((ρ 0).s.length : Int) = _; rw [h1, hs]; simp
  have hv1 : (SE.v 1).den ρ = ((j + 1 : Nat) : Int) := by show (ρ 1).i = _; rw [hv]; simp
  have htext : wdText.str ρ = r.take j := by
    show ((ρ 0).s.take ((SE.v 1).den ρ).toNat).drop (1 : Int).toNat = _
    rw [hv1, h1, hs, Int.toNat_natCast]; simp
  have hnext : j < r.length → wdNext.den ρ = ((j + 1 + 1 : Nat) : Int) := fun _ => by
    show IntKind.i64.wrap ((SE.v 1).den ρ + 1) = _
    rw [hv1, wrap64 (by omega) (by omega)]; simp
  have hbyte : j < r.length → (tByte (.v 0) (.v 1)).den ρ = (((r[j]?).getD 0).toNat : Int) := fun _ => by
    show ((((ρ 0).s[((SE.v 1).den ρ).toNat]?).getD 0).toNat : Int) = _
    rw [hv1, h1, hs, Int.toNat_natCast]; simp
  have hE : ¬ j < r.length → j ≤ r.length → ∀ x ∈ wrE, x.holds ρ := fun _ _ => fl_cons (ltN (by rw [hv1, den_n]; omega)) (fl_cons (ltN (by rw [hv1, hlen]; omega)) fl_nil)
  have hB : j < r.length → ∀ x ∈ wrB ((r[j]?).getD 0).toNat, x.holds ρ := fun h => fl_cons (ltN (by rw [hv1, den_n]; omega)) (fl_cons (ltT (by rw [hv1, hlen]; omega)) (fl_cons (eqF_ok (hbyte h)) fl_nil))
  have hbb : UInt8.ofNat ((r[j]?).getD 0).toNat = (r[j]?).getD 0 := by simp
  have hstep : ∀ lp : Lp, j < r.length → chkAgain Tryz.prog 9 [(0, .v 0), (1, wdNext)] [] lp.can i (bif Nat.beq i 0 then wr3 (wrB ((r[j]?).getD 0).toNat) else wr4 (wrB ((r[j]?).getD 0).toNat)) = true → [lp3, lp4][i]? = some lp → (i = 0 → j + 1 ≤ tw isLow r) → (i = 1 → j + 1 ≤ tw isText r) →
      OutP Tryz.prog 9 fs5 (wdC e) [lp3, lp4] wdI ρ0 ρ (some (i, n)) (bif Nat.beq i 0 then wr3 (wrB ((r[j]?).getD 0).toNat) else wr4 (wrB ((r[j]?).getD 0).toNat)) := fun lp hlt hc hlp a0 a1 =>
    .again i n lp _ [] (r.length - (j + 1)) rfl hlp (by omega) hc rfl ⟨c, r, j + 1, h1, hs, by show wdNext.den ρ = _; rw [hnext hlt]; simp, rfl, hr, hk, a0, a1, hi⟩
  match i, hi, hk, hj0, hj1, hstep with
  | 0, _, hk, hj0, _, hstep =>
    have hj := hj0 rfl
    have hjl := Nat.le_trans hj (tw_le r)
    have out : ∀ F : List Fact, (∀ x ∈ F, x.holds ρ) → wr3Out 0 F = true → tw isLow r = j → ∃ F : List Fact, (∀ x ∈ F, x.holds ρ) ∧ OutP Tryz.prog 9 fs5 (wdC e) [lp3, lp4] wdI ρ0 ρ (some (0, n)) (wr3 F) := by
      intro F hG hO htw
      unfold wr3Out nB at hO
      simp only [Bool.and_eq_true] at hO
      have hX : ∀ b : Bool, (decide (j = 0) = b) → ∀ x ∈ wr3X b, x.holds ρ := fun b hb => fl_cons (by
        show ((SE.v 1).den ρ == 1) = b
        rw [hv1, ← hb, Bool.eq_iff_iff]; simp; omega) (fl_cons (leT (by rw [hv1, den_n]; omega)) (fl_cons (leT (by rw [hv1, hlen]; omega)) fl_nil))
      by_cases hz : j = 0
      · have hw : wordF (c :: r) = ⟨0, [], 0, 0, 11⟩ := by unfold wordF; simp only [hk, htw, hz]; rfl
        rw [hw] at he; have he' : 11 = e := he; subst he'
        exact ⟨_, fl_app hG (hX true (by simpa using hz)), wd_fin hO.1 (hW.trans hw) rfl rfl rfl rfl⟩
      · have hw : wordF (c :: r) = ⟨4, r.take j, 0, j + 1, 0⟩ := by
          unfold wordF
          have : Nat.beq j 0 = false := by cases j with | zero => exact absurd rfl hz | succ j => rfl
          simp only [hk, htw, this, cond_false]
        rw [hw] at he; have he' : 0 = e := he; subst he'
        exact ⟨_, fl_app hG (hX false (by simpa using hz)), wd_fin hO.2 (hW.trans hw) rfl htext.symm rfl hv1.symm⟩
    by_cases hlt : j < r.length
    · have hc := allBytes_ok w3_ok ((r[j]?).getD 0).toNat (UInt8.toNat_lt _)
      unfold wr3Chk at hc
      rw [hbb] at hc
      cases hp : isLow ((r[j]?).getD 0) with
      | true => rw [hp] at hc; exact ⟨_, hB hlt, hstep lp3 hlt hc rfl (fun _ => tw_next hj hlt hp) (fun h => by cases h)⟩
      | false => rw [hp] at hc; exact out _ (hB hlt) hc (tw_stop hj (fun _ => hp) hjl)
    · exact out _ (hE hlt hjl) w3_end (tw_stop hj (fun h => absurd h hlt) hjl)
  | 1, _, hk, _, hj1, hstep =>
    have hj := hj1 rfl
    have hjl := Nat.le_trans hj (tw_le r)
    by_cases hlt : j < r.length
    · have hc := allBytes_ok w4_ok ((r[j]?).getD 0).toNat (UInt8.toNat_lt _)
      unfold wr4Chk at hc
      rw [hbb] at hc
      cases hp : isText ((r[j]?).getD 0) with
      | true => rw [hp] at hc; exact ⟨_, hB hlt, hstep lp4 hlt hc rfl (fun h => by cases h) (fun _ => tw_next hj hlt hp)⟩
      | false =>
        rw [hp] at hc
        have htw := tw_stop hj (fun _ => hp) hjl
        have hX : ∀ x ∈ wrB ((r[j]?).getD 0).toNat ++ wr4X, x.holds ρ := fl_app (hB hlt) (fl_cons (by
          show ((SE.v 1).den ρ == (tLen (.v 0)).den ρ) = false
          rw [hv1, hlen, beq_eq_false_iff_ne]; omega) (fl_cons (leT (by rw [hv1, den_n]; omega)) (fl_cons (leT (by rw [hv1, hlen]; omega)) fl_nil)))
        have hhead : (r.drop j).head? = some ((r[j]?).getD 0) := by rw [List.head?_drop, List.getElem?_eq_getElem hlt]; rfl
        simp only [cond_false] at hc
        cases hq : Nat.beq ((r[j]?).getD 0).toNat 34 with
        | true =>
          rw [hq] at hc
          have hq' : (r[j]?).getD 0 = 34 := UInt8.toNat_inj.1 (Nat.eq_of_beq_eq_true hq)
          have hw : wordF (c :: r) = ⟨5, r.take j, 0, j + 2, 0⟩ := by unfold wordF; simp only [hk, htw, hhead, hq']; rfl
          rw [hw] at he; have he' : 0 = e := he; subst he'
          exact ⟨_, hX, wd_fin hc (hW.trans hw) rfl htext.symm rfl (hnext hlt).symm⟩
        | false =>
          rw [hq] at hc
          have hq' : (r[j]?).getD 0 ≠ 34 := fun h => by rw [h] at hq; exact absurd hq (by decide)
          have hw : wordF (c :: r) = ⟨0, [], 0, 0, 11⟩ := by
            unfold wordF
            have : (some ((r[j]?).getD 0) == some 34) = false := by rw [beq_eq_false_iff_ne]; intro h; exact hq' (Option.some.inj h)
            simp only [hk, htw, hhead, this]; rfl
          rw [hw] at he; have he' : 11 = e := he; subst he'
          exact ⟨_, hX, wd_fin hc (hW.trans hw) rfl rfl rfl rfl⟩
    · have htw := tw_stop hj (fun h => absurd h hlt) hjl
      have hje : j = r.length := by omega
      have hw : wordF (c :: r) = ⟨0, [], 0, 0, 11⟩ := by unfold wordF; simp only [hk, htw, hje, List.drop_length]; rfl
      rw [hw] at he; have he' : 11 = e := he; subst he'
      exact ⟨_, fl_app (hE hlt hjl) (fl_cons (by
        show ((SE.v 1).den ρ == (tLen (.v 0)).den ρ) = true
        rw [hv1, hlen, hje]; simp) fl_nil), wd_fin w4_end (hW.trans hw) rfl rfl rfl rfl⟩
  | i + 2, h, _, _, _, _ => omega
theorem wd_ctr (e : Nat) (ht : enterD (wdC e).args fs5.ntmps 0 .nil = some wdT) : CtrOK Tryz.prog 50 (wdC e) := by
  refine ctr_loops (loops := [lp3, lp4]) (inv := wdI) (fuel := 100000) (stp := stpL [1, 3]) gsz mixed (runD_ok static kn3_ok 20) Tryz.func50 (by kernel_rfl) (show fs5.body = some (bodyOf fs5) by kernel_rfl) (by kernel_rfl) ht wd_lps (fun ρ hF => wd_start e ρ hF) ?_
  intro i lp hlp ρ0 ρ n hF hI
  have := wd_loop e i ρ0 ρ n hF hI
  match i, hlp with
  | 0, hlp => simp at hlp; subst hlp; exact this
  | 1, hlp => simp at hlp; subst hlp; exact this
  | i + 2, hlp => simp at hlp
noncomputable def gWd : Gn := gC Tryz.prog 9 (wdC 0) [wdC 11, wdC 14, wdC 15]
theorem gWd_ok : GoodAt Tryz.prog 50 gWd := good_C gsz (by kernel_rfl) (fun x hx => by
  simp only [List.mem_cons, List.mem_nil_iff, or_false] at hx
  rcases hx with rfl | rfl | rfl | rfl
  · exact wd_ctr 0 (by kernel_rfl)
  · exact wd_ctr 11 (by kernel_rfl)
  · exact wd_ctr 14 (by kernel_rfl)
  · exact wd_ctr 15 (by kernel_rfl))
end Go.Proofs.YtlfeoiagemlbiaaGreatDoor
