import Derived.Test.YtlfeoiagemlbiaaGreatDoorCWd
import Derived.Test.YtlfeoiagemlbiaaGreatDoorXs4
/- The words of a line: checks. -/
set_option linter.unusedVariables false
set_option linter.unusedSectionVars false
set_option maxRecDepth 100000
noncomputable section
namespace Go.Proofs.YtlfeoiagemlbiaaGreatDoor
open Go.Den Go.Proofs Go.Extern Go.RowKit
variable [Msr]
noncomputable def kn4 : Known := knCons 50 (gRun Tryz.prog kn3 20 50 gWd) kn3
theorem kn4_ok : KnownOK Tryz.prog kn4 := knCons_ok (good_runC static kn3_ok 20 gWd_ok) kn3_ok
noncomputable def call4 : CallFn := runD Tryz.prog kn4 20
noncomputable def fs6 : Func := Tryz.f19
noncomputable def tokFs : List Go.Den.Form := [.int .i64 0, .str 1, .int .i64 2, .int .i64 3]
noncomputable def lnR : SE := sy 35 (.v 0)
noncomputable def lnErr (e : Nat) : Fact := (.eq, sy 36 (.v 0), .n (Int.ofNat e), true)
noncomputable def lnNil : Ctr := ⟨[.sstr (.v 0)], 9 + 1, baseL, [short (.v 0), lnErr 0, (.eq, tRows lnR, .n 0, true)], .tuple [.nilSlice, .nilIface], [], []⟩
noncomputable def lnOk : Ctr := ⟨[.sstr (.v 0)], 9 + 1, baseL, [short (.v 0), lnErr 0, (.eq, tRows lnR, .n 0, false)], .tuple [.sslice (9 + 1) 4 (.n 0) (tRows lnR) (.n 9223372036854775808), .nilIface], [], [.rows 72 4 tokFs lnR 1]⟩
noncomputable def lnBad (e : Nat) : Ctr := ⟨[.sstr (.v 0)], 9 + 1, baseL, [short (.v 0), lnErr e], .tuple [.nilSlice, .iface 114 (.ptr (9 + 1) 0)], [], [.cells 118 [.str [99, 111, 108], .sint .i64 (sy 37 (.v 0)), .iface 70 (.int .i64 (Int.ofNat e))] 0]⟩
noncomputable def lnS (F : List Fact) : SRes := startS Tryz.prog call4 fs6 100000 (stpL [0]) (bodyOf fs6) lnNil wdT F
noncomputable def lnCan0 : Go.Den.Can := ⟨[(0, .sstr (.v 0)), (4, .nilSlice), (5, .sint .i64 (.v 1))], baseL, 9 + 1⟩
noncomputable def lnCan1 : Go.Den.Can := ⟨[(0, .sstr (.v 0)), (4, .sslice (9 + 1) 4 (.n 0) (tRows (.v 2)) (.n 9223372036854775808)), (5, .sint .i64 (.v 1))], (9 + 1, .rows 72 4 tokFs (.v 2) 1) :: baseL, 9 + 2⟩
noncomputable def lnLp : La := ⟨0, srB (lnS []), srK (lnS []), [lnCan0, lnCan1]⟩
theorem ln_stop : chkStop Tryz.prog 9 [(0, .v 0), (1, .n 0), (2, tRowN)] [] lnCan0 0 (lnS []) = true := by kernel_rfl
theorem ln_lps : ([lnLp].all (laB (9 + 1))) = true := by kernel_rfl
noncomputable def lnTail : SE := tSub (.v 0) (.v 1) (tLen (.v 0))
noncomputable def lnAt : SE := .bin .add .i64 (.v 1) (sy 14 lnTail)
noncomputable def lnRest : SE := tSub (.v 0) lnAt (tLen (.v 0))
noncomputable def lnKind : SE := sy 13 (tByte (.v 0) lnAt)
noncomputable def lnNext : SE := .bin .add .i64 lnAt (sy 33 lnRest)
noncomputable def lnRow : SE := tRow (tRow (tRow (tRow tRow0 (sy 30 lnRest)) (sy 31 lnRest)) (sy 32 lnRest)) lnAt
noncomputable def lnF0 : List Fact := [short lnTail, (.lt, .v 1, .n 0, false), (.le, .v 1, tLen (.v 0), true)]
/-- the text's end; a remark; a word -/
noncomputable def lnEnd : List Fact := lnF0 ++ [(.eq, lnAt, tLen (.v 0), true)]
noncomputable def lnF1 : List Fact := lnF0 ++ [(.eq, lnAt, tLen (.v 0), false), (.lt, lnAt, .n 0, false), (.lt, lnAt, tLen (.v 0), true)]
noncomputable def lnRem : List Fact := lnF1 ++ [(.eq, lnKind, .n 7, true)]
noncomputable def lnF2 : List Fact := lnF1 ++ [(.eq, lnKind, .n 7, false), (.le, lnAt, tLen (.v 0), true), (.lt, .n 0, tLen lnRest, true), short lnRest]
noncomputable def lnWd (e : Nat) : List Fact := lnF2 ++ [(.eq, sy 34 lnRest, .n (Int.ofNat e), true), (.lt, tRows (.v 2), .n 1000000, true)]
noncomputable def lnRd (x : Nat) (F : List Fact) : SRes := roundA Tryz.prog call4 fs6.ntmps 100000 (stpL [0]) 0 lnLp (match x with | 0 => lnCan0 | _ => lnCan1) F
noncomputable def lnNd (c : Ctr) (rn : List (Nat × Nat)) (r : SRes) (L : List Need) : Bool := needsB Tryz.prog 9 fs6 c rn r L
theorem ln0_end : lnNd lnNil [] (lnRd 0 lnEnd) [] = true := by kernel_rfl
theorem ln0_rem : lnNd lnNil [] (lnRd 0 lnRem) [] = true := by kernel_rfl
noncomputable def lnOkL : List Need := [.i (.n 0) (.n 0), .i (tRows lnR) (tRows (.v 2)), .i (.n 9223372036854775808) (.n 9223372036854775808), .r lnR (.v 2)]
theorem ln1_end : lnNd lnOk [] (lnRd 1 lnEnd) lnOkL = true := by kernel_rfl
theorem ln1_rem : lnNd lnOk [] (lnRd 1 lnRem) lnOkL = true := by kernel_rfl
noncomputable def lnBadB (e : Nat) : Bool := lnNd (lnBad e) [(9 + 1, 9 + 3)] (lnRd 0 (lnWd e)) [.i (sy 37 (.v 0)) lnAt] && lnNd (lnBad e) [(9 + 1, 9 + 4)] (lnRd 1 (lnWd e)) [.i (sy 37 (.v 0)) lnAt]
theorem ln_b11 : lnBadB 11 = true := by kernel_rfl
theorem ln_b14 : lnBadB 14 = true := by kernel_rfl
theorem ln_b15 : lnBadB 15 = true := by kernel_rfl
theorem ln1_again : chkAgain Tryz.prog 9 [(0, .v 0), (1, lnNext), (2, tCatR (.v 2) lnRow)] [(9 + 1, 9 + 5)] lnCan1 0 (lnRd 1 (lnWd 0)) = true := by kernel_rfl
theorem ln0_again : chkAgain Tryz.prog 9 [(0, .v 0), (1, lnNext), (2, tCatR tRowN lnRow)] [(9 + 1, 9 + 4)] lnCan1 0 (lnRd 0 (lnWd 0)) = true := by kernel_rfl
end Go.Proofs.YtlfeoiagemlbiaaGreatDoor

/- The words of a line: its contracts. -/
set_option linter.unusedVariables false
set_option linter.unusedSectionVars false
set_option maxRecDepth 100000
noncomputable section
namespace Go.Proofs.YtlfeoiagemlbiaaGreatDoor
open Go.Den Go.Proofs Go.Extern Go.RowKit
variable [Msr]
noncomputable def lnI (i x : Nat) (ρ0 ρ : Rho) (n : Nat) : Prop := ∃ (p f : Nat) (A : List (List (Int × List UInt8))), i = 0 ∧ ρ 0 = ρ0 0 ∧ (ρ 1).i = (p : Int) ∧ p ≤ (ρ0 0).s.length ∧ (x = 0 → A = []) ∧ (x = 1 → A ≠ []) ∧ (ρ 2).r = A ∧ A.length ≤ p ∧ n = (ρ0 0).s.length - p ∧ (ρ0 0).s.length - p < f ∧
  (lexF (ρ0 0).s).1.map tokR = A ++ (lexG f ((ρ0 0).s.drop p) p).1.map tokR ∧ (lexF (ρ0 0).s).2 = (lexG f ((ρ0 0).s.drop p) p).2
inductive LnC : Ctr → Nat → Prop where
  | nil : LnC lnNil 0
  | ok : LnC lnOk 0
  | bad (e : Nat) (h : lnBadB e = true) (h0 : e ≠ 0) : LnC (lnBad e) e
theorem LnC.short {c : Ctr} {e : Nat} (h : LnC c e) {ρ : Rho} (hF : ∀ x ∈ c.facts, x.holds ρ) : ((ρ 0).s.length : Int) < 1000000 := by
  cases h with
  | nil => exact short_of (hF _ List.mem_cons_self)
  | ok => exact short_of (hF _ List.mem_cons_self)
  | bad _ _ => exact short_of (hF _ List.mem_cons_self)
theorem LnC.err {c : Ctr} {e : Nat} (h : LnC c e) {ρ : Rho} (hF : ∀ x ∈ c.facts, x.holds ρ) : (lexF (ρ 0).s).2.1 = e := by
  have : ((((lexF (ρ 0).s).2.1 : Nat) : Int) == (e : Int)) = true := by
    cases h with
    | nil => exact hF _ (List.mem_cons_of_mem _ List.mem_cons_self)
    | ok => exact hF _ (List.mem_cons_of_mem _ List.mem_cons_self)
    | bad _ _ => exact hF _ (List.mem_cons_of_mem _ List.mem_cons_self)
  have := eq_of_beq this
  omega
theorem lnS_eq {c : Ctr} {e : Nat} (h : LnC c e) (F : List Fact) : startS Tryz.prog call4 fs6 100000 (stpL [0]) (bodyOf fs6) c wdT F = lnS F := by cases h <;> rfl
/-- the line is at its end -/
theorem ln_end {c : Ctr} {e x : Nat} (hc : LnC c e) {ρ0 ρ : Rho} {n : Nat} {A : List (List (Int × List UInt8))} {F : List Fact} (hF : ∀ x ∈ c.facts, x.holds ρ0) (hx : x ≤ 1) (h0 : x = 0 → A = []) (h1 : x = 1 → A ≠ []) (hA : (ρ 2).r = A)
    (he : (lexF (ρ0 0).s).2.1 = 0) (hr : (lexF (ρ0 0).s).1.map tokR = A) (c0 : lnNd lnNil [] (lnRd 0 F) [] = true) (c1 : lnNd lnOk [] (lnRd 1 F) lnOkL = true) : OutA Tryz.prog 9 fs6 c [lnLp] lnI ρ0 ρ (some (0, n)) (lnRd x F) := by
  have he2 := hc.err hF
  have hrow : lnR.row ρ0 = A := hr
  cases hc with
  | nil =>
    have h3 : (((lnR.row ρ0).length : Int) == 0) = true := hF _ (List.mem_cons_of_mem _ (List.mem_cons_of_mem _ List.mem_cons_self))
    rw [hrow] at h3
    have h4 : A = [] := by
      have := eq_of_beq h3
      exact List.eq_nil_of_length_eq_zero (by omega)
    have hx0 : x = 0 := by
      rcases Nat.eq_zero_or_pos x with h | h
      · exact h
      · exact absurd h4 (h1 (by omega))
    subst hx0
    exact .fin [] _ (needsB_ok c0) (fun _ h => by cases h)
  | ok =>
    have h3 : (((lnR.row ρ0).length : Int) == 0) = false := hF _ (List.mem_cons_of_mem _ (List.mem_cons_of_mem _ List.mem_cons_self))
    rw [hrow] at h3
    have h4 : A ≠ [] := fun h => by rw [h] at h3; exact absurd h3 (by decide)
    have hx1 : x = 1 := by
      rcases Nat.eq_zero_or_pos x with h | h
      · exact absurd (h0 h) h4
      · omega
    subst hx1
    refine .fin [] _ (needsB_ok c1) (fun y hy => ?_)
    simp only [lnOkL, List.mem_cons, List.mem_nil_iff, or_false] at hy
    rcases hy with rfl | rfl | rfl | rfl
    · rfl
    · show ((lnR.row ρ0).length : Int) = ((ρ 2).r.length : Int)
      rw [hrow, hA]
    · rfl
    · show lnR.row ρ0 = (ρ 2).r
      rw [hrow, hA]
  | bad e h h0' => exact absurd (he.symm.trans he2).symm h0'
theorem ln_loop {c : Ctr} {e : Nat} (hc : LnC c e) (x : Nat) (hx : x ≤ 1) (ρ0 ρ : Rho) (n : Nat) (hF : ∀ x ∈ c.facts, x.holds ρ0) (hI : lnI 0 x ρ0 ρ n) :
    ∃ F : List Fact, (∀ x ∈ F, x.holds ρ) ∧ OutA Tryz.prog 9 fs6 c [lnLp] lnI ρ0 ρ (some (0, n)) (lnRd x F) := by
  obtain ⟨p, f, A, _, h0, hp, hpl, hx0, hx1, hA, hAl, hn, hf, hrows, herr⟩ := hI
  have hsh := hc.short hF
  obtain ⟨s, hs⟩ : ∃ s, s = (ρ0 0).s := ⟨_, rfl⟩
  rw [← hs] at hpl hn hf hrows herr hsh
  have hs0 : (ρ 0).s = s := by rw [h0, hs]
  have hlen : (tLen (.v 0)).den ρ = (s.length : Int) := by show ((ρ 0).s.length : Int) = _; rw [hs0]
  have hv1 : (SE.v 1).den ρ = (p : Int) := hp
  have htail : lnTail.str ρ = s.drop p := by
    show ((ρ 0).s.take ((tLen (.v 0)).den ρ).toNat).drop ((SE.v 1).den ρ).toNat = _
    rw [hlen, hv1, hs0]; simp
  obtain ⟨b, hb⟩ : ∃ b, b = tw isBlank (s.drop p) := ⟨_, rfl⟩
  have hbl : b ≤ s.length - p := by rw [hb, ← List.length_drop]; exact tw_le _
  have hat : lnAt.den ρ = ((p + b : Nat) : Int) := by
    show IntKind.i64.wrap ((SE.v 1).den ρ + ((tw isBlank (lnTail.str ρ) : Nat) : Int)) = _
    rw [hv1, htail, ← hb, wrap64 (by omega) (by omega)]; simp
  have hrest : lnRest.str ρ = s.drop (p + b) := by
    show ((ρ 0).s.take ((tLen (.v 0)).den ρ).toNat).drop (lnAt.den ρ).toNat = _
    rw [hlen, hat, hs0, Int.toNat_natCast, Int.toNat_natCast]; simp
  have hF0 : ∀ x ∈ lnF0, x.holds ρ := fl_cons (ltT (by rw [tLen_den, den_n, htail]; simp; omega)) (fl_cons (ltN (by rw [hv1, den_n]; omega)) (fl_cons (leT (by rw [hv1, hlen]; omega)) fl_nil))
  have hdd : (s.drop p).drop b = s.drop (p + b) := by rw [List.drop_drop]
  cases f with
  | zero => omega
  | succ f =>
    by_cases hend : p + b = s.length
    · -- the end
      have hnil : (s.drop p).drop (tw isBlank (s.drop p)) = [] := by rw [← hb, hdd, hend, List.drop_length]
      have hlx : lexG (f + 1) (s.drop p) p = ([], 0, 0) := by unfold lexG; rw [hnil]
      rw [hlx] at hrows herr
      refine ⟨lnEnd, fl_app hF0 (fl_cons ?_ fl_nil), ln_end hc hF hx hx0 hx1 hA (by rw [← hs, herr]) (by rw [← hs, hrows]; simp) ln0_end ln1_end⟩
      show (lnAt.den ρ == (tLen (.v 0)).den ρ) = true
      rw [hat, hlen, hend]; simp
    · have hlt : p + b < s.length := by omega
      obtain ⟨ch, r, hcr⟩ : ∃ ch r, s.drop (p + b) = ch :: r := by
        cases hq : s.drop (p + b) with
        | nil => have := congrArg List.length hq; simp at this; omega
        | cons ch r => exact ⟨ch, r, rfl⟩
      have hbyte : (tByte (.v 0) lnAt).den ρ = (ch.toNat : Int) := by
        show ((((ρ 0).s[(lnAt.den ρ).toNat]?).getD 0).toNat : Int) = _
        rw [hat, hs0, Int.toNat_natCast, ← List.head?_drop, hcr]; rfl
      have hkind : lnKind.den ρ = (kindF ch.toNat : Int) := by
        show ((kindF ((tByte (.v 0) lnAt).den ρ).toNat : Nat) : Int) = _
        rw [hbyte, Int.toNat_natCast]
      have hF1 : ∀ x ∈ lnF1, x.holds ρ := fl_app hF0 (fl_cons (by
        show (lnAt.den ρ == (tLen (.v 0)).den ρ) = false
        rw [hat, hlen, beq_eq_false_iff_ne]; omega) (fl_cons (ltN (by rw [hat, den_n]; omega)) (fl_cons (ltT (by rw [hat, hlen]; omega)) fl_nil)))
      have hdrop : (s.drop p).drop (tw isBlank (s.drop p)) = ch :: r := by rw [← hb, hdd, hcr]
      by_cases h7 : kindF ch.toNat = 7
      · have hlx : lexG (f + 1) (s.drop p) p = ([], 0, 0) := by
          unfold lexG; rw [hdrop]; simp only [h7]; rfl
        rw [hlx] at hrows herr
        exact ⟨lnRem, fl_app hF1 (fl_cons (eqF_ok (by rw [hkind, h7]; rfl)) fl_nil), ln_end hc hF hx hx0 hx1 hA (by rw [← hs, herr]) (by rw [← hs, hrows]; simp) ln0_rem ln1_rem⟩
      · have h7b : Nat.beq (kindF ch.toNat) 7 = false := by
          cases hq : Nat.beq (kindF ch.toNat) 7 with
          | false => rfl
          | true => exact absurd (Nat.eq_of_beq_eq_true hq) h7
        have hrl : r.length + 1 = s.length - (p + b) := by have := congrArg List.length hcr; simpa using this.symm
        have hF2 : ∀ x ∈ lnF2, x.holds ρ := fl_app hF1 (fl_cons (by
          show (lnKind.den ρ == 7) = false
          rw [hkind, beq_eq_false_iff_ne]; omega) (fl_cons (leT (by rw [hat, hlen]; omega)) (fl_cons (ltT (by rw [tLen_den, den_n, hrest, hcr]; simp)) (fl_cons (ltT (by rw [tLen_den, den_n, hrest, hcr]; simp; omega)) fl_nil))))
        have hlx : lexG (f + 1) (s.drop p) p = bif Nat.beq (wordF (ch :: r)).err 0 then (((wordF (ch :: r)).kind, (wordF (ch :: r)).text, (wordF (ch :: r)).n, p + b) :: (lexG f ((ch :: r).drop (wordF (ch :: r)).len) (p + b + (wordF (ch :: r)).len)).1, (lexG f ((ch :: r).drop (wordF (ch :: r)).len) (p + b + (wordF (ch :: r)).len)).2)
            else ([], (wordF (ch :: r)).err, p + b) := by
          rw [lexG, hdrop]; simp only [h7b, cond_false, ← hb]
        have hwd : ∀ e', (wordF (ch :: r)).err = e' → ∀ x ∈ lnWd e', x.holds ρ := fun e' he' => fl_app hF2 (fl_cons (eqF_ok (by
          show (((wordF (lnRest.str ρ)).err : Nat) : Int) = _
          rw [hrest, hcr, he']; rfl)) (fl_cons (ltT (by
          show (((ρ 2).r.length : Nat) : Int) < 1000000
          rw [hA]; omega)) fl_nil))
        by_cases herr0 : (wordF (ch :: r)).err = 0
        · obtain ⟨hl1, hl2⟩ := wordF_len herr0
          rw [herr0] at hlx
          simp only [show Nat.beq 0 0 = true from rfl, cond_true] at hlx
          rw [hlx] at hrows herr
          obtain ⟨L, hL⟩ : ∃ L, L = (wordF (ch :: r)).len := ⟨_, rfl⟩
          rw [← hL] at hl1 hl2 hrows herr
          have hnx : lnNext.den ρ = ((p + b + L : Nat) : Int) := by
            show IntKind.i64.wrap (lnAt.den ρ + (((wordF (lnRest.str ρ)).len : Nat) : Int)) = _
            rw [hat, hrest, hcr, ← hL, wrap64 (by omega) (by omega)]; simp
          have hdr : (ch :: r).drop L = s.drop (p + b + L) := by rw [← hcr, List.drop_drop]
          rw [hdr] at hrows herr
          have hrow : lnRow.row ρ = [tokR ((wordF (ch :: r)).kind, (wordF (ch :: r)).text, (wordF (ch :: r)).n, p + b)] := by
            show [[(((((wordF (lnRest.str ρ)).kind : Nat) : Int), ([] : List UInt8)))] ++ [((0 : Int), (wordF (lnRest.str ρ)).text)] ++ [((((wordF (lnRest.str ρ)).n : Nat) : Int), [])] ++ [(lnAt.den ρ, [])]] = _
            rw [hrest, hcr, hat]; rfl
          have inv : ∀ σ : List (Nat × SE), subρ σ ρ 0 = ρ0 0 → (subρ σ ρ 1).i = ((p + b + L : Nat) : Int) → (subρ σ ρ 2).r = A ++ lnRow.row ρ → lnI 0 1 ρ0 (subρ σ ρ) (s.length - (p + b + L)) := by
            intro σ q0 q1 q2
            refine ⟨p + b + L, f, A ++ lnRow.row ρ, rfl, q0, q1, by rw [← hs]; omega, fun h => (by cases h), fun _ h => ?_, q2, ?_, by rw [← hs], by rw [← hs]; omega, ?_, by rw [← hs]; exact herr⟩
            · rw [hrow] at h; simp at h
            · rw [hrow]; simp; omega
            · rw [← hs, hrows, hrow]; simp
          have hm : s.length - (p + b + L) < n := by omega
          match x, hx with
          | 0, _ => exact ⟨_, hwd 0 herr0, .again 0 n 1 lnLp lnCan1 _ _ _ rfl rfl rfl hm ln0_again (by cases hc <;> rfl) (inv _ h0 hnx (by
              show [] ++ lnRow.row ρ = _
              rw [hx0 rfl]))⟩
          | 1, _ => exact ⟨_, hwd 0 herr0, .again 0 n 1 lnLp lnCan1 _ _ _ rfl rfl rfl hm ln1_again (by cases hc <;> rfl) (inv _ h0 hnx (by
              show (ρ 2).r ++ lnRow.row ρ = _
              rw [hA]))⟩
          | x + 2, hx => omega
        · have hlx2 : lexG (f + 1) (s.drop p) p = ([], (wordF (ch :: r)).err, p + b) := by
            rw [hlx]
            have : Nat.beq (wordF (ch :: r)).err 0 = false := by
              cases hq : Nat.beq (wordF (ch :: r)).err 0 with
              | false => rfl
              | true => exact absurd (Nat.eq_of_beq_eq_true hq) herr0
            rw [this]; rfl
          rw [hlx2] at herr
          have he2 := hc.err hF
          rw [← hs, herr] at he2
          have he3 : (wordF (ch :: r)).err = e := he2
          have hneed : ∀ rn : List (Nat × Nat), ∀ y ∈ [Need.i (sy 37 (.v 0)) lnAt], y.ok ρ0 ρ := fun _ y hy => by
            rw [List.mem_singleton] at hy; subst hy
            show (((lexF (ρ0 0).s).2.2 : Nat) : Int) = lnAt.den ρ
            rw [← hs, herr, hat]
          cases hc with
          | nil => exact absurd he3 herr0
          | ok => exact absurd he3 herr0
          | bad _ hB hne =>
            unfold lnBadB at hB
            simp only [Bool.and_eq_true] at hB
            match x, hx with
            | 0, _ => exact ⟨_, hwd e he3, .fin _ _ (needsB_ok hB.1) (hneed [])⟩
            | 1, _ => exact ⟨_, hwd e he3, .fin _ _ (needsB_ok hB.2) (hneed [])⟩
            | x + 2, hx => omega
theorem ln_ctr {c : Ctr} {e : Nat} (hc : LnC c e) (ht : enterD c.args fs6.ntmps 0 .nil = some wdT) (hnx : c.nx = 9 + 1) : CtrOK Tryz.prog 19 c := by
  refine ctr_loopsA (loops := [lnLp]) (inv := lnI) (fuel := 100000) (stp := stpL [0]) gsz mixed (runD_ok static kn4_ok 20) Tryz.func19 (by kernel_rfl) (show fs6.body = some (bodyOf fs6) by kernel_rfl) (by kernel_rfl) ht (by rw [hnx]; exact ln_lps) (fun ρ hF => ?_) ?_
  · refine ⟨[], fl_nil, ?_⟩
    show OutA _ _ _ _ _ _ _ _ _ (startS Tryz.prog call4 fs6 100000 (stpL [0]) (bodyOf fs6) c wdT [])
    rw [lnS_eq hc]
    have hsh := hc.short hF
    exact .stop 0 0 lnLp lnCan0 _ [] (ρ 0).s.length rfl rfl (fun i m h => by cases h) rfl rfl ln_stop (by cases hc <;> rfl)
      ⟨0, (ρ 0).s.length + 1, [], rfl, rfl, rfl, Nat.zero_le _, fun _ => rfl, fun h => (by cases h), rfl, Nat.le_refl _, by simp, by simp, by simp [lexF], by simp [lexF]⟩
  · intro i lp x can hlp hx ρ0 ρ n hF hI
    match i, hlp with
    | 0, hlp =>
      simp at hlp; subst hlp
      match x, hx with
      | 0, hx => cases hx; exact ln_loop hc 0 (by omega) ρ0 ρ n hF hI
      | 1, hx => cases hx; exact ln_loop hc 1 (by omega) ρ0 ρ n hF hI
      | x + 2, hx => simp [lnLp] at hx
    | i + 1, hlp => simp at hlp
noncomputable def gLn : Gn := gC Tryz.prog 9 lnNil [lnOk, lnBad 11, lnBad 14, lnBad 15]
theorem gLn_ok : GoodAt Tryz.prog 19 gLn := good_C gsz (by kernel_rfl) (fun x hx => by
  simp only [List.mem_cons, List.mem_nil_iff, or_false] at hx
  rcases hx with rfl | rfl | rfl | rfl | rfl
  · exact ln_ctr .nil (by kernel_rfl) rfl
  · exact ln_ctr .ok (by kernel_rfl) rfl
  · exact ln_ctr (.bad 11 ln_b11 (by decide)) (by kernel_rfl) rfl
  · exact ln_ctr (.bad 14 ln_b14 (by decide)) (by kernel_rfl) rfl
  · exact ln_ctr (.bad 15 ln_b15 (by decide)) (by kernel_rfl) rfl)
noncomputable def kn5 : Known := knCons 19 (gRun Tryz.prog kn4 20 19 gLn) kn4
theorem kn5_ok : KnownOK Tryz.prog kn5 := knCons_ok (good_runC static kn4_ok 20 gLn_ok) kn4_ok
noncomputable def call5 : CallFn := runD Tryz.prog kn5 20
end Go.Proofs.YtlfeoiagemlbiaaGreatDoor
