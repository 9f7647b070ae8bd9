/- The words of a line, as the reference reads them: the contract. -/
import Derived.Test.YtlfeoiagemlbiaaGreatDoorCQr
set_option linter.unusedVariables false
set_option linter.unusedSectionVars false
set_option linter.unusedSimpArgs false
set_option maxRecDepth 100000
noncomputable section
namespace Go.Proofs.YtlfeoiagemlbiaaGreatDoor
open Go.Den Go.Proofs Go.Extern Go.RowKit
variable [Mqa]
noncomputable def fsLx : Func := Tryz.f25
noncomputable def lxW : IV := .agg [.str [], .int .i64 0, .int .i64 0]
noncomputable def lxNil : Ctr := ⟨[.sstr (.v 0)], 9 + 1, [], [short (.v 0), lnErr 0, (.eq, tRows lnR, .n 0, true)], .tuple [.nilSlice, lxW], [], []⟩
noncomputable def lxOk : Ctr := ⟨[.sstr (.v 0)], 9 + 1, [], [short (.v 0), lnErr 0, (.eq, tRows lnR, .n 0, false)], .tuple [.sslice (9 + 1) 4 (.n 0) (tRows lnR) (.n 9223372036854775808), lxW], [], [.rows 78 4 tokFs lnR 1]⟩
noncomputable def lxBad (e : Nat) : Ctr := ⟨[.sstr (.v 0)], 9 + 1, [], [short (.v 0), lnErr e], .tuple [.nilSlice, .agg [.str [99, 111, 108], .sint .i64 (sy 37 (.v 0)), .int .i64 (Int.ofNat e)]], [], []⟩
noncomputable def lxS (F : List Fact) : SRes := startS Tryz.prog callq2 fsLx 100000 (stpL [0]) (bodyOf fsLx) lxNil nmT F
noncomputable def lxB : Nat × Blk := (9 + 1, .cells 34 3 [] (listT [.str [], .int .i64 0, .int .i64 0] 0 .nil) 0)
noncomputable def lxCan0 : Go.Den.Can := ⟨[(0, .sstr (.v 0)), (3, .ptr (9 + 1) 0), (4, .nilSlice), (5, .sint .i64 (.v 1))], [lxB], 9 + 2⟩
noncomputable def lxCan1 : Go.Den.Can := ⟨[(0, .sstr (.v 0)), (3, .ptr (9 + 1) 0), (4, .sslice (9 + 2) 4 (.n 0) (tRows (.v 2)) (.n 9223372036854775808)), (5, .sint .i64 (.v 1))], [lxB, (9 + 2, .rows 78 4 tokFs (.v 2) 1)], 9 + 3⟩
noncomputable def lxLp : La := ⟨0, srB (lxS []), srK (lxS []), [lxCan0, lxCan1]⟩
theorem lx_stop : (chkStop Tryz.prog 9 [(0, .v 0), (1, .n 0), (2, tRowN)] [(9 + 1, 9 + 1)] lxCan0 0 (lxS []) && laB (9 + 1) lxLp) = true := by kernel_rfl
noncomputable def lxRest : SE := tSub (.v 0) (.v 1) (tLen (.v 0))
noncomputable def lxNext : SE := .bin .add .i64 (.v 1) (sy 89 lxRest)
noncomputable def lxRow : SE := tRow (tRow (tRow (tRow tRow0 (sy 86 lxRest)) (sy 87 lxRest)) (sy 88 lxRest)) (.v 1)
noncomputable def lxEnd : List Fact := [(.lt, .v 1, .n 0, false), (.lt, .v 1, tLen (.v 0), false)]
noncomputable def lxIn : List Fact := [(.lt, .v 1, .n 0, false), (.lt, .v 1, tLen (.v 0), true)]
noncomputable def lxRem : List Fact := lxIn ++ [(.eq, nmBy, .n 59, true)]
noncomputable def lxBl (b : Bool) : List Fact := lxIn ++ ((.eq, nmBy, .n 59, false) :: (bif b then [(.eq, nmBy, .n 32, true)] else [(.eq, nmBy, .n 32, false), (.eq, nmBy, .n 9, true)]))
noncomputable def lxWd (e : Nat) : List Fact := lxIn ++ [(.eq, nmBy, .n 59, false), (.eq, nmBy, .n 32, false), (.eq, nmBy, .n 9, false), (.le, .v 1, tLen (.v 0), true), (.lt, .n 0, tLen lxRest, true), short lxRest, (.eq, sy 34 lxRest, .n (Int.ofNat e), true), (.lt, tRows (.v 2), .n 1000000, true)]
noncomputable def lxRd (x : Nat) (F : List Fact) : SRes := roundA Tryz.prog callq2 fsLx.ntmps 100000 (stpL [0]) 0 lxLp (match x with | 0 => lxCan0 | _ => lxCan1) F
noncomputable def lxNd (c : Ctr) (rn : List (Nat × Nat)) (r : SRes) (L : List Need) : Bool := needsB Tryz.prog 9 fsLx c rn r L
noncomputable def lxOkL : List Need := [.i (.n 0) (.n 0), .i (tRows lnR) (tRows (.v 2)), .i (.n 9223372036854775808) (.n 9223372036854775808), .r lnR (.v 2)]
theorem lx_fin0 : (lxNd lxNil [] (lxRd 0 lxEnd) [] && lxNd lxNil [] (lxRd 0 lxRem) []) = true := by kernel_rfl
theorem lx_fin1 : (lxNd lxOk [(9 + 1, 9 + 2)] (lxRd 1 lxEnd) lxOkL && lxNd lxOk [(9 + 1, 9 + 2)] (lxRd 1 lxRem) lxOkL) = true := by kernel_rfl
noncomputable def lxBadB (e : Nat) : Bool := lxNd (lxBad e) [] (lxRd 0 (lxWd e)) [.i (sy 37 (.v 0)) (.v 1)] && lxNd (lxBad e) [] (lxRd 1 (lxWd e)) [.i (sy 37 (.v 0)) (.v 1)]
theorem lx_bad : (lxBadB 11 && lxBadB 14 && lxBadB 15) = true := by kernel_rfl
noncomputable def lxAgB (b : Bool) : Bool := chkAgain Tryz.prog 9 [(0, .v 0), (1, nmNx), (2, .v 2)] [(9 + 1, 9 + 1)] lxCan0 0 (lxRd 0 (lxBl b)) && chkAgain Tryz.prog 9 [(0, .v 0), (1, nmNx), (2, .v 2)] [(9 + 1, 9 + 1), (9 + 2, 9 + 2)] lxCan1 0 (lxRd 1 (lxBl b))
theorem lx_blank : (lxAgB true && lxAgB false) = true := by kernel_rfl
theorem lx_again : (chkAgain Tryz.prog 9 [(0, .v 0), (1, lxNext), (2, tCatR tRowN lxRow)] [(9 + 1, 9 + 1), (9 + 2, 9 + 4)] lxCan1 0 (lxRd 0 (lxWd 0)) && chkAgain Tryz.prog 9 [(0, .v 0), (1, lxNext), (2, tCatR (.v 2) lxRow)] [(9 + 1, 9 + 1), (9 + 2, 9 + 5)] lxCan1 0 (lxRd 1 (lxWd 0))) = true := by kernel_rfl
/-! ### The contract -/
theorem lexG_blank {c : UInt8} (h : isBlank c = true) (s : List UInt8) (p : Nat) : ∀ f : Nat, lexG f (c :: s) p = lexG f s (p + 1)
  | 0 => rfl
  | f + 1 => by
    have hd : (c :: s).drop (tw isBlank (c :: s)) = s.drop (tw isBlank s) := by rw [tw_cons, h]; simp
    have ht : p + tw isBlank (c :: s) = p + 1 + tw isBlank s := by rw [tw_cons, h, cond_true]; omega
    unfold lexG
    rw [hd, ht]
noncomputable def lxI (i x : Nat) (ρ0 ρ : Rho) (n : Nat) : Prop := ∃ (p f : Nat) (A : List (List (Int × List UInt8))), i = 0 ∧ ρ 0 = ρ0 0 ∧ ρ 1 = dyI (p : Int) ∧ p ≤ (ρ0 0).s.length ∧ (x = 0 → A = []) ∧ (x = 1 → A ≠ []) ∧ (ρ 2).r = A ∧ A.length ≤ p ∧ n = (ρ0 0).s.length - p ∧ (ρ0 0).s.length - p < f ∧
  (lexF (ρ0 0).s).1.map tokR = A ++ (lexG f ((ρ0 0).s.drop p) p).1.map tokR ∧ (lexF (ρ0 0).s).2 = (lexG f ((ρ0 0).s.drop p) p).2
inductive LxC : Ctr → Nat → Prop where
  | nil : LxC lxNil 0
  | ok : LxC lxOk 0
  | bad (e : Nat) (h : lxBadB e = true) (h0 : e ≠ 0) : LxC (lxBad e) e
theorem LxC.short {c : Ctr} {e : Nat} (h : LxC c e) {ρ : Rho} (hF : ∀ x ∈ c.facts, x.holds ρ) : ((ρ 0).s.length : Int) < 1000000 := by
  cases h with
  | nil => exact short_of (hF _ List.mem_cons_self)
  | ok => exact short_of (hF _ List.mem_cons_self)
  | bad _ _ => exact short_of (hF _ List.mem_cons_self)
theorem LxC.err {c : Ctr} {e : Nat} (h : LxC c e) {ρ : Rho} (hF : ∀ x ∈ c.facts, x.holds ρ) : (lexF (ρ 0).s).2.1 = e := by
  have : ((((lexF (ρ 0).s).2.1 : Nat) : Int) == (e : Int)) = true := by
    cases h with
    | nil => exact hF _ (List.mem_cons_of_mem _ List.mem_cons_self)
    | ok => exact hF _ (List.mem_cons_of_mem _ List.mem_cons_self)
    | bad _ _ => exact hF _ (List.mem_cons_of_mem _ List.mem_cons_self)
  have := eq_of_beq this
  omega
theorem lxS_eq {c : Ctr} {e : Nat} (h : LxC c e) (F : List Fact) : startS Tryz.prog callq2 fsLx 100000 (stpL [0]) (bodyOf fsLx) c nmT F = lxS F := by cases h <;> rfl
theorem lx_end {c : Ctr} {e x : Nat} (hc : LxC c e) {ρ0 ρ : Rho} {n : Nat} {A : List (List (Int × List UInt8))} {F : List Fact} (hF : ∀ x ∈ c.facts, x.holds ρ0) (hx : x ≤ 1) (h0 : x = 0 → A = []) (h1 : x = 1 → A ≠ []) (hA : (ρ 2).r = A)
    (he : (lexF (ρ0 0).s).2.1 = 0) (hr : (lexF (ρ0 0).s).1.map tokR = A) (c0 : lxNd lxNil [] (lxRd 0 F) [] = true) (c1 : lxNd lxOk [(9 + 1, 9 + 2)] (lxRd 1 F) lxOkL = true) : OutA Tryz.prog 9 fsLx c [lxLp] lxI ρ0 ρ (some (0, n)) (lxRd x F) := by
  have he2 := hc.err hF
  have hrow : lnR.row ρ0 = A := hr
  cases hc with
  | nil =>
    have h3 : (((lnR.row ρ0).length : Int) == 0) = true := hF _ (List.mem_cons_of_mem _ (List.mem_cons_of_mem _ List.mem_cons_self))
    rw [hrow] at h3
    have h4 : A = [] := by
      have := eq_of_beq h3
      exact List.eq_nil_of_length_eq_zero (by omega)
    have hx0 : x = 0 := by
      rcases Nat.eq_zero_or_pos x with h | h
      · exact h
      · exact absurd h4 (h1 (by omega))
    subst hx0
    exact .fin [] _ (needsB_ok c0) (fun _ h => by cases h)
  | ok =>
    have h3 : (((lnR.row ρ0).length : Int) == 0) = false := hF _ (List.mem_cons_of_mem _ (List.mem_cons_of_mem _ List.mem_cons_self))
    rw [hrow] at h3
    have h4 : A ≠ [] := fun h => by rw [h] at h3; exact absurd h3 (by decide)
    have hx1 : x = 1 := by
      rcases Nat.eq_zero_or_pos x with h | h
      · exact absurd (h0 h) h4
      · omega
    subst hx1
    refine .fin _ _ (needsB_ok c1) (fun y hy => ?_)
    simp only [lxOkL, List.mem_cons, List.mem_nil_iff, or_false] at hy
    rcases hy with rfl | rfl | rfl | rfl
    · rfl
    · show ((lnR.row ρ0).length : Int) = ((ρ 2).r.length : Int)
      rw [hrow, hA]
    · rfl
    · show lnR.row ρ0 = (ρ 2).r
      rw [hrow, hA]
  | bad e h h0' => exact absurd (he.symm.trans he2).symm h0'
theorem lx_loop {c : Ctr} {e : Nat} (hc : LxC c e) (x : Nat) (hx : x ≤ 1) (ρ0 ρ : Rho) (n : Nat) (hF : ∀ x ∈ c.facts, x.holds ρ0) (hI : lxI 0 x ρ0 ρ n) :
    ∃ F : List Fact, (∀ x ∈ F, x.holds ρ) ∧ OutA Tryz.prog 9 fsLx c [lxLp] lxI ρ0 ρ (some (0, n)) (lxRd x F) := by
  obtain ⟨p, f, A, _, h0, hp, hpl, hx0, hx1, hA, hAl, hn, hf, hrows, herr⟩ := hI
  have hsh := hc.short hF
  obtain ⟨s, hs⟩ : ∃ s, s = (ρ0 0).s := ⟨_, rfl⟩
  rw [← hs] at hpl hn hf hrows herr hsh
  have hs0 : (ρ 0).s = s := by rw [h0, hs]
  have hlen : (tLen (.v 0)).den ρ = (s.length : Int) := by show ((ρ 0).s.length : Int) = _; rw [hs0]
  have hv1 : (SE.v 1).den ρ = (p : Int) := congrArg Dy.i hp
  have hrest : lxRest.str ρ = s.drop p := by
    show ((ρ 0).s.take ((tLen (.v 0)).den ρ).toNat).drop ((SE.v 1).den ρ).toNat = _
    rw [hlen, hv1, hs0]; simp
  have h2 : Fact.holds ρ (.lt, tRows (.v 2), .n 1000000, true) := ltT (by
    show (((ρ 2).r.length : Nat) : Int) < 1000000
    rw [hA]; omega)
  have k0 := lx_fin0; have k1 := lx_fin1; have kb := lx_blank; have ka := lx_again
  unfold lxAgB at kb
  simp only [Bool.and_eq_true] at k0 k1 kb ka
  cases f with
  | zero => omega
  | succ f =>
    by_cases hend : p = s.length
    · have hlx : lexG (f + 1) (s.drop p) p = ([], 0, 0) := by rw [hend, List.drop_length]; rfl
      rw [hlx] at hrows herr
      exact ⟨lxEnd, fl_cons (ltN (by rw [hv1, den_n]; omega)) (fl_cons (ltN (by rw [hv1, hlen]; omega)) fl_nil), lx_end hc hF hx hx0 hx1 hA (by rw [← hs, herr]) (by rw [← hs, hrows]; simp) k0.1 k1.1⟩
    · have hlt : p < s.length := by omega
      obtain ⟨ch, r, hcr⟩ : ∃ ch r, s.drop p = ch :: r := by
        cases hq : s.drop p with
        | nil => have := congrArg List.length hq; simp at this; omega
        | cons ch r => exact ⟨ch, r, rfl⟩
      have hrl : r.length + 1 = s.length - p := by have := congrArg List.length hcr; simpa using this.symm
      have hdr1 : s.drop (p + 1) = r := by rw [← List.drop_drop, hcr]; rfl
      have hin : ∀ x ∈ lxIn, x.holds ρ := fl_cons (ltN (by rw [hv1, den_n]; omega)) (fl_cons (ltT (by rw [hv1, hlen]; omega)) fl_nil)
      have hby : nmBy.den ρ = (ch.toNat : Int) := by
        show ((((ρ 0).s[((SE.v 1).den ρ).toNat]?).getD 0).toNat : Int) = _
        rw [hv1, hs0, Int.toNat_natCast, ← List.head?_drop, hcr]; rfl
      have heq : ∀ (u : UInt8) (b : Bool), b = decide (ch = u) → Fact.holds ρ (.eq, nmBy, .n (u.toNat : Int), b) := fun u b hb => eqB_ok b (by
        rw [hby, hb, decide_eq_decide]
        constructor
        · intro h; exact UInt8.toNat_inj.1 (by omega)
        · intro h; rw [h])
      rw [hcr] at hrows herr
      by_cases h59 : ch = 59
      · have hlx : lexG (f + 1) (ch :: r) p = ([], 0, 0) := by
          unfold lexG
          rw [drop_noblank (by rw [h59]; decide)]
          simp only [h59, show Nat.beq (kindF (59 : UInt8).toNat) 7 = true by decide, cond_true]
        rw [hlx] at hrows herr
        exact ⟨lxRem, fl_app hin (fl_cons (heq 59 true (decide_eq_true h59).symm) fl_nil), lx_end hc hF hx hx0 hx1 hA (by rw [← hs, herr]) (by rw [← hs, hrows]; simp) k0.2 k1.2⟩
      · have f59 : Fact.holds ρ (.eq, nmBy, .n 59, false) := heq 59 false (decide_eq_false h59).symm
        by_cases hb : isBlank ch = true
        · -- a blank
          have hstep : lexG (f + 1) (ch :: r) p = lexG (f + 1) (s.drop (p + 1)) (p + 1) := by rw [lexG_blank hb, hdr1]
          rw [hstep] at hrows herr
          have hnx : nmNx.den ρ = ((p + 1 : Nat) : Int) := by
            show IntKind.i64.wrap ((SE.v 1).den ρ + 1) = _
            rw [hv1, wrap64 (by omega) (by omega)]; simp
          have inv : ∀ σ : List (Nat × SE), subρ σ ρ 0 = ρ0 0 → subρ σ ρ 1 = dyI ((p + 1 : Nat) : Int) → (subρ σ ρ 2).r = A → lxI 0 x ρ0 (subρ σ ρ) (s.length - (p + 1)) := fun σ q0 q1 q2 =>
            ⟨p + 1, f + 1, A, rfl, q0, q1, by rw [← hs]; omega, hx0, hx1, q2, by omega, by rw [← hs], by rw [← hs]; omega, by rw [← hs]; exact hrows, by rw [← hs]; exact herr⟩
          obtain ⟨b, hbb⟩ : ∃ b, b = decide (ch = 32) := ⟨_, rfl⟩
          have hfs : ∀ y ∈ lxBl b, y.holds ρ := by
            refine fl_app hin (fl_cons f59 ?_)
            cases b with
            | true => exact fl_cons (heq 32 true hbb) fl_nil
            | false =>
              have h9 : ch = 9 := by
                have : ∀ n : Fin 256, isBlank (UInt8.ofNat n.val) = true → (UInt8.ofNat n.val = 32 ∨ UInt8.ofNat n.val = 9) := by decide +kernel
                have h := this ⟨ch.toNat, UInt8.toNat_lt ch⟩
                simp only [UInt8.ofNat_toNat] at h
                rcases h hb with h | h
                · exact absurd h (of_decide_eq_false hbb.symm)
                · exact h
              exact fl_cons (heq 32 false hbb) (fl_cons (heq 9 true (decide_eq_true h9).symm) fl_nil)
          match x, hx with
          | 0, _ => exact ⟨_, hfs, .again 0 n 0 lxLp lxCan0 _ _ (s.length - (p + 1)) rfl rfl rfl (by omega) (by cases b; exact kb.2.1; exact kb.1.1) (by cases hc <;> rfl) (inv [(0, .v 0), (1, nmNx), (2, .v 2)] h0 (show dyI (nmNx.den ρ) = _ by rw [hnx]) hA)⟩
          | 1, _ => exact ⟨_, hfs, .again 0 n 1 lxLp lxCan1 _ _ (s.length - (p + 1)) rfl rfl rfl (by omega) (by cases b; exact kb.2.2; exact kb.1.2) (by cases hc <;> rfl) (inv [(0, .v 0), (1, nmNx), (2, .v 2)] h0 (show dyI (nmNx.den ρ) = _ by rw [hnx]) hA)⟩
          | x + 2, hx => omega
        · have hb' : isBlank ch = false := by simpa using hb
          have h32 : ch ≠ 32 := fun h => by rw [h] at hb'; exact absurd hb' (by decide)
          have h9 : ch ≠ 9 := fun h => by rw [h] at hb'; exact absurd hb' (by decide)
          have h7b : Nat.beq (kindF ch.toNat) 7 = false := by
            cases hq : Nat.beq (kindF ch.toNat) 7 with
            | false => rfl
            | true => exact absurd (kind7_c (Nat.eq_of_beq_eq_true hq)) h59
          have htb : tw isBlank (ch :: r) = 0 := by rw [tw_cons, hb']; rfl
          have hlx : lexG (f + 1) (ch :: r) p = bif Nat.beq (wordF (ch :: r)).err 0 then (((wordF (ch :: r)).kind, (wordF (ch :: r)).text, (wordF (ch :: r)).n, p) :: (lexG f ((ch :: r).drop (wordF (ch :: r)).len) (p + (wordF (ch :: r)).len)).1, (lexG f ((ch :: r).drop (wordF (ch :: r)).len) (p + (wordF (ch :: r)).len)).2)
              else ([], (wordF (ch :: r)).err, p) := by
            rw [lexG, drop_noblank hb']; simp only [h7b, cond_false, htb, Nat.add_zero]
          have hwd : ∀ e', (wordF (ch :: r)).err = e' → ∀ y ∈ lxWd e', Fact.holds ρ y := fun e' he' =>
            fl_app hin (fl_cons f59 (fl_cons (heq 32 false (decide_eq_false h32).symm) (fl_cons (heq 9 false (decide_eq_false h9).symm) (fl_cons (leT (by rw [hv1, hlen]; omega)) (fl_cons (ltT (by rw [tLen_den, den_n, hrest, hcr]; simp)) (fl_cons (ltT (by rw [tLen_den, den_n, hrest, hcr]; simp; omega)) (fl_cons (eqF_ok (by
              show (((wordF (lxRest.str ρ)).err : Nat) : Int) = _
              rw [hrest, hcr, he']; rfl)) (fl_cons h2 fl_nil))))))))
          by_cases herr0 : (wordF (ch :: r)).err = 0
          · obtain ⟨hl1, hl2⟩ := wordF_len herr0
            rw [herr0] at hlx
            simp only [show Nat.beq 0 0 = true from rfl, cond_true] at hlx
            rw [hlx] at hrows herr
            have hro := rone_ok herr0
            obtain ⟨L, hL⟩ : ∃ L, L = (wordF (ch :: r)).len := ⟨_, rfl⟩
            rw [← hL] at hl1 hl2 hrows herr
            have hnx : lxNext.den ρ = ((p + L : Nat) : Int) := by
              show IntKind.i64.wrap ((SE.v 1).den ρ + (((roneF (lxRest.str ρ)).len : Nat) : Int)) = _
              rw [hv1, hrest, hcr, hro, ← hL, wrap64 (by omega) (by omega)]; simp
            have hdr : (ch :: r).drop L = s.drop (p + L) := by rw [← hcr, List.drop_drop]
            rw [hdr] at hrows herr
            have hrow : lxRow.row ρ = [tokR ((wordF (ch :: r)).kind, (wordF (ch :: r)).text, (wordF (ch :: r)).n, p)] := by
              show [[(((((roneF (lxRest.str ρ)).kind : Nat) : Int), ([] : List UInt8)))] ++ [((0 : Int), (roneF (lxRest.str ρ)).text)] ++ [((((roneF (lxRest.str ρ)).n : Nat) : Int), [])] ++ [((ρ 1).i, (ρ 1).s)]] = _
              rw [hrest, hcr, hro, hp]; rfl
            have inv : ∀ σ : List (Nat × SE), subρ σ ρ 0 = ρ0 0 → subρ σ ρ 1 = dyI ((p + L : Nat) : Int) → (subρ σ ρ 2).r = A ++ lxRow.row ρ → lxI 0 1 ρ0 (subρ σ ρ) (s.length - (p + L)) := by
              intro σ q0 q1 q2
              refine ⟨p + L, f, A ++ lxRow.row ρ, rfl, q0, q1, by rw [← hs]; omega, fun h => (by cases h), fun _ h => ?_, q2, ?_, by rw [← hs], by rw [← hs]; omega, ?_, by rw [← hs]; exact herr⟩
              · rw [hrow] at h; simp at h
              · rw [hrow]; simp; omega
              · rw [← hs, hrows, hrow]; simp
            have hm : s.length - (p + L) < n := by omega
            match x, hx with
            | 0, _ => exact ⟨_, hwd 0 herr0, .again 0 n 1 lxLp lxCan1 _ _ _ rfl rfl rfl hm ka.1 (by cases hc <;> rfl) (inv [(0, .v 0), (1, lxNext), (2, tCatR tRowN lxRow)] h0 (show dyI (lxNext.den ρ) = _ by rw [hnx]) (by
                show [] ++ lxRow.row ρ = _
                rw [hx0 rfl]))⟩
            | 1, _ => exact ⟨_, hwd 0 herr0, .again 0 n 1 lxLp lxCan1 _ _ _ rfl rfl rfl hm ka.2 (by cases hc <;> rfl) (inv [(0, .v 0), (1, lxNext), (2, tCatR (.v 2) lxRow)] h0 (show dyI (lxNext.den ρ) = _ by rw [hnx]) (by
                show (ρ 2).r ++ lxRow.row ρ = _
                rw [hA]))⟩
            | x + 2, hx => omega
          · have hlx2 : lexG (f + 1) (ch :: r) p = ([], (wordF (ch :: r)).err, p) := by
              rw [hlx]
              have : Nat.beq (wordF (ch :: r)).err 0 = false := by
                cases hq : Nat.beq (wordF (ch :: r)).err 0 with
                | false => rfl
                | true => exact absurd (Nat.eq_of_beq_eq_true hq) herr0
              rw [this]; rfl
            rw [hlx2] at herr
            have he2 := hc.err hF
            rw [← hs, herr] at he2
            have he3 : (wordF (ch :: r)).err = e := he2
            have hneed : ∀ y ∈ [Need.i (sy 37 (.v 0)) (.v 1)], y.ok ρ0 ρ := fun y hy => by
              rw [List.mem_singleton] at hy; subst hy
              show (((lexF (ρ0 0).s).2.2 : Nat) : Int) = (SE.v 1).den ρ
              rw [← hs, herr, hv1]
            cases hc with
            | nil => exact absurd he3 herr0
            | ok => exact absurd he3 herr0
            | bad _ hB hne =>
              unfold lxBadB at hB
              simp only [Bool.and_eq_true] at hB
              match x, hx with
              | 0, _ => exact ⟨_, hwd e he3, .fin _ _ (needsB_ok hB.1) hneed⟩
              | 1, _ => exact ⟨_, hwd e he3, .fin _ _ (needsB_ok hB.2) hneed⟩
              | x + 2, hx => omega
theorem lx_ctr {c : Ctr} {e : Nat} (hc : LxC c e) (ht : enterD c.args fsLx.ntmps 0 .nil = some nmT) (hnx : c.nx = 9 + 1) : CtrOK Tryz.prog 25 c := by
  have hst := lx_stop
  rw [Bool.and_eq_true] at hst
  refine ctr_loopsA (loops := [lxLp]) (inv := lxI) (fuel := 100000) (stp := stpL [0]) gsz mixed (runD_ok static knq2_ok 20) Tryz.func25 (by kernel_rfl) (show fsLx.body = some (bodyOf fsLx) by kernel_rfl) (by kernel_rfl) ht (by rw [hnx]; show (laB (9 + 1) lxLp && true) = true; rw [hst.2]; rfl) (fun ρ hF => ?_) ?_
  · refine ⟨[], fl_nil, ?_⟩
    show OutA _ _ _ _ _ _ _ _ _ (startS Tryz.prog callq2 fsLx 100000 (stpL [0]) (bodyOf fsLx) c nmT [])
    rw [lxS_eq hc]
    have hsh := hc.short hF
    exact .stop 0 0 lxLp lxCan0 _ _ (ρ 0).s.length rfl rfl (fun i m h => by cases h) rfl rfl hst.1 (by cases hc <;> rfl)
      ⟨0, (ρ 0).s.length + 1, [], rfl, rfl, rfl, Nat.zero_le _, fun _ => rfl, fun h => (by cases h), rfl, Nat.le_refl _, by simp, by simp, by simp [lexF], by simp [lexF]⟩
  · intro i lp x can hlp hx ρ0 ρ n hF hI
    match i, hlp with
    | 0, hlp =>
      obtain rfl : lxLp = lp := Option.some.inj hlp
      match x, hx with
      | 0, hx => cases hx; exact lx_loop hc 0 (by omega) ρ0 ρ n hF hI
      | 1, hx => cases hx; exact lx_loop hc 1 (by omega) ρ0 ρ n hF hI
      | x + 2, hx => simp [lxLp] at hx
    | i + 1, hlp => simp at hlp
noncomputable def gLx : Gn := gC Tryz.prog 9 lxNil [lxOk, lxBad 11, lxBad 14, lxBad 15]
theorem gLx_ok : GoodAt Tryz.prog 25 gLx := by
  have hb := lx_bad
  simp only [Bool.and_eq_true] at hb
  refine good_C gsz (by kernel_rfl) (fun x hx => ?_)
  simp only [List.mem_cons, List.mem_nil_iff, or_false] at hx
  rcases hx with rfl | rfl | rfl | rfl | rfl
  · exact lx_ctr .nil (by kernel_rfl) rfl
  · exact lx_ctr .ok (by kernel_rfl) rfl
  · exact lx_ctr (.bad 11 hb.1.1 (by decide)) (by kernel_rfl) rfl
  · exact lx_ctr (.bad 14 hb.1.2 (by decide)) (by kernel_rfl) rfl
  · exact lx_ctr (.bad 15 hb.2 (by decide)) (by kernel_rfl) rfl
end Go.Proofs.YtlfeoiagemlbiaaGreatDoor
