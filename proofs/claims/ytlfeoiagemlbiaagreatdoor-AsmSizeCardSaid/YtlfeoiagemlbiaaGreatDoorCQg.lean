/- A line, as the reference reads it: the contract (what each operand is, is not told). -/
import Derived.Test.YtlfeoiagemlbiaaGreatDoorCQf
import Derived.Test.YtlfeoiagemlbiaaGreatDoorCPf
set_option linter.unusedVariables false
set_option linter.unusedSectionVars false
set_option linter.unusedSimpArgs false
set_option maxRecDepth 100000
noncomputable section
namespace Go.Proofs.YtlfeoiagemlbiaaGreatDoor
open Go.Den Go.Proofs Go.Extern Go.RowKit
variable [Mqc]
noncomputable def fsRp : Func := Tryz.f10
noncomputable def rpZ : IV := .agg [.str [], .str [], .bool false, .nilSlice]
noncomputable def rpA : SE := .app 95 (sy 85 (.v 0)) (.n 0) (.n 0)
noncomputable def rpBase : List Fact := [short (.v 0), lnErr 0]
noncomputable def rpLex (e : Nat) : Ctr := ⟨[.sstr (.v 0)], 9 + 1, [], [short (.v 0), lnErr e], .tuple [rpZ, .agg [.str [99, 111, 108], .sint .i64 (sy 37 (.v 0)), .int .i64 (Int.ofNat e)]], [], []⟩
noncomputable def rpErr : Ctr := ⟨[.sstr (.v 0)], 9 + 1, [], rpBase ++ [(.eq, sy 80 (.v 0), .n 0, false)], .tuple [rpZ, .agg [.str [116, 111, 107, 101, 110], .sint .i64 (sy 81 (.v 0)), .sint .i64 (sy 80 (.v 0))]], [], []⟩
noncomputable def rpOkF (d n : Bool) : List Fact := rpBase ++ [(.eq, sy 80 (.v 0), .n 0, true), (.eq, sy 84 (.v 0), .n 1, d), (.eq, tRows (sy 85 (.v 0)), .n 0, n)]
noncomputable def rpNil (d : Bool) : Ctr := ⟨[.sstr (.v 0)], 9 + 1, [], rpOkF d true, .tuple [.agg [.sstr (sy 82 (.v 0)), .sstr (sy 83 (.v 0)), .bool d, .nilSlice], lxW], [], []⟩
noncomputable def rpOk (d : Bool) : Ctr := ⟨[.sstr (.v 0)], 9 + 1, [], rpOkF d false, .tuple [.agg [.sstr (sy 82 (.v 0)), .sstr (sy 83 (.v 0)), .bool d, .sslice (9 + 1) 1 (.n 0) (tRows rpA) (.n 9223372036854775808)], lxW], [], [.rows 75 1 [.any] rpA 1]⟩
noncomputable def rpS (F : List Fact) : SRes := startS Tryz.prog callq5 fsRp 100000 (stpL []) (bodyOf fsRp) rpErr nmT F
noncomputable def rpNd (c : Ctr) (F : List Fact) (L : List Need) : Bool := needsR Tryz.prog 9 fsRp c (rpS F) L
noncomputable def rpC (i j : Nat) : SE := tCell lnR (.n (Int.ofNat i)) j
noncomputable def rpRows : List Fact := rpBase ++ [(.eq, tRows lnR, .n 0, false), (.lt, tRows lnR, .n 1000000, true), (.lt, .n 0, tRows lnR, true)]
noncomputable def rpTwo : List Fact := [(.lt, .n 1, tRows lnR, true)]
/-- how it begins: 0 .. 3 no label, 4 a label, 5 a register as one -/
noncomputable def rpH (h : Nat) : List Fact := match h with
  | 0 => rpRows ++ [(.lt, .n 1, tRows lnR, false)]
  | 1 => rpRows ++ (rpTwo ++ [(.eq, rpC 0 0, .n 1, false)])
  | 2 => rpRows ++ (rpTwo ++ [(.eq, rpC 0 0, .n 1, true), (.eq, rpC 1 0, .n 3, false)])
  | 3 => rpRows ++ (rpTwo ++ [(.eq, rpC 0 0, .n 1, true), (.eq, rpC 1 0, .n 3, true), (.seq, rpC 1 1, .lit [58], false)])
  | _ => rpRows ++ (rpTwo ++ [(.eq, rpC 0 0, .n 1, true), (.eq, rpC 1 0, .n 3, true), (.seq, rpC 1 1, .lit [58], true), (.le, .n 1, tRows lnR, true), (.le, .app 7 (.n 0) (.n 1) (.n 0), tRows lnR, true), (.eq, .app 70 lnR (.n 0) (.n 1), .n 1, Nat.beq h 5)])
def rpAt (h : Nat) : Nat := bif Nat.beq h 4 then 2 else 0
noncomputable def rpLab (h : Nat) : SE := bif Nat.beq h 4 then rpC 0 1 else .lit []
noncomputable def rpN (i : Nat) : SE := .n (Int.ofNat i)
noncomputable def rpIn (h : Nat) : List Fact := rpH h ++ [(.eq, rpN (rpAt h), tRows lnR, false), (.lt, rpN (rpAt h), tRows lnR, true)]
noncomputable def rpKd (h : Nat) (a b : Bool) : List Fact := rpIn h ++ [(.eq, rpC (rpAt h) 0, .n 1, a), (.eq, rpC (rpAt h) 0, .n 4, b)]
noncomputable def rpLast (h : Nat) (d : Bool) : List Fact := rpKd h (!d) d ++ [(.eq, rpN (rpAt h + 1), tRows lnR, true)]
noncomputable def rpOp (f h : Nat) : SE := .app f lnR (rpN (rpAt h + 1)) (.n 0)
noncomputable def rpArg (h : Nat) (d b : Bool) : List Fact := rpKd h (!d) d ++ [(.eq, rpN (rpAt h + 1), tRows lnR, false), (.lt, rpN (rpAt h + 1), tRows lnR, true), (.eq, rpOp 77 h, .n 0, b), (.le, .n 0, rpOp 78 h, true)]
noncomputable def rpL2 (h : Nat) : List Need := [.s (sy 82 (.v 0)) (rpLab h), .s (sy 83 (.v 0)) (rpC (rpAt h) 1)]
noncomputable def rpA' (h : Nat) : SE := .app 95 (rpOp 76 h) (.n 0) (.n 0)
noncomputable def rpEr (h : Nat) : Bool := rpNd rpErr (rpKd h false false) [.i (sy 81 (.v 0)) (rpN (rpAt h)), .i (sy 80 (.v 0)) (.n 11)]
noncomputable def rpLs (h : Nat) (d : Bool) : Bool := rpNd (rpNil d) (rpLast h d) (rpL2 h)
noncomputable def rpAr (h : Nat) (d : Bool) : Bool := rpNd (rpOk d) (rpArg h d true) (rpL2 h ++ [.i (.n 0) (.n 0), .i (tRows rpA) (tRows (rpA' h)), .i (.n 9223372036854775808) (.n 9223372036854775808), .r rpA (rpA' h)]) && rpNd rpErr (rpArg h d false) [.i (sy 81 (.v 0)) (rpOp 78 h), .i (sy 80 (.v 0)) (.n 11)]
theorem rp_0 : (rpEr 0 && rpLs 0 true && rpLs 0 false) = true := by kernel_rfl
theorem rp_1 : (rpEr 1 && rpAr 1 true) = true := by kernel_rfl
theorem rp_2 : (rpAr 2 false && rpAr 3 false) = true := by kernel_rfl
theorem rp_4 : (rpEr 4 && rpLs 4 true && rpLs 4 false && rpAr 4 true && rpAr 4 false) = true := by kernel_rfl
theorem rp_5 : rpNd rpErr (rpH 5) [.i (sy 81 (.v 0)) (.n 0), .i (sy 80 (.v 0)) (.n 12)] = true := by kernel_rfl
theorem rp_lab : rpNd (rpNil false) (rpH 4 ++ [(.eq, .n 2, tRows lnR, true)]) [.s (sy 82 (.v 0)) (rpC 0 1), .s (sy 83 (.v 0)) (.lit [])] = true := by kernel_rfl
theorem rp_emp : rpNd (rpNil false) (rpBase ++ [(.eq, tRows lnR, .n 0, true)]) [.s (sy 82 (.v 0)) (.lit []), .s (sy 83 (.v 0)) (.lit [])] = true := by kernel_rfl
noncomputable def rpLexB (e : Nat) : Bool := rpNd (rpLex e) [short (.v 0), lnErr e] [.i (sy 37 (.v 0)) (sy 37 (.v 0))]
theorem rp_lex : (rpLexB 11 && rpLexB 14 && rpLexB 15) = true := by kernel_rfl
/-! ### The contract -/
theorem opsG_ne (l : Rw) : ∀ (f p d b : Nat), p ≤ l.length → l.length + 1 - p < f → (opsG l f p d b).2.1 = 0 → (opsG l f p d b).1 ≠ []
  | 0, p, d, b, _, h, _ => by omega
  | f + 1, p, d, b, hp, hf, he => by
    rw [opsG, if_neg (by omega)] at he ⊢
    by_cases h0 : signAt l p = [40]
    · rw [if_pos h0] at he ⊢
      have := signAt_lt (l := l) (p := p) (by rw [h0]; simp)
      exact opsG_ne l f (p + 1) (d + 1) b this (by omega) he
    rw [if_neg h0] at he ⊢
    by_cases h1 : signAt l p = [41]
    · rw [if_pos h1] at he ⊢
      have := signAt_lt (l := l) (p := p) (by rw [h1]; simp)
      exact opsG_ne l f (p + 1) (d - 1) b this (by omega) he
    rw [if_neg h1] at he ⊢
    by_cases h2 : p = l.length ∨ (d = 0 ∧ signAt l p = [44])
    · rw [if_pos h2] at he ⊢
      by_cases h3 : p = b
      · rw [if_pos h3] at he; cases he
      · rw [if_neg h3]; simp
    · rw [if_neg h2] at he ⊢
      exact opsG_ne l f (p + 1) d b (by rcases Nat.lt_or_ge p l.length with h | h; exact h; exact absurd (.inl (by omega)) h2) (by omega) he
inductive RpC : Ctr → Nat → Prop where
  | err : RpC rpErr 0
  | nil (d : Bool) : RpC (rpNil d) 0
  | ok (d : Bool) : RpC (rpOk d) 0
  | bad (e : Nat) (h : rpLexB e = true) (h0 : e ≠ 0) : RpC (rpLex e) e
theorem RpC.short {c : Ctr} {e : Nat} (h : RpC c e) {ρ : Rho} (hF : ∀ x ∈ c.facts, x.holds ρ) : ((ρ 0).s.length : Int) < 1000000 := by
  cases h <;> exact short_of (hF _ List.mem_cons_self)
theorem RpC.lexErr {c : Ctr} {e : Nat} (h : RpC c e) {ρ : Rho} (hF : ∀ x ∈ c.facts, x.holds ρ) : (lexF (ρ 0).s).2.1 = e := by
  have : ((((lexF (ρ 0).s).2.1 : Nat) : Int) == (e : Int)) = true := by
    cases h <;> exact hF _ (List.mem_cons_of_mem _ List.mem_cons_self)
  have := eq_of_beq this
  omega
theorem rp_which {c : Ctr} (hc : RpC c 0) {ρ : Rho} (hF : ∀ x ∈ c.facts, x.holds ρ) :
    (c = rpErr ∧ (parT (ρ 0).s).err ≠ 0) ∨ (∃ d, (c = rpNil d ∧ (parT (ρ 0).s).args = [] ∨ c = rpOk d ∧ (parT (ρ 0).s).args ≠ []) ∧ (parT (ρ 0).s).err = 0 ∧ (parT (ρ 0).s).dot = d) := by
  have hok : ∀ d n, (∀ x ∈ rpOkF d n, x.holds ρ) → (parT (ρ 0).s).err = 0 ∧ (parT (ρ 0).s).dot = d ∧ (n = true → (parT (ρ 0).s).args = []) ∧ (n = false → (parT (ρ 0).s).args ≠ []) := by
    intro d n h
    have g1 : Fact.holds ρ (.eq, sy 80 (.v 0), .n 0, true) := h _ (List.mem_append_right _ List.mem_cons_self)
    have g2 : Fact.holds ρ (.eq, sy 84 (.v 0), .n 1, d) := h _ (List.mem_append_right _ (List.mem_cons_of_mem _ List.mem_cons_self))
    have g3 : Fact.holds ρ (.eq, tRows (sy 85 (.v 0)), .n 0, n) := h _ (List.mem_append_right _ (List.mem_cons_of_mem _ (List.mem_cons_of_mem _ List.mem_cons_self)))
    have g1' := of_eqT g1
    rw [par80] at g1'
    have g2' : ((sy 84 (.v 0)).den ρ == 1) = d := g2
    rw [par84] at g2'
    refine ⟨by omega, ?_, fun hn => ?_, fun hn => ?_⟩
    · rw [← g2']; cases (parT (ρ 0).s).dot <;> rfl
    · subst hn
      have := of_eqT g3
      rw [par85n] at this
      exact List.eq_nil_of_length_eq_zero (by omega)
    · subst hn
      have := of_eqN g3
      rw [par85n] at this
      intro hh; rw [hh] at this; exact this rfl
  generalize he0 : (0 : Nat) = e0 at hc
  cases hc with
  | err =>
    have g1 : Fact.holds ρ (.eq, sy 80 (.v 0), .n 0, false) := hF _ (List.mem_append_right _ List.mem_cons_self)
    have g1' := of_eqN g1
    rw [par80] at g1'
    exact .inl ⟨rfl, by omega⟩
  | nil d => obtain ⟨h1, h2, h3, _⟩ := hok d true hF; exact .inr ⟨d, .inl ⟨rfl, h3 rfl⟩, h1, h2⟩
  | ok d => obtain ⟨h1, h2, _, h3⟩ := hok d false hF; exact .inr ⟨d, .inr ⟨rfl, h3 rfl⟩, h1, h2⟩
  | bad e h h0 => exact absurd he0.symm h0
def RpOut (c : Ctr) (ρ : Rho) : Prop := ∃ (F : List Fact) (rn : List (Nat × Nat)) (L : List Need), (∀ x ∈ F, x.holds ρ) ∧ needsB Tryz.prog 9 fsRp c rn (rpS F) L = true ∧ ∀ n ∈ L, n.ok ρ ρ
theorem rp_finE {c : Ctr} (hc : RpC c 0) {ρ : Rho} (hF : ∀ x ∈ c.facts, x.holds ρ) {F : List Fact} {p : SE} {e : Nat} (hB : rpNd rpErr F [.i (sy 81 (.v 0)) p, .i (sy 80 (.v 0)) (.n (Int.ofNat e))] = true) (hG : ∀ x ∈ F, x.holds ρ) (he : (parT (ρ 0).s).err = e) (hp : ((parT (ρ 0).s).eat : Int) = p.den ρ) (hne : e ≠ 0) : RpOut c ρ := by
  rcases rp_which hc hF with ⟨rfl, _⟩ | ⟨d, _, h0, _⟩
  · exact ⟨F, _, _, hG, hB, nd_cons hp (nd_cons (by show (sy 80 (.v 0)).den ρ = (e : Int); rw [par80, he]) nd_nil)⟩
  · exact absurd (he.symm.trans h0) hne
theorem rp_finN {c : Ctr} (hc : RpC c 0) {ρ : Rho} (hF : ∀ x ∈ c.facts, x.holds ρ) {F : List Fact} {d : Bool} {lab nm : SE} (hB : rpNd (rpNil d) F [.s (sy 82 (.v 0)) lab, .s (sy 83 (.v 0)) nm] = true) (hG : ∀ x ∈ F, x.holds ρ) (he : (parT (ρ 0).s).err = 0) (hd : (parT (ρ 0).s).dot = d) (ha : (parT (ρ 0).s).args = []) (hl : (parT (ρ 0).s).lab = lab.str ρ) (hn : (parT (ρ 0).s).name = nm.str ρ) : RpOut c ρ := by
  rcases rp_which hc hF with ⟨rfl, h⟩ | ⟨d', h, _, h2⟩
  · exact absurd he h
  · rcases h with ⟨rfl, _⟩ | ⟨_, h⟩
    · obtain rfl : d' = d := h2.symm.trans hd
      exact ⟨F, _, _, hG, hB, nd_cons hl (nd_cons hn nd_nil)⟩
    · exact absurd ha h
theorem rp_finO {c : Ctr} (hc : RpC c 0) {ρ : Rho} (hF : ∀ x ∈ c.facts, x.holds ρ) {F : List Fact} {d : Bool} {lab nm A : SE} (hB : rpNd (rpOk d) F ([.s (sy 82 (.v 0)) lab, .s (sy 83 (.v 0)) nm] ++ [.i (.n 0) (.n 0), .i (tRows rpA) (tRows A), .i (.n 9223372036854775808) (.n 9223372036854775808), .r rpA A]) = true) (hG : ∀ x ∈ F, x.holds ρ) (he : (parT (ρ 0).s).err = 0) (hd : (parT (ρ 0).s).dot = d) (ha : (parT (ρ 0).s).args ≠ []) (hl : (parT (ρ 0).s).lab = lab.str ρ) (hn : (parT (ρ 0).s).name = nm.str ρ) (hA : anyR ((parT (ρ 0).s).args.map argR) = A.row ρ) : RpOut c ρ := by
  rcases rp_which hc hF with ⟨rfl, h⟩ | ⟨d', h, _, h2⟩
  · exact absurd he h
  · rcases h with ⟨_, h⟩ | ⟨rfl, _⟩
    · exact absurd h ha
    · obtain rfl : d' = d := h2.symm.trans hd
      have hr : rpA.row ρ = A.row ρ := hA
      exact ⟨F, _, _, hG, hB, nd_cons hl (nd_cons hn (nd_cons rfl (nd_cons (by show (((rpA.row ρ).length : Nat) : Int) = (((A.row ρ).length : Nat) : Int); rw [hr]) (nd_cons rfl (nd_cons hr nd_nil)))))⟩
theorem rp_rows (ρ : Rho) : (tRows lnR).den ρ = ((lexR (ρ 0).s).length : Int) := rfl
theorem rp_k (ρ : Rho) (i : Nat) : (rpC i 0).den ρ = tkK (lexR (ρ 0).s) i := by
  show (cellAt (lexR (ρ 0).s) ((i : Int)).toNat ((0 : Nat) : Int).toNat).1 = _
  rw [Int.toNat_natCast]; rfl
theorem rp_t (ρ : Rho) (i : Nat) : (rpC i 1).str ρ = tkT (lexR (ρ 0).s) i := by
  show (cellAt (lexR (ρ 0).s) ((i : Int)).toNat ((1 : Nat) : Int).toNat).2 = _
  rw [Int.toNat_natCast]; rfl
theorem rp_op (ρ : Rho) (f h : Nat) : ((rpN (rpAt h + 1)).D ρ).i.toNat = rpAt h + 1 := Int.toNat_natCast _
/-- behind the label -/
theorem rp_go {c : Ctr} (hc : RpC c 0) {ρ : Rho} (hF : ∀ x ∈ c.facts, x.holds ρ) (h : Nat) (hH : ∀ x ∈ rpH h, x.holds ρ) {lab : List UInt8} (hp : parT (ρ 0).s = parG (lexR (ρ 0).s) lab (rpAt h)) (hl : lab = (rpLab h).str ρ) (hlt : rpAt h < (lexR (ρ 0).s).length)
    (hE : tkK (lexR (ρ 0).s) (rpAt h) ≠ 1 → rpEr h = true) (hL : ∀ d, d = decide (tkK (lexR (ρ 0).s) (rpAt h) = 4) → (tkK (lexR (ρ 0).s) (rpAt h) = 4 ∨ tkK (lexR (ρ 0).s) (rpAt h) = 1) → (lexR (ρ 0).s).length = rpAt h + 1 → rpLs h d = true)
    (hA : ∀ d, d = decide (tkK (lexR (ρ 0).s) (rpAt h) = 4) → (tkK (lexR (ρ 0).s) (rpAt h) = 4 ∨ tkK (lexR (ρ 0).s) (rpAt h) = 1) → rpAt h + 1 < (lexR (ρ 0).s).length → rpAr h d = true) : RpOut c ρ := by
  obtain ⟨l, hll⟩ : ∃ l, l = lexR (ρ 0).s := ⟨_, rfl⟩
  rw [← hll] at hp hlt hE hL hA
  have hrow : (tRows lnR).den ρ = (l.length : Int) := by rw [rp_rows, hll]
  have hk : (rpC (rpAt h) 0).den ρ = tkK l (rpAt h) := by rw [rp_k, hll]
  have htx : (rpC (rpAt h) 1).str ρ = tkT l (rpAt h) := by rw [rp_t, hll]
  have eN : ∀ i : Nat, (rpN i).den ρ = (i : Int) := fun i => rfl
  have hIn : ∀ x ∈ rpIn h, x.holds ρ := fl_app hH (fl_cons (by
    show ((rpN (rpAt h)).den ρ == (tRows lnR).den ρ) = false
    rw [eN, hrow, beq_eq_false_iff_ne]; omega) (fl_cons (ltT (by rw [eN, hrow]; omega)) fl_nil))
  have hKd : ∀ a b, a = decide (tkK l (rpAt h) = 1) → b = decide (tkK l (rpAt h) = 4) → ∀ x ∈ rpKd h a b, x.holds ρ := fun a b ha hb => fl_app hIn (fl_cons (eqB_ok a (by rw [hk, ha])) (fl_cons (eqB_ok b (by rw [hk, hb])) fl_nil))
  unfold parG at hp
  rw [if_neg (by omega)] at hp
  by_cases h41 : tkK l (rpAt h) = 4 ∨ tkK l (rpAt h) = 1
  · rw [if_pos h41] at hp
    obtain ⟨d, hd⟩ : ∃ d, d = decide (tkK l (rpAt h) = 4) := ⟨_, rfl⟩
    have hnd : (!d) = decide (tkK l (rpAt h) = 1) := by
      rw [hd]
      rcases h41 with h4 | h1
      · rw [h4]; rfl
      · rw [h1]; rfl
    have hK := hKd (!d) d hnd hd
    by_cases hend : l.length = rpAt h + 1
    · have ho : opsF l (rpAt h + 1) = ([], 0, 0) := by unfold opsF; rw [if_pos hend.symm]
      rw [ho, if_pos rfl] at hp
      refine rp_finN hc hF (hL d hd h41 hend) (fl_app hK (fl_cons ?_ fl_nil)) (by rw [hp]) (by rw [hp, hd]) (by rw [hp]) (by rw [hp, hl]) (by rw [hp, htx])
      show ((rpN (rpAt h + 1)).den ρ == (tRows lnR).den ρ) = true
      rw [eN, hrow, hend]; simp
    · have hlt2 : rpAt h + 1 < l.length := by omega
      have hck := hA d hd h41 hlt2
      unfold rpAr at hck
      rw [Bool.and_eq_true] at hck
      have e77 : (rpOp 77 h).den ρ = ((opsF l (rpAt h + 1)).2.1 : Int) := by
        show ((((opsF (lexR (ρ 0).s) ((rpN (rpAt h + 1)).D ρ).i.toNat).2.1 : Nat)) : Int) = _
        rw [rp_op ρ 0, ← hll]
      have e78 : (rpOp 78 h).den ρ = (((opsF l (rpAt h + 1)).2.2 : Nat) : Int) := by
        show ((((opsF (lexR (ρ 0).s) ((rpN (rpAt h + 1)).D ρ).i.toNat).2.2 : Nat)) : Int) = _
        rw [rp_op ρ 0, ← hll]
      have hG : ∀ b, b = decide ((opsF l (rpAt h + 1)).2.1 = 0) → ∀ x ∈ rpArg h d b, x.holds ρ := fun b hb => fl_app hK (fl_cons (by
        show ((rpN (rpAt h + 1)).den ρ == (tRows lnR).den ρ) = false
        rw [eN, hrow, beq_eq_false_iff_ne]; omega) (fl_cons (ltT (by rw [eN, hrow]; omega)) (fl_cons (eqB_ok b (by rw [e77, hb, decide_eq_decide]; omega)) (fl_cons (leT (by rw [e78, den_n]; omega)) fl_nil))))
      by_cases h0 : (opsF l (rpAt h + 1)).2.1 = 0
      · rw [if_pos h0] at hp
        refine rp_finO hc hF hck.1 (hG true (decide_eq_true h0).symm) (by rw [hp]) (by rw [hp, hd]) ?_ (by rw [hp, hl]) (by rw [hp, htx]) ?_
        · rw [hp]
          show (opsF l (rpAt h + 1)).1 ≠ []
          unfold opsF at h0 ⊢
          rw [if_neg (by omega)] at h0 ⊢
          exact opsG_ne l _ _ _ _ (by omega) (by omega) h0
        · rw [hp]
          show anyR ((opsF l (rpAt h + 1)).1.map argR) = anyR ((opsF (lexR (ρ 0).s) ((rpN (rpAt h + 1)).D ρ).i.toNat).1.map argR)
          rw [rp_op ρ 0, ← hll]
      · rw [if_neg h0] at hp
        exact rp_finE hc hF (e := 11) hck.2 (hG false (decide_eq_false h0).symm) (by rw [hp]) (by rw [hp, e78]) (by decide)
  · rw [if_neg h41] at hp
    have h4 : tkK l (rpAt h) ≠ 4 := fun h => h41 (.inl h)
    have h1 : tkK l (rpAt h) ≠ 1 := fun h => h41 (.inr h)
    exact rp_finE hc hF (e := 11) (hE h1) (hKd false false (decide_eq_false h1).symm (decide_eq_false h4).symm) (by rw [hp]) (by rw [hp]; rfl) (by decide)
theorem rp_out {c : Ctr} (hc : RpC c 0) {ρ : Rho} (hF : ∀ x ∈ c.facts, x.holds ρ) : RpOut c ρ := by
  have hsh := hc.short hF
  have hle := hc.lexErr hF
  have hB : ∀ x ∈ rpBase, Fact.holds ρ x := fl_cons (ltT hsh) (fl_cons (eqF_ok (t := sy 36 (.v 0)) (by show (((lexF (ρ 0).s).2.1 : Nat) : Int) = _; rw [hle]; rfl)) fl_nil)
  have hfew : (lexR (ρ 0).s).length ≤ (ρ 0).s.length := by unfold lexR; rw [List.length_map]; exact lexG_short _ _ _
  obtain ⟨l, hl⟩ : ∃ l, l = lexR (ρ 0).s := ⟨_, rfl⟩
  have hpT : parT (ρ 0).s = parF l := by rw [hl]; rfl
  rw [← hl] at hfew
  have hrow : (tRows lnR).den ρ = (l.length : Int) := by rw [rp_rows, hl]
  have c0 := rp_0; have c1 := rp_1; have c2 := rp_2; have c4 := rp_4
  simp only [Bool.and_eq_true] at c0 c1 c2 c4
  by_cases he : l.length = 0
  · have hp : parT (ρ 0).s = ⟨0, 0, [], [], false, []⟩ := by
      rw [hpT]; unfold parF labB
      rw [show decide (0 < l.length) = false from decide_eq_false (by omega)]
      simp only [Bool.and_false, Bool.false_and]
      rw [if_neg (by decide)]
      unfold parG
      rw [if_pos (by omega)]
    exact rp_finN hc hF rp_emp (fl_app hB (fl_cons (eqF_ok (by rw [hrow, he]; rfl)) fl_nil)) (by rw [hp]) (by rw [hp]) (by rw [hp]) (by rw [hp]; rfl) (by rw [hp]; rfl)
  have hR : ∀ x ∈ rpRows, Fact.holds ρ x := fl_app hB (fl_cons (neF_ok (by rw [hrow]; omega)) (fl_cons (ltT (by rw [hrow, den_n]; omega)) (fl_cons (ltT (by rw [hrow, den_n]; omega)) fl_nil)))
  have nolab : labB l = false → parT (ρ 0).s = parG (lexR (ρ 0).s) [] 0 := fun h => by rw [hpT, ← hl]; unfold parF; rw [if_neg (by rw [h]; decide)]
  by_cases h1 : 1 < l.length
  · have hTw : ∀ x ∈ rpTwo, Fact.holds ρ x := fl_cons (ltT (by rw [den_n, hrow]; omega)) fl_nil
    have k0 : (rpC 0 0).den ρ = tkK l 0 := by rw [rp_k, hl]
    have k1 : (rpC 1 0).den ρ = tkK l 1 := by rw [rp_k, hl]
    have t1 : (rpC 1 1).str ρ = tkT l 1 := by rw [rp_t, hl]
    by_cases hk0 : tkK l 0 = 1
    · have hsg : ∀ s : List UInt8, s ≠ [] → (signAt l 1 = s ↔ tkK l 1 = 3 ∧ tkT l 1 = s) := fun s hs => by
        unfold signAt
        by_cases h3 : tkK l 1 = 3
        · rw [if_pos ⟨h1, h3⟩]; exact ⟨fun h => ⟨h3, h⟩, fun h => h.2⟩
        · rw [if_neg (fun h => h3 h.2)]; exact ⟨fun h => absurd h.symm hs, fun h => absurd h.1 h3⟩
      have n1 : tkK (lexR (ρ 0).s) (rpAt 2) = 1 := by rw [← hl]; exact hk0
      have go : ∀ h, rpAt h = 0 → (rpLab h).str ρ = [] → rpAr h false = true → (∀ x ∈ rpH h, Fact.holds ρ x) → labB l = false → RpOut c ρ := fun h ha hlb hck hH hlab => by
        refine rp_go hc hF h hH (by rw [ha]; exact nolab hlab) hlb.symm (by rw [ha, ← hl]; omega) (fun hn => absurd (by rw [ha, ← hl]; exact hk0) hn) (fun d _ _ hh => ?_) (fun d hd _ _ => ?_)
        · rw [ha, ← hl] at hh; omega
        · rw [ha, ← hl, hk0] at hd
          have : d = false := hd
          subst this; exact hck
      by_cases hk1 : tkK l 1 = 3
      · by_cases hc1 : tkT l 1 = [58]
        · have hlab : labB l = true := by
            unfold labB
            rw [decide_eq_true hk0, decide_eq_true (show 0 < l.length by omega), decide_eq_true ((hsg [58] (by decide)).2 ⟨hk1, hc1⟩)]; rfl
          have hLab : ∀ h, 4 ≤ h → Nat.beq h 5 = (regF l 0 1).isSome → rpH h = rpH (bif Nat.beq h 5 then 5 else 4) → ∀ x ∈ rpRows ++ (rpTwo ++ [(.eq, rpC 0 0, .n 1, true), (.eq, rpC 1 0, .n 3, true), (.seq, rpC 1 1, .lit [58], true), (.le, .n 1, tRows lnR, true), (.le, .app 7 (.n 0) (.n 1) (.n 0), tRows lnR, true), (.eq, .app 70 lnR (.n 0) (.n 1), .n 1, Nat.beq h 5)]), Fact.holds ρ x := fun h _ hr _ =>
            fl_app hR (fl_app hTw (fl_cons (eqF_ok (by rw [k0, hk0])) (fl_cons (eqF_ok (by rw [k1, hk1])) (fl_cons (seqT (by rw [t1, hc1])) (fl_cons (leT (by rw [den_n, hrow]; omega)) (fl_cons (leT (by rw [hrow]; show (0 : Int) + 1 ≤ _; omega)) (fl_cons (eqB_ok (Nat.beq h 5) (by
              show decide (b01 (regF (lexR (ρ 0).s) 0 1).isSome = 1) = _
              rw [← hl, hr]; cases (regF l 0 1).isSome <;> rfl)) fl_nil)))))))
          by_cases hr : (regF l 0 1).isSome = true
          · have hp : parT (ρ 0).s = ⟨12, 0, [], [], false, []⟩ := by rw [hpT]; unfold parF; rw [if_pos hlab, if_pos hr]
            exact rp_finE hc hF (e := 12) rp_5 (hLab 5 (by decide) hr.symm rfl) (by rw [hp]) (by rw [hp]; rfl) (by decide)
          · have hp : parT (ρ 0).s = parG l (tkT l 0) 2 := by rw [hpT]; unfold parF; rw [if_pos hlab, if_neg hr]
            have hH := hLab 4 (by decide) (by rw [Bool.eq_false_iff.2 hr]; rfl) rfl
            have t0 : (rpC 0 1).str ρ = tkT l 0 := by rw [rp_t, hl]
            by_cases h2 : l.length ≤ 2
            · unfold parG at hp
              rw [if_pos h2] at hp
              refine rp_finN hc hF rp_lab (fl_app hH (fl_cons ?_ fl_nil)) (by rw [hp]) (by rw [hp]) (by rw [hp]) (by rw [hp, t0]) (by rw [hp]; rfl)
              show ((2 : Int) == (tRows lnR).den ρ) = true
              rw [hrow, show l.length = 2 by omega]; rfl
            · exact rp_go hc hF 4 hH (by rw [hp, hl]; rfl) t0.symm (by rw [← hl]; show 2 < _; omega) (fun _ => c4.1.1.1.1) (fun d _ _ _ => by cases d; exact c4.1.1.2; exact c4.1.1.1.2) (fun d _ _ _ => by cases d; exact c4.2; exact c4.1.2)
        · have hlab : labB l = false := by
            unfold labB
            rw [decide_eq_false (fun h => hc1 ((hsg [58] (by decide)).1 h).2)]; simp
          exact go 3 rfl rfl c2.2 (fl_app hR (fl_app hTw (fl_cons (eqF_ok (by rw [k0, hk0])) (fl_cons (eqF_ok (by rw [k1, hk1])) (fl_cons (seqN (by rw [t1]; exact hc1)) fl_nil))))) hlab
      · have hlab : labB l = false := by
          unfold labB
          rw [decide_eq_false (fun h => hk1 ((hsg [58] (by decide)).1 h).1)]; simp
        exact go 2 rfl rfl c2.1 (fl_app hR (fl_app hTw (fl_cons (eqF_ok (by rw [k0, hk0])) (fl_cons (neF_ok (by rw [k1]; exact hk1)) fl_nil)))) hlab
    · have hlab : labB l = false := by
        unfold labB
        rw [decide_eq_false hk0]; rfl
      refine rp_go hc hF 1 (fl_app hR (fl_app hTw (fl_cons (neF_ok (by rw [k0]; exact hk0)) fl_nil))) (nolab hlab) rfl (by rw [← hl]; show 0 < _; omega) (fun _ => c1.1) (fun d _ _ hh => ?_) (fun d hd h41 _ => ?_)
      · have hh' : (lexR (ρ 0).s).length = 0 + 1 := hh
        rw [← hl] at hh'; omega
      · rw [← hl] at hd h41
        have h4 : tkK l 0 = 4 := by
          rcases h41 with h | h
          · exact h
          · exact absurd h hk0
        have : d = true := by rw [hd]; exact decide_eq_true h4
        subst this; exact c1.2
  · have hlab : labB l = false := by
      unfold labB
      have : signAt l 1 ≠ [58] := fun h => by
        have := signAt_lt (l := l) (p := 1) (by rw [h]; simp)
        omega
      rw [decide_eq_false this]; simp
    refine rp_go hc hF 0 (fl_app hR (fl_cons (ltN (by rw [den_n, hrow]; omega)) fl_nil)) (nolab hlab) rfl (by rw [← hl]; show 0 < _; omega) (fun _ => c0.1.1) (fun d _ _ _ => by cases d; exact c0.2; exact c0.1.2) (fun d _ _ hh => ?_)
    have hh' : 0 + 1 < (lexR (ρ 0).s).length := hh
    rw [← hl] at hh'; omega
theorem rp_ctr {c : Ctr} {e : Nat} (hc : RpC c e) (ht : enterD c.args fsRp.ntmps 0 .nil = some nmT) (hS : ∀ F, startS Tryz.prog callq5 fsRp 100000 (stpL []) (bodyOf fsRp) c nmT F = rpS F) : CtrOK Tryz.prog 10 c := by
  refine ctr_fin (fuel := 100000) (stp := stpL []) gsz mixed (runD_ok static knq5_ok 20) Tryz.func10 (by kernel_rfl) (show fsRp.body = some (bodyOf fsRp) by kernel_rfl) (by kernel_rfl) ht (fun ρ hF => ?_)
  suffices h : RpOut c ρ by
    obtain ⟨F, rn, L, h1, h2, h3⟩ := h
    exact ⟨F, rn, L, h1, by rw [← hS F] at h2; exact h2, h3⟩
  by_cases he : e = 0
  · subst he; exact rp_out hc hF
  · cases hc with
    | bad e hB h0 => exact ⟨[Go.Proofs.YtlfeoiagemlbiaaGreatDoor.short (.v 0), lnErr e], _, _, hF, hB, nd_cons rfl nd_nil⟩
    | err => exact absurd rfl he
    | nil d => exact absurd rfl he
    | ok d => exact absurd rfl he
noncomputable def gRp : Gn := gC Tryz.prog 9 rpErr [rpNil false, rpNil true, rpOk false, rpOk true, rpLex 11, rpLex 14, rpLex 15]
theorem gRp_ok : GoodAt Tryz.prog 10 gRp := by
  have hb := rp_lex
  simp only [Bool.and_eq_true] at hb
  refine good_C gsz (by kernel_rfl) (fun x hx => ?_)
  simp only [List.mem_cons, List.mem_nil_iff, or_false] at hx
  rcases hx with rfl | rfl | rfl | rfl | rfl | rfl | rfl | rfl
  · exact rp_ctr .err (by kernel_rfl) (fun _ => rfl)
  · exact rp_ctr (.nil false) (by kernel_rfl) (fun _ => rfl)
  · exact rp_ctr (.nil true) (by kernel_rfl) (fun _ => rfl)
  · exact rp_ctr (.ok false) (by kernel_rfl) (fun _ => rfl)
  · exact rp_ctr (.ok true) (by kernel_rfl) (fun _ => rfl)
  · exact rp_ctr (.bad 11 hb.1.1 (by decide)) (by kernel_rfl) (fun _ => rfl)
  · exact rp_ctr (.bad 14 hb.1.2 (by decide)) (by kernel_rfl) (fun _ => rfl)
  · exact rp_ctr (.bad 15 hb.2 (by decide)) (by kernel_rfl) (fun _ => rfl)
end Go.Proofs.YtlfeoiagemlbiaaGreatDoor
