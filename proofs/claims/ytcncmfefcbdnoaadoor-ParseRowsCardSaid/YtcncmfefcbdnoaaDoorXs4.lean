/- An evaluator for the model's code over values and memory of its own, and that it is right; plain words for what the program computes. -/
import Derived.Test.YtcncmfefcbdnoaaDoorXs3
/- Pr -/
/- Registers, operands, lines: plain words; symbols for these. -/
set_option linter.unusedVariables false
set_option linter.unusedSimpArgs false
noncomputable section
namespace Go.Den
/-! ### A number that may have a sign ahead -/
def signed (s : List UInt8) : Bool := s.head? == some 45 || s.head? == some 43
def atoiT (s : List UInt8) : List UInt8 := if signed s then s.drop 1 else s
/-- is it one? -/
def atoiB (s : List UInt8) : Bool := !(atoiT s).isEmpty && (atoiT s).all isDec
def atoiV (s : List UInt8) : Int := if s.head? = some 45 then -(valF 10 (atoiT s) : Int) else (valF 10 (atoiT s) : Int)
theorem digV_dec {c : UInt8} (h : isDec c = true) : digV c = c.toNat - 48 ∧ 48 ≤ c.toNat ∧ c.toNat ≤ 57 := by
  unfold isDec at h
  simp only [Bool.and_eq_true, Nat.ble_eq] at h
  refine ⟨?_, h.1, h.2⟩
  unfold digV
  rw [show Nat.ble c.toNat 57 = true from Nat.ble_eq.mpr h.2, cond_true]
theorem val_lt : ∀ s : List UInt8, s.all isDec = true → valF 10 s < 10 ^ s.length := by
  have key : ∀ (s : List UInt8) (n k : Nat), s.all isDec = true → n < 10 ^ k → s.foldl (fun n c => n * 10 + digV c) n < 10 ^ (k + s.length) := by
    intro s
    induction s with
    | nil => intro n k _ h; exact h
    | cons c s ih =>
      intro n k hs hn
      simp only [List.all_cons, Bool.and_eq_true] at hs
      obtain ⟨h1, h2, h3⟩ := digV_dec hs.1
      have := ih (n * 10 + digV c) (k + 1) hs.2 (by rw [h1, Nat.pow_succ]; omega)
      rw [List.foldl_cons, List.length_cons, show k + (s.length + 1) = k + 1 + s.length by omega]
      exact this
  intro s hs
  have := key s 0 0 hs (by decide)
  rw [Nat.zero_add] at this
  exact this
/-! ### Registers -/
/-- c0 to c15 -/
def regText (n : Nat) : List UInt8 := 99 :: decF n
def regN (s : List UInt8) : Option Nat := (List.range 16).find? fun n => s == regText n
theorem regN_some {s : List UInt8} {n : Nat} (h : regN s = some n) : n < 16 ∧ s = regText n := by
  unfold regN at h
  have h1 := List.find?_some h
  have h2 := List.mem_of_find?_eq_some h
  exact ⟨List.mem_range.1 h2, eq_of_beq h1⟩
set_option maxRecDepth 100000 in
theorem regN_text0 : ∀ n : Fin 16, regN (regText n.val) = some n.val ∧ atoiB (decF n.val) = true ∧ atoiV (decF n.val) = (n.val : Int) := by decide +kernel
theorem regN_text {n : Nat} (h : n < 16) : regN (regText n) = some n := (regN_text0 ⟨n, h⟩).1
theorem atoi_dec {n : Nat} (h : n < 16) : atoiB (decF n) = true ∧ atoiV (decF n) = (n : Int) := (regN_text0 ⟨n, h⟩).2
theorem regN_none {s : List UInt8} (h : ∀ n, n < 16 → s ≠ regText n) : regN s = none := by
  unfold regN
  rw [List.find?_eq_none]
  intro n hn
  simp only [beq_iff_eq]
  exact h n (List.mem_range.1 hn)
/-- a register, of some words: from a place, how many -/
def regF (l : Rw) (o n : Nat) : Option Nat := if n = 1 ∧ tkK l o = 1 then regN (tkT l o) else none
/-- names are short -/
def shortNames (l : Rw) : Bool := l.all fun r => !((r[0]?).getD (0, [])).1 == 1 || Nat.ble ((r[1]?).getD (0, [])).2.length 16
/-! ### Operands -/
/-- what stands between commas: from where, how many; 1: one is empty, at which -/
def opsG (l : Rw) : Nat → Nat → Nat → Nat → List (Nat × Nat) × Nat × Nat
  | 0, _, _, _ => ([], 0, 0)
  | f + 1, p, deep, b => if l.length < p then ([], 0, 0)
    else if signAt l p = [40] then opsG l f (p + 1) (deep + 1) b
    else if signAt l p = [41] then opsG l f (p + 1) (deep - 1) b
    else if p = l.length ∨ (deep = 0 ∧ signAt l p = [44]) then
      (if p = b then ([], 1, p) else ((b, p - b) :: (opsG l f (p + 1) deep (p + 1)).1, (opsG l f (p + 1) deep (p + 1)).2))
    else opsG l f (p + 1) deep b
def opsF (l : Rw) (p : Nat) : List (Nat × Nat) × Nat × Nat := if p = l.length then ([], 0, 0) else opsG l (l.length + 2) p 0 p
def argR (a : Nat × Nat) : List (Int × List UInt8) := [((a.1 : Int), []), ((a.2 : Int), [])]
/-! ### Lines -/
structure ParR where
  err : Nat
  eat : Nat
  lab : List UInt8
  name : List UInt8
  dot : Bool
  args : List (Nat × Nat)
def labB (l : Rw) : Bool := decide (tkK l 0 = 1) && decide (0 < l.length) && decide (signAt l 1 = [58])
/-- behind the label -/
def parG (l : Rw) (lab : List UInt8) (p : Nat) : ParR :=
  if l.length ≤ p then ⟨0, 0, lab, [], false, []⟩
  else if tkK l p = 4 ∨ tkK l p = 1 then (if (opsF l (p + 1)).2.1 = 0 then ⟨0, 0, lab, tkT l p, decide (tkK l p = 4), (opsF l (p + 1)).1⟩ else ⟨11, (opsF l (p + 1)).2.2, [], [], false, []⟩)
  else ⟨11, p, [], [], false, []⟩
def parF (l : Rw) : ParR := if labB l = true then (if (regF l 0 1).isSome then ⟨12, 0, [], [], false, []⟩ else parG l (tkT l 0) 2) else parG l [] 0
def parT (s : List UInt8) : ParR := parF (lexR s)
/-- are the cells bytes? -/
def cell0 (r : List (Int × List UInt8)) : Int := match r with
  | c :: _ => c.1
  | [] => 0
def bytesR (l : Rw) : Bool := l.all fun r => decide (0 ≤ cell0 r) && decide (cell0 r < 256)
class Mpr where
  w : Nat → Dy → Dy → Dy → Dy
def optI (o : Option Nat) : Int := match o with
  | some n => n
  | none => 0
def pΦ [Mpr] (f : Nat) (a b c : Dy) : Dy := match f with
  | 70 => dyI (b01 (regF a.r b.i.toNat c.i.toNat).isSome)
  | 71 => dyI (optI (regF a.r b.i.toNat c.i.toNat))
  | 72 => dyI (b01 (shortNames a.r))
  | 73 => dyI (b01 (atoiB a.s))
  | 74 => dyI (atoiV a.s)
  | 75 => dyS (decF a.i.toNat)
  | 76 => dyR ((opsF a.r b.i.toNat).1.map argR)
  | 77 => dyI (opsF a.r b.i.toNat).2.1
  | 78 => dyI (opsF a.r b.i.toNat).2.2
  | 79 => dyI (b01 (bytesR a.r))
  | 80 => dyI (parT a.s).err
  | 81 => dyI (parT a.s).eat
  | 82 => dyS (parT a.s).lab
  | 83 => dyS (parT a.s).name
  | 84 => dyI (b01 (parT a.s).dot)
  | 85 => dyR ((parT a.s).args.map argR)
  | n => Mpr.w n a b c
instance [Mpr] : Mez := ⟨pΦ⟩
end Go.Den

/- Ps -/
/- Words have kinds; names are short; the cases of a line. -/
set_option linter.unusedVariables false
set_option linter.unusedSimpArgs false
noncomputable section
namespace Go.Den
theorem wordF_good {c : UInt8} {r : List UInt8} (h : (wordF (c :: r)).err = 0) : 1 ≤ (wordF (c :: r)).kind ∧ ((wordF (c :: r)).kind = 1 → (wordF (c :: r)).text.length ≤ 16) := by
  have key : ∀ k, kindF c.toNat = k → (wordF (c :: r)).err = 0 → 1 ≤ (wordF (c :: r)).kind ∧ ((wordF (c :: r)).kind = 1 → (wordF (c :: r)).text.length ≤ 16) := by
    intro k hk
    unfold wordF
    simp only [hk]
    match k, hk with
    | 0, _ => intro h; cases h
    | 1, hk =>
      intro h
      simp only at h ⊢
      cases hb : Nat.ble (tw isWord (c :: r)) 16 with
      | true =>
        have := Nat.ble_eq.mp hb
        simp only [cond_true]
        exact ⟨Nat.le_refl _, fun _ => Nat.le_trans (List.length_take_le _ _) this⟩
      | false => rw [hb] at h; cases h
    | 2, hk => intro h; exact ⟨by show 1 ≤ 2; decide, fun h => absurd h (by show (2 : Nat) ≠ 1; decide)⟩
    | 3, hk =>
      intro h
      simp only at h ⊢
      cases hb : Nat.beq (tw isLow r) 0 with
      | true => rw [hb] at h; cases h
      | false => simp only [cond_false]; exact ⟨by decide, fun h => absurd h (by decide)⟩
    | 4, hk =>
      intro h
      simp only at h ⊢
      cases hb : ((r.drop (tw isText r)).head? == some 34) with
      | false => rw [hb] at h; cases h
      | true => simp only [cond_true]; exact ⟨by decide, fun h => absurd h (by decide)⟩
    | 5, hk => intro h; exact ⟨by show 1 ≤ 3; decide, fun h => absurd h (by show (3 : Nat) ≠ 1; decide)⟩
    | 6, hk =>
      intro h
      simp only at h ⊢
      cases hb : (r.head? == some c) with
      | false => rw [hb] at h; cases h
      | true => simp only [cond_true]; exact ⟨by decide, fun h => absurd h (by decide)⟩
    | k + 7, _ => intro h; cases h
  exact key _ rfl h
theorem lexG_good : ∀ (f : Nat) (s : List UInt8) (p : Nat), ∀ t ∈ (lexG f s p).1, 1 ≤ t.1 ∧ (t.1 = 1 → t.2.1.length ≤ 16)
  | 0, _, _ => fun t h => by cases h
  | f + 1, s, p => fun t h => by
    unfold lexG at h
    split at h
    · cases h
    · rename_i c r _
      cases h7 : Nat.beq (kindF c.toNat) 7 with
      | true => rw [h7] at h; cases h
      | false =>
        rw [h7] at h
        simp only [cond_false] at h
        cases he : Nat.beq (wordF (c :: r)).err 0 with
        | false => rw [he] at h; cases h
        | true =>
          rw [he] at h
          simp only [cond_true] at h
          rcases List.mem_cons.1 h with rfl | h
          · exact wordF_good (Nat.eq_of_beq_eq_true he)
          · exact lexG_good f _ _ t h
theorem lexR_kind (s : List UInt8) {i : Nat} (h : i < (lexR s).length) : 1 ≤ tkK (lexR s) i := by
  unfold lexR at h ⊢
  rw [List.length_map] at h
  have hm := List.getElem_mem h
  have hg := (lexG_good _ _ _ _ hm).1
  unfold tkK cellAt
  rw [List.getElem?_map, List.getElem?_eq_getElem h]
  show (1 : Int) ≤ (((lexF s).1[i].1 : Nat) : Int)
  omega
theorem lexR_names (s : List UInt8) : shortNames (lexR s) = true := by
  unfold shortNames lexR
  rw [List.all_eq_true]
  intro r hr
  obtain ⟨t, ht, rfl⟩ := List.mem_map.1 hr
  have hg := (lexG_good _ _ _ _ ht).2
  show (!((t.1 : Int) == 1) || Nat.ble t.2.1.length 16) = true
  by_cases h1 : t.1 = 1
  · rw [Bool.or_eq_true]; exact .inr (Nat.ble_eq.mpr (hg h1))
  · rw [Bool.or_eq_true]; refine .inl ?_
    rw [Bool.not_eq_true', beq_eq_false_iff_ne]; omega
theorem lexG_short : ∀ (f : Nat) (s : List UInt8) (p : Nat), (lexG f s p).1.length ≤ s.length
  | 0, s, p => Nat.zero_le _
  | f + 1, s, p => by
    unfold lexG
    cases hd : s.drop (tw isBlank s) with
    | nil => exact Nat.zero_le _
    | cons c r =>
      simp only
      cases Nat.beq (kindF c.toNat) 7 with
      | true => exact Nat.zero_le _
      | false =>
        cases he : Nat.beq (wordF (c :: r)).err 0 with
        | false => exact Nat.zero_le _
        | true =>
          have hl := wordF_len (c := c) (r := r) (Nat.eq_of_beq_eq_true he)
          have h1 : (c :: r).length ≤ s.length := by rw [← hd]; simp
          have ih := lexG_short f ((c :: r).drop (wordF (c :: r)).len) (p + tw isBlank s + (wordF (c :: r)).len)
          simp only [cond_false, cond_true, List.length_cons]
          simp only [List.length_drop, List.length_cons] at ih h1
          omega
end Go.Den

/- Pw -/
/- A line of as many operands: its text, its words, what it is as a line. -/
set_option linter.unusedVariables false
set_option linter.unusedSimpArgs false
noncomputable section
namespace Go.Den
def pieceT (h : Bool) (n : Nat) : List UInt8 := bif h then [40, 49, 44, 32, 50, 44, 32] ++ regText n ++ [41] else regText n
/-- the text of the first of some operands; which one stands in brackets -/
def rowsT (l : List Nat) (j : Nat) : Nat → List UInt8
  | 0 => [108, 97, 98, 58, 32, 111, 112, 32]
  | i + 1 => ((bif Nat.blt 0 i then rowsT l j i ++ [44, 32] else rowsT l j i) ++ pieceT (Nat.beq i j) (l.getD i 0))
/-- how many words a piece is -/
def pieceN (h : Bool) : Nat := bif h then 7 else 1
/-- where a piece begins -/
def pieceP (j : Nat) : Nat → Nat
  | 0 => 3
  | i + 1 => pieceP j i + pieceN (Nat.beq i j) + 1
def argsT (j : Nat) (n : Nat) : List (Nat × Nat) := (List.range n).map fun i => (pieceP j i, pieceN (Nat.beq i j))
/-- the words of a piece -/
def pieceK (h : Bool) (n : Nat) : List Tk3 := bif h then [(3, [40], 0), (2, [49], 1), (3, [44], 0), (2, [50], 2), (3, [44], 0), (1, regText n, 0), (3, [41], 0)] else [(1, regText n, 0)]
theorem pieceK_len (h : Bool) (n : Nat) : (pieceK h n).length = pieceN h := by cases h <;> rfl
set_option maxRecDepth 100000 in
theorem piece_lex0 : ∀ (h : Bool) (n : Fin 16), lexQ (pieceT h n.val) = (pieceK h n.val, 0) ∧ has59 (pieceT h n.val) = false ∧ (pieceT h n.val).length ≤ 12 := by decide +kernel
theorem piece_lex (h : Bool) {n : Nat} (hn : n < 16) : lexQ (pieceT h n) = (pieceK h n, 0) ∧ has59 (pieceT h n) = false ∧ (pieceT h n).length ≤ 12 := piece_lex0 h ⟨n, hn⟩
def headK : List Tk3 := [(1, [108, 97, 98], 0), (3, [58], 0), (1, [111, 112], 0)]
/-- the words of the first of some operands -/
def rowsK (l : List Nat) (j : Nat) : Nat → List Tk3
  | 0 => headK
  | i + 1 => (bif Nat.blt 0 i then rowsK l j i ++ [(3, [44], 0)] else rowsK l j i) ++ pieceK (Nat.beq i j) (l.getD i 0)
theorem getD_lt {l : List Nat} (hl : ∀ x ∈ l, x < 16) (i : Nat) : l.getD i 0 < 16 := by
  rw [List.getD_eq_getElem?_getD]
  cases h : l[i]? with
  | none => show 0 < 16; decide
  | some x => exact hl x (List.mem_of_getElem? h)
set_option maxRecDepth 100000 in
theorem head_lex : lexQ [108, 97, 98, 58, 32, 111, 112] = (headK, 0) := by decide +kernel
theorem rows_lex {l : List Nat} (hl : ∀ x ∈ l, x < 16) (j : Nat) : ∀ i, lexQ (rowsT l j (i + 1)) = (rowsK l j (i + 1), 0) ∧ has59 (rowsT l j (i + 1)) = false
  | 0 => by
    obtain ⟨p1, p2, _⟩ := piece_lex (Nat.beq 0 j) (getD_lt hl 0)
    have e : rowsT l j 1 = [108, 97, 98, 58, 32, 111, 112] ++ 32 :: pieceT (Nat.beq 0 j) (l.getD 0 0) := rfl
    rw [e, lexQ_app (by decide) _ _ _ (Nat.le_refl _) (by rw [head_lex]) (not59 (by decide)), head_lex, lexQ_blank (by decide), p1]
    refine ⟨rfl, ?_⟩
    rw [has59_app, show has59 [108, 97, 98, 58, 32, 111, 112] = false by decide, has59_cons, p2]; rfl
  | i + 1 => by
    obtain ⟨p1, p2, _⟩ := piece_lex (Nat.beq (i + 1) j) (getD_lt hl (i + 1))
    obtain ⟨h1, h2⟩ := rows_lex hl j i
    have e : rowsT l j (i + 1 + 1) = rowsT l j (i + 1) ++ 44 :: 32 :: pieceT (Nat.beq (i + 1) j) (l.getD (i + 1) 0) := by
      show (rowsT l j (i + 1) ++ [44, 32]) ++ pieceT (Nat.beq (i + 1) j) (l.getD (i + 1) 0) = _
      rw [List.append_assoc]; rfl
    rw [e, lexQ_app (by decide) _ _ _ (Nat.le_refl _) (by rw [h1]) (not59 h2), h1, lexQ_sign (by decide), lexQ_blank (by decide), p1]
    refine ⟨?_, ?_⟩
    · show (rowsK l j (i + 1) ++ (3, [44], 0) :: pieceK (Nat.beq (i + 1) j) (l.getD (i + 1) 0), 0) = ((rowsK l j (i + 1) ++ [(3, [44], 0)]) ++ pieceK (Nat.beq (i + 1) j) (l.getD (i + 1) 0), 0)
      rw [List.append_assoc]; rfl
    · rw [has59_app, has59_cons, has59_cons, h2, p2]; rfl
theorem rows_short {l : List Nat} (hl : ∀ x ∈ l, x < 16) (j : Nat) : ∀ i, (rowsT l j i).length ≤ 8 + 14 * i
  | 0 => Nat.le_refl 8
  | i + 1 => by
    have p3 := (piece_lex (Nat.beq i j) (getD_lt hl i)).2.2
    have ih := rows_short hl j i
    unfold rowsT
    cases Nat.blt 0 i <;> simp only [cond_false, cond_true, List.length_append, List.length_cons, List.length_nil] <;> omega
theorem rowsK_len (l : List Nat) (j : Nat) : ∀ i, (rowsK l j (i + 1)).length + 1 = pieceP j (i + 1)
  | 0 => by
    show (headK ++ pieceK (Nat.beq 0 j) (l.getD 0 0)).length + 1 = 3 + pieceN (Nat.beq 0 j) + 1
    rw [List.length_append, pieceK_len]; rfl
  | i + 1 => by
    have ih := rowsK_len l j i
    show ((rowsK l j (i + 1) ++ [(3, [44], 0)]) ++ pieceK (Nat.beq (i + 1) j) (l.getD (i + 1) 0)).length + 1 = pieceP j (i + 1) + pieceN (Nat.beq (i + 1) j) + 1
    rw [List.length_append, List.length_append, pieceK_len, List.length_singleton, ih]
theorem pieceP_mono (j : Nat) : ∀ i, 3 ≤ pieceP j i
  | 0 => Nat.le_refl _
  | i + 1 => by have := pieceP_mono j i; show 3 ≤ pieceP j i + pieceN (Nat.beq i j) + 1; omega
theorem pieceP_le (j : Nat) {i k : Nat} (h : i ≤ k) : pieceP j i ≤ pieceP j k := by
  induction h with
  | refl => exact Nat.le_refl _
  | step h ih => refine Nat.le_trans ih ?_; show _ ≤ pieceP j _ + _ + 1; omega
/-- from a piece on -/
theorem rowsK_drop (l : List Nat) (j : Nat) : ∀ n i, i < n → (rowsK l j n).drop (pieceP j i) = pieceK (Nat.beq i j) (l.getD i 0) ++ (if i + 1 < n then (3, [44], 0) :: (rowsK l j n).drop (pieceP j (i + 1)) else [])
  | 0, i, h => by omega
  | 1, i, h => by
    obtain rfl : i = 0 := by omega
    rw [if_neg (by omega)]
    show (headK ++ pieceK (Nat.beq 0 j) (l.getD 0 0)).drop 3 = _
    rw [List.append_nil]; rfl
  | n + 2, i, h => by
    have hK : rowsK l j (n + 2) = rowsK l j (n + 1) ++ (3, [44], 0) :: pieceK (Nat.beq (n + 1) j) (l.getD (n + 1) 0) := by
      show (rowsK l j (n + 1) ++ [(3, [44], 0)]) ++ pieceK (Nat.beq (n + 1) j) (l.getD (n + 1) 0) = _
      rw [List.append_assoc]; rfl
    have hlen := rowsK_len l j n
    by_cases hi : i = n + 1
    · subst hi
      rw [if_neg (by omega), hK, ← hlen, List.append_nil, List.drop_append]
      rw [List.drop_eq_nil_of_le (by omega), Nat.add_sub_cancel_left]; rfl
    · have ih := rowsK_drop l j (n + 1) i (by omega)
      have hp : pieceP j (i + 1) ≤ pieceP j (n + 1) := pieceP_le j (by omega)
      have hp1 : pieceP j i + 1 ≤ pieceP j (i + 1) := by show _ ≤ pieceP j i + _ + 1; omega
      rw [if_pos (by omega), hK, List.drop_append_of_le_length (by omega), ih]
      by_cases h2 : i + 1 < n + 1
      · have hp2 : pieceP j (i + 1) + 1 ≤ pieceP j (n + 1) := by
          have : pieceP j (i + 1 + 1) ≤ pieceP j (n + 1) := pieceP_le j (by omega)
          have h3 : pieceP j (i + 1) + 1 ≤ pieceP j (i + 1 + 1) := by show _ ≤ pieceP j (i + 1) + _ + 1; omega
          omega
        rw [if_pos h2, List.drop_append_of_le_length (by omega)]; simp
      · have h3 : i = n := by omega
        subst h3
        rw [if_neg (by omega), ← hlen, List.append_nil, List.drop_append, List.drop_eq_nil_of_le (by omega), Nat.add_sub_cancel_left]; rfl
/-! ### The words, as rows -/
structure Tks (l : Rw) (T : List Tk3) : Prop where
  len : l.length = T.length
  k : ∀ i, tkK l i = k3 T i
  t : ∀ i, tkT l i = t3 T i
theorem tks_of {s : List UInt8} {T : List Tk3} {z : Nat} (h : lexQ s = (T, z)) : Tks (lexR s) T := by
  have e : (lexQ s).1 = T := by rw [h]
  exact ⟨by rw [rows_len, e], fun i => by rw [(rows_k s i).1, e], fun i => by rw [(rows_k s i).2.1, e]⟩
theorem drop_get {α : Type} {T : List α} {p : Nat} {a : α} {R : List α} (h : T.drop p = a :: R) : T[p]? = some a ∧ T.drop (p + 1) = R ∧ p < T.length := by
  refine ⟨?_, ?_, ?_⟩
  · have : (T.drop p)[0]? = some a := by rw [h]; rfl
    rw [List.getElem?_drop] at this; exact this
  · rw [← List.drop_drop, h]; rfl
  · rcases Nat.lt_or_ge p T.length with hh | hh
    · exact hh
    · rw [List.drop_eq_nil_of_le hh] at h; cases h
set_option linter.unusedSectionVars false
section
variable {l : Rw} {T : List Tk3} (ht : Tks l T)
include ht
theorem Tks.sg {p : Nat} {c : List UInt8} {n : Nat} {R : List Tk3} (h : T.drop p = (3, c, n) :: R) : signAt l p = c ∧ p < l.length := by
  obtain ⟨h1, _, h3⟩ := drop_get h
  refine ⟨?_, by rw [ht.len]; exact h3⟩
  unfold signAt
  rw [ht.k, ht.t]
  unfold k3 t3
  rw [h1, if_pos ⟨by rw [ht.len]; exact h3, rfl⟩]
theorem Tks.ns {p : Nat} {k : Nat} {c : List UInt8} {n : Nat} {R : List Tk3} (h : T.drop p = (k, c, n) :: R) (hk : k ≠ 3) : signAt l p = [] ∧ p < l.length := by
  obtain ⟨h1, _, h3⟩ := drop_get h
  refine ⟨?_, by rw [ht.len]; exact h3⟩
  unfold signAt
  rw [ht.k]
  unfold k3
  rw [h1, if_neg]
  rintro ⟨_, h⟩
  have : (k : Int) = 3 := h
  omega
theorem ops_other {p f d b : Nat} (hp : p < l.length) (h0 : signAt l p ≠ [40]) (h1 : signAt l p ≠ [41]) (h2 : ¬(d = 0 ∧ signAt l p = [44])) : opsG l (f + 1) p d b = opsG l f (p + 1) d b := by
  rw [opsG, if_neg (by omega), if_neg h0, if_neg h1, if_neg]
  rintro (h | h)
  · omega
  · exact h2 h
theorem ops_open {p f d b : Nat} (hp : p < l.length) (h0 : signAt l p = [40]) : opsG l (f + 1) p d b = opsG l f (p + 1) (d + 1) b := by
  rw [opsG, if_neg (by omega), if_pos h0]
theorem ops_shut {p f d b : Nat} (hp : p < l.length) (h0 : signAt l p = [41]) : opsG l (f + 1) p d b = opsG l f (p + 1) (d - 1) b := by
  rw [opsG, if_neg (by omega), if_neg (by rw [h0]; decide), if_pos h0]
theorem ops_cut {p f b : Nat} (hpb : b < p) (h : p = l.length ∨ p < l.length ∧ signAt l p = [44]) : opsG l (f + 1) p 0 b = ((b, p - b) :: (opsG l f (p + 1) 0 (p + 1)).1, (opsG l f (p + 1) 0 (p + 1)).2) := by
  have hs : signAt l p ≠ [40] ∧ signAt l p ≠ [41] := by
    rcases h with h | h
    · have : signAt l p = [] := by unfold signAt; rw [if_neg (by omega)]
      rw [this]; exact ⟨by decide, by decide⟩
    · rw [h.2]; exact ⟨by decide, by decide⟩
  rw [opsG, if_neg (by omega), if_neg hs.1, if_neg hs.2, if_pos (by rcases h with h | h; exact .inl h; exact .inr ⟨rfl, h.2⟩), if_neg (by omega)]
/-- one piece -/
theorem ops_piece {p x f : Nat} {h : Bool} {R : List Tk3} (hT : T.drop p = pieceK h x ++ R) (hR : R = [] ∨ ∃ R', R = (3, [44], 0) :: R') :
    opsG l (f + pieceN h + 1) p 0 p = ((p, pieceN h) :: (opsG l f (p + pieceN h + 1) 0 (p + pieceN h + 1)).1, (opsG l f (p + pieceN h + 1) 0 (p + pieceN h + 1)).2) := by
  have last : ∀ q, T.drop q = R → p ≤ q → q = l.length ∨ q < l.length ∧ signAt l q = [44] ∨ T.length < q := fun q hq hpq => by
    rcases hR with rfl | ⟨R', rfl⟩
    · have h1 := congrArg List.length hq
      rw [List.length_drop, List.length_nil] at h1
      have h2 := ht.len
      omega
    · obtain ⟨h1, h2⟩ := ht.sg hq
      exact .inr (.inl ⟨h2, h1⟩)
  cases h with
  | false =>
    have hT' : T.drop p = (1, regText x, 0) :: R := hT
    obtain ⟨s0, p0⟩ := ht.ns hT' (by decide)
    have d1 := (drop_get hT').2.1
    show opsG l (f + 1 + 1) p 0 p = ((p, 1) :: _, _)
    rw [ops_other ht p0 (by rw [s0]; decide) (by rw [s0]; decide) (by rw [s0]; rintro ⟨_, h⟩; cases h)]
    have hl := last (p + 1) d1 (by omega)
    have hlen := ht.len
    rw [ops_cut ht (by omega) (by rcases hl with h | h | h; exact .inl h; exact .inr h; omega)]
    rw [show p + 1 - p = 1 by omega]; rfl
  | true =>
    have hT' : T.drop p = (3, [40], 0) :: (2, [49], 1) :: (3, [44], 0) :: (2, [50], 2) :: (3, [44], 0) :: (1, regText x, 0) :: (3, [41], 0) :: R := hT
    obtain ⟨s0, p0⟩ := ht.sg hT'
    have d1 := (drop_get hT').2.1
    obtain ⟨s1, p1⟩ := ht.ns d1 (by decide)
    have d2 := (drop_get d1).2.1
    obtain ⟨s2, p2⟩ := ht.sg d2
    have d3 := (drop_get d2).2.1
    obtain ⟨s3, p3⟩ := ht.ns d3 (by decide)
    have d4 := (drop_get d3).2.1
    obtain ⟨s4, p4⟩ := ht.sg d4
    have d5 := (drop_get d4).2.1
    obtain ⟨s5, p5⟩ := ht.ns d5 (by decide)
    have d6 := (drop_get d5).2.1
    obtain ⟨s6, p6⟩ := ht.sg d6
    have d7 := (drop_get d6).2.1
    show opsG l (f + 7 + 1) p 0 p = ((p, 7) :: _, _)
    rw [ops_open ht p0 s0]
    rw [ops_other ht p1 (by rw [s1]; decide) (by rw [s1]; decide) (by rintro ⟨h, _⟩; omega)]
    rw [ops_other ht p2 (by rw [s2]; decide) (by rw [s2]; decide) (by rintro ⟨h, _⟩; omega)]
    rw [ops_other ht p3 (by rw [s3]; decide) (by rw [s3]; decide) (by rintro ⟨h, _⟩; omega)]
    rw [ops_other ht p4 (by rw [s4]; decide) (by rw [s4]; decide) (by rintro ⟨h, _⟩; omega)]
    rw [ops_other ht p5 (by rw [s5]; decide) (by rw [s5]; decide) (by rintro ⟨h, _⟩; omega)]
    rw [ops_shut ht p6 s6]
    have hl := last (p + 1 + 1 + 1 + 1 + 1 + 1 + 1) d7 (by omega)
    have hlen := ht.len
    rw [show 0 + 1 - 1 = 0 by omega, ops_cut ht (by omega) (by rcases hl with h | h | h; exact .inl h; exact .inr h; omega)]
    rw [show p + 1 + 1 + 1 + 1 + 1 + 1 + 1 - p = 7 by omega]; rfl
end
theorem ops_rows {l : Rw} {w : List Nat} {j n : Nat} (hn : 1 ≤ n) (ht : Tks l (rowsK w j n)) : ∀ (k i : Nat), i + k = n → opsG l (l.length + 5 - pieceP j i) (pieceP j i) 0 (pieceP j i) = ((List.range' i k).map fun i => (pieceP j i, pieceN (Nat.beq i j)), 0, 0)
  | 0, i, h => by
    obtain rfl : i = n := by omega
    obtain ⟨m, rfl⟩ : ∃ m, i = m + 1 := ⟨i - 1, by omega⟩
    have hl := rowsK_len w j m
    have h2 := ht.len
    rw [show l.length + 5 - pieceP j (m + 1) = 3 + 1 by omega, opsG, if_pos (by omega)]; rfl
  | k + 1, i, h => by
    obtain ⟨m, rfl⟩ : ∃ m, n = m + 1 := ⟨n - 1, by omega⟩
    have hl := rowsK_len w j m
    have h2 := ht.len
    have hd := rowsK_drop w j (m + 1) i (by omega)
    have hp : pieceP j (i + 1) ≤ pieceP j (m + 1) := pieceP_le j (by omega)
    have hp1 : pieceP j (i + 1) = pieceP j i + pieceN (Nat.beq i j) + 1 := rfl
    have := ops_piece ht (f := l.length + 5 - pieceP j (i + 1)) hd (by
      by_cases h3 : i + 1 < m + 1
      · rw [if_pos h3]; exact .inr ⟨_, rfl⟩
      · rw [if_neg h3]; exact .inl rfl)
    rw [show l.length + 5 - pieceP j i = l.length + 5 - pieceP j (i + 1) + pieceN (Nat.beq i j) + 1 by omega, this, ← hp1, ops_rows hn ht k (i + 1) (by omega)]
    rw [List.range'_succ]; rfl
/-- the line -/
theorem rows_par {w : List Nat} (hw : ∀ x ∈ w, x < 16) {j : Nat} {n : Nat} (hn : 1 ≤ n) : parT (rowsT w j n) = ⟨0, 0, [108, 97, 98], [111, 112], false, argsT j n⟩ ∧ (lexF (rowsT w j n)).2.1 = 0 := by
  obtain ⟨m, rfl⟩ : ∃ m, n = m + 1 := ⟨n - 1, by omega⟩
  obtain ⟨hq, _⟩ := rows_lex hw j m
  refine ⟨?_, by rw [(lexF_Q _).2, hq]⟩
  have ht := tks_of hq
  unfold parT
  generalize lexR (rowsT w j (m + 1)) = l at ht
  have hlen := ht.len
  have hl := rowsK_len w j m
  have hp3 : pieceP j 1 ≤ pieceP j (m + 1) := pieceP_le j (by omega)
  have hp4 : pieceP j 1 = 3 + pieceN (Nat.beq 0 j) + 1 := rfl
  have hN : 1 ≤ pieceN (Nat.beq 0 j) := by cases Nat.beq 0 j <;> decide
  have hh : ∀ i, ∃ R, rowsK w j (i + 1) = headK ++ R := by
    intro i
    induction i with
    | zero => exact ⟨_, rfl⟩
    | succ i ih =>
      obtain ⟨R, hR⟩ := ih
      exact ⟨R ++ ([(3, [44], 0)] ++ pieceK (Nat.beq (i + 1) j) (w.getD (i + 1) 0)), by
        show (rowsK w j (i + 1) ++ [(3, [44], 0)]) ++ pieceK (Nat.beq (i + 1) j) (w.getD (i + 1) 0) = _
        rw [hR]; simp⟩
  obtain ⟨R, hR⟩ := hh m
  have hgo := ops_rows (by omega) ht (m + 1) 0 (by omega)
  rw [← List.range_eq_range'] at hgo
  have k0 : tkK l 0 = 1 := by rw [ht.k, hR]; rfl
  have t0 : tkT l 0 = [108, 97, 98] := by rw [ht.t, hR]; rfl
  have k2 : tkK l 2 = 1 := by rw [ht.k, hR]; rfl
  have t2 : tkT l 2 = [111, 112] := by rw [ht.t, hR]; rfl
  have s1 : signAt l 1 = [58] := (ht.sg (n := 0) (R := (1, [111, 112], 0) :: R) (by rw [hR]; rfl)).1
  have hlab : labB l = true := by
    unfold labB
    rw [decide_eq_true k0, decide_eq_true (show 0 < l.length by omega), decide_eq_true s1]; rfl
  have hreg : regF l 0 1 = none := by
    unfold regF
    rw [if_pos ⟨rfl, k0⟩, t0]; decide
  have hops : opsF l 3 = (argsT j (m + 1), 0, 0) := by
    unfold opsF
    rw [if_neg (by omega)]
    exact hgo
  unfold parF
  rw [if_pos hlab, hreg, if_neg (by decide)]
  unfold parG
  rw [if_neg (by omega), if_pos (.inr k2), hops, if_pos rfl, t0, t2, k2]; rfl
/-- an operand, as a register -/
theorem rows_reg {w : List Nat} (hw : ∀ x ∈ w, x < 16) {j n i : Nat} (hi : i < n) : regF (lexR (rowsT w j n)) (pieceP j i) (pieceN (Nat.beq i j)) = bif Nat.beq i j then none else some (w.getD i 0) := by
  obtain ⟨m, rfl⟩ : ∃ m, n = m + 1 := ⟨n - 1, by omega⟩
  obtain ⟨hq, _⟩ := rows_lex hw j m
  have ht := tks_of hq
  generalize lexR (rowsT w j (m + 1)) = l at ht
  have hd := rowsK_drop w j (m + 1) i hi
  unfold regF
  cases hb : Nat.beq i j with
  | true => rw [if_neg (fun h => absurd h.1 (by decide))]; rfl
  | false =>
    rw [hb] at hd
    have hg := (drop_get (show (rowsK w j (m + 1)).drop (pieceP j i) = (1, regText (w.getD i 0), 0) :: _ from hd)).1
    have k0 : tkK l (pieceP j i) = 1 := by rw [ht.k]; unfold k3; rw [hg]; rfl
    have t0 : tkT l (pieceP j i) = regText (w.getD i 0) := by rw [ht.t]; unfold t3; rw [hg]
    rw [if_pos ⟨rfl, k0⟩, t0, regN_text (getD_lt hw i)]; rfl
/-- an operand lies within the words -/
theorem rows_fit {w : List Nat} (hw : ∀ x ∈ w, x < 16) {j n i : Nat} (hi : i < n) : pieceP j i + pieceN (Nat.beq i j) ≤ (lexR (rowsT w j n)).length := by
  obtain ⟨m, rfl⟩ : ∃ m, n = m + 1 := ⟨n - 1, by omega⟩
  obtain ⟨hq, _⟩ := rows_lex hw j m
  have ht := (tks_of hq).len
  have hl := rowsK_len w j m
  have hp : pieceP j (i + 1) ≤ pieceP j (m + 1) := pieceP_le j (by omega)
  have hp1 : pieceP j (i + 1) = pieceP j i + pieceN (Nat.beq i j) + 1 := rfl
  omega
/-! ### Bytes, each a row -/
theorem cell0_at (l : Rw) (i : Nat) : (cellAt l i 0).1 = cell0 ((l[i]?).getD []) := by
  unfold cellAt cell0
  cases ((l[i]?).getD []) with
  | nil => rfl
  | cons c r => rfl
def bytesN (l : Rw) : List Nat := l.map fun r => (cell0 r).toNat % 16
theorem bytesN_lt (l : Rw) : ∀ x ∈ bytesN l, x < 16 := fun x hx => by
  obtain ⟨r, _, rfl⟩ := List.mem_map.1 hx
  exact Nat.mod_lt _ (by decide)
theorem bytesR_at {l : Rw} (h : bytesR l = true) {i : Nat} (hi : i < l.length) : ∃ n : Nat, (cellAt l i 0).1 = (n : Int) ∧ n < 256 ∧ (bytesN l).getD i 0 = n % 16 := by
  have h1 := List.all_eq_true.1 h l[i] (List.getElem_mem hi)
  simp only [Bool.and_eq_true, decide_eq_true_eq] at h1
  rw [cell0_at, List.getElem?_eq_getElem hi]
  refine ⟨(cell0 l[i]).toNat, ?_, by omega, ?_⟩
  · show cell0 l[i] = _; omega
  · unfold bytesN; rw [List.getD_eq_getElem?_getD, List.getElem?_map, List.getElem?_eq_getElem hi]; rfl
end Go.Den
