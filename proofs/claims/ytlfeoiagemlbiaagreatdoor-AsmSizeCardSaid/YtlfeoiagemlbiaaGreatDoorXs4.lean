/- An evaluator for the model's code over values and memory of its own, and that it is right; plain words for what the program computes. -/
import Derived.Test.YtlfeoiagemlbiaaGreatDoorXs3
/- Pr -/
/- Registers, operands, lines: plain words; symbols for these. -/
set_option linter.unusedVariables false
set_option linter.unusedSimpArgs false
noncomputable section
namespace Go.Den
/-! ### A number that may have a sign ahead -/
def signed (s : List UInt8) : Bool := s.head? == some 45 || s.head? == some 43
def atoiT (s : List UInt8) : List UInt8 := if signed s then s.drop 1 else s
/-- is it one? -/
def atoiB (s : List UInt8) : Bool := !(atoiT s).isEmpty && (atoiT s).all isDec
def atoiV (s : List UInt8) : Int := if s.head? = some 45 then -(valF 10 (atoiT s) : Int) else (valF 10 (atoiT s) : Int)
theorem digV_dec {c : UInt8} (h : isDec c = true) : digV c = c.toNat - 48 ∧ 48 ≤ c.toNat ∧ c.toNat ≤ 57 := by
  unfold isDec at h
  simp only [Bool.and_eq_true, Nat.ble_eq] at h
  refine ⟨?_, h.1, h.2⟩
  unfold digV
  rw [show Nat.ble c.toNat 57 = true from Nat.ble_eq.mpr h.2, cond_true]
theorem val_lt : ∀ s : List UInt8, s.all isDec = true → valF 10 s < 10 ^ s.length := by
  have key : ∀ (s : List UInt8) (n k : Nat), s.all isDec = true → n < 10 ^ k → s.foldl (fun n c => n * 10 + digV c) n < 10 ^ (k + s.length) := by
    intro s
    induction s with
    | nil => intro n k _ h; exact h
    | cons c s ih =>
      intro n k hs hn
      simp only [List.all_cons, Bool.and_eq_true] at hs
      obtain ⟨h1, h2, h3⟩ := digV_dec hs.1
      have := ih (n * 10 + digV c) (k + 1) hs.2 (by rw [h1, Nat.pow_succ]; omega)
      rw [List.foldl_cons, List.length_cons, show k + (s.length + 1) = k + 1 + s.length by omega]
      exact this
  intro s hs
  have := key s 0 0 hs (by decide)
  rw [Nat.zero_add] at this
  exact this
/-! ### Registers -/
/-- c0 to c15 -/
def regText (n : Nat) : List UInt8 := 99 :: decF n
def regN (s : List UInt8) : Option Nat := (List.range 16).find? fun n => s == regText n
theorem regN_some {s : List UInt8} {n : Nat} (h : regN s = some n) : n < 16 ∧ s = regText n := by
  unfold regN at h
  have h1 := List.find?_some h
  have h2 := List.mem_of_find?_eq_some h
  exact ⟨List.mem_range.1 h2, eq_of_beq h1⟩
set_option maxRecDepth 100000 in
theorem regN_text0 : ∀ n : Fin 16, regN (regText n.val) = some n.val ∧ atoiB (decF n.val) = true ∧ atoiV (decF n.val) = (n.val : Int) := by decide +kernel
theorem regN_text {n : Nat} (h : n < 16) : regN (regText n) = some n := (regN_text0 ⟨n, h⟩).1
theorem atoi_dec {n : Nat} (h : n < 16) : atoiB (decF n) = true ∧ atoiV (decF n) = (n : Int) := (regN_text0 ⟨n, h⟩).2
theorem regN_none {s : List UInt8} (h : ∀ n, n < 16 → s ≠ regText n) : regN s = none := by
  unfold regN
  rw [List.find?_eq_none]
  intro n hn
  simp only [beq_iff_eq]
  exact h n (List.mem_range.1 hn)
/-- a register, of some words: from a place, how many -/
def regF (l : Rw) (o n : Nat) : Option Nat := if n = 1 ∧ tkK l o = 1 then regN (tkT l o) else none
/-- names are short -/
def shortNames (l : Rw) : Bool := l.all fun r => !((r[0]?).getD (0, [])).1 == 1 || Nat.ble ((r[1]?).getD (0, [])).2.length 16
/-! ### Operands -/
/-- what stands between commas: from where, how many; 1: one is empty, at which -/
def opsG (l : Rw) : Nat → Nat → Nat → Nat → List (Nat × Nat) × Nat × Nat
  | 0, _, _, _ => ([], 0, 0)
  | f + 1, p, deep, b => if l.length < p then ([], 0, 0)
    else if signAt l p = [40] then opsG l f (p + 1) (deep + 1) b
    else if signAt l p = [41] then opsG l f (p + 1) (deep - 1) b
    else if p = l.length ∨ (deep = 0 ∧ signAt l p = [44]) then
      (if p = b then ([], 1, p) else ((b, p - b) :: (opsG l f (p + 1) deep (p + 1)).1, (opsG l f (p + 1) deep (p + 1)).2))
    else opsG l f (p + 1) deep b
def opsF (l : Rw) (p : Nat) : List (Nat × Nat) × Nat × Nat := if p = l.length then ([], 0, 0) else opsG l (l.length + 2) p 0 p
def argR (a : Nat × Nat) : List (Int × List UInt8) := [((a.1 : Int), []), ((a.2 : Int), [])]
/-! ### Lines -/
structure ParR where
  err : Nat
  eat : Nat
  lab : List UInt8
  name : List UInt8
  dot : Bool
  args : List (Nat × Nat)
def labB (l : Rw) : Bool := decide (tkK l 0 = 1) && decide (0 < l.length) && decide (signAt l 1 = [58])
/-- behind the label -/
def parG (l : Rw) (lab : List UInt8) (p : Nat) : ParR :=
  if l.length ≤ p then ⟨0, 0, lab, [], false, []⟩
  else if tkK l p = 4 ∨ tkK l p = 1 then (if (opsF l (p + 1)).2.1 = 0 then ⟨0, 0, lab, tkT l p, decide (tkK l p = 4), (opsF l (p + 1)).1⟩ else ⟨11, (opsF l (p + 1)).2.2, [], [], false, []⟩)
  else ⟨11, p, [], [], false, []⟩
def parF (l : Rw) : ParR := if labB l = true then (if (regF l 0 1).isSome then ⟨12, 0, [], [], false, []⟩ else parG l (tkT l 0) 2) else parG l [] 0
def parT (s : List UInt8) : ParR := parF (lexR s)
/-- are the cells bytes? -/
def cell0 (r : List (Int × List UInt8)) : Int := match r with
  | c :: _ => c.1
  | [] => 0
def bytesR (l : Rw) : Bool := l.all fun r => decide (0 ≤ cell0 r) && decide (cell0 r < 256)
class Mpr where
  w : Nat → Dy → Dy → Dy → Dy
def optI (o : Option Nat) : Int := match o with
  | some n => n
  | none => 0
def pΦ [Mpr] (f : Nat) (a b c : Dy) : Dy := match f with
  | 70 => dyI (b01 (regF a.r b.i.toNat c.i.toNat).isSome)
  | 71 => dyI (optI (regF a.r b.i.toNat c.i.toNat))
  | 72 => dyI (b01 (shortNames a.r))
  | 73 => dyI (b01 (atoiB a.s))
  | 74 => dyI (atoiV a.s)
  | 75 => dyS (decF a.i.toNat)
  | 76 => dyR ((opsF a.r b.i.toNat).1.map argR)
  | 77 => dyI (opsF a.r b.i.toNat).2.1
  | 78 => dyI (opsF a.r b.i.toNat).2.2
  | 79 => dyI (b01 (bytesR a.r))
  | 80 => dyI (parT a.s).err
  | 81 => dyI (parT a.s).eat
  | 82 => dyS (parT a.s).lab
  | 83 => dyS (parT a.s).name
  | 84 => dyI (b01 (parT a.s).dot)
  | 85 => dyR ((parT a.s).args.map argR)
  | n => Mpr.w n a b c
instance [Mpr] : Mez := ⟨pΦ⟩
end Go.Den

/- Ps -/
/- Words have kinds; names are short; the cases of a line. -/
set_option linter.unusedVariables false
set_option linter.unusedSimpArgs false
noncomputable section
namespace Go.Den
theorem wordF_good {c : UInt8} {r : List UInt8} (h : (wordF (c :: r)).err = 0) : 1 ≤ (wordF (c :: r)).kind ∧ ((wordF (c :: r)).kind = 1 → (wordF (c :: r)).text.length ≤ 16) := by
  have key : ∀ k, kindF c.toNat = k → (wordF (c :: r)).err = 0 → 1 ≤ (wordF (c :: r)).kind ∧ ((wordF (c :: r)).kind = 1 → (wordF (c :: r)).text.length ≤ 16) := by
    intro k hk
    unfold wordF
    simp only [hk]
    match k, hk with
    | 0, _ => intro h; cases h
    | 1, hk =>
      intro h
      simp only at h ⊢
      cases hb : Nat.ble (tw isWord (c :: r)) 16 with
      | true =>
        have := Nat.ble_eq.mp hb
        simp only [cond_true]
        exact ⟨Nat.le_refl _, fun _ => Nat.le_trans (List.length_take_le _ _) this⟩
      | false => rw [hb] at h; cases h
    | 2, hk => intro h; exact ⟨by show 1 ≤ 2; decide, fun h => absurd h (by show (2 : Nat) ≠ 1; decide)⟩
    | 3, hk =>
      intro h
      simp only at h ⊢
      cases hb : Nat.beq (tw isLow r) 0 with
      | true => rw [hb] at h; cases h
      | false => simp only [cond_false]; exact ⟨by decide, fun h => absurd h (by decide)⟩
    | 4, hk =>
      intro h
      simp only at h ⊢
      cases hb : ((r.drop (tw isText r)).head? == some 34) with
      | false => rw [hb] at h; cases h
      | true => simp only [cond_true]; exact ⟨by decide, fun h => absurd h (by decide)⟩
    | 5, hk => intro h; exact ⟨by show 1 ≤ 3; decide, fun h => absurd h (by show (3 : Nat) ≠ 1; decide)⟩
    | 6, hk =>
      intro h
      simp only at h ⊢
      cases hb : (r.head? == some c) with
      | false => rw [hb] at h; cases h
      | true => simp only [cond_true]; exact ⟨by decide, fun h => absurd h (by decide)⟩
    | k + 7, _ => intro h; cases h
  exact key _ rfl h
theorem lexG_good : ∀ (f : Nat) (s : List UInt8) (p : Nat), ∀ t ∈ (lexG f s p).1, 1 ≤ t.1 ∧ (t.1 = 1 → t.2.1.length ≤ 16)
  | 0, _, _ => fun t h => by cases h
  | f + 1, s, p => fun t h => by
    unfold lexG at h
    split at h
    · cases h
    · rename_i c r _
      cases h7 : Nat.beq (kindF c.toNat) 7 with
      | true => rw [h7] at h; cases h
      | false =>
        rw [h7] at h
        simp only [cond_false] at h
        cases he : Nat.beq (wordF (c :: r)).err 0 with
        | false => rw [he] at h; cases h
        | true =>
          rw [he] at h
          simp only [cond_true] at h
          rcases List.mem_cons.1 h with rfl | h
          · exact wordF_good (Nat.eq_of_beq_eq_true he)
          · exact lexG_good f _ _ t h
theorem lexR_kind (s : List UInt8) {i : Nat} (h : i < (lexR s).length) : 1 ≤ tkK (lexR s) i := by
  unfold lexR at h ⊢
  rw [List.length_map] at h
  have hm := List.getElem_mem h
  have hg := (lexG_good _ _ _ _ hm).1
  unfold tkK cellAt
  rw [List.getElem?_map, List.getElem?_eq_getElem h]
  show (1 : Int) ≤ (((lexF s).1[i].1 : Nat) : Int)
  omega
theorem lexR_names (s : List UInt8) : shortNames (lexR s) = true := by
  unfold shortNames lexR
  rw [List.all_eq_true]
  intro r hr
  obtain ⟨t, ht, rfl⟩ := List.mem_map.1 hr
  have hg := (lexG_good _ _ _ _ ht).2
  show (!((t.1 : Int) == 1) || Nat.ble t.2.1.length 16) = true
  by_cases h1 : t.1 = 1
  · rw [Bool.or_eq_true]; exact .inr (Nat.ble_eq.mpr (hg h1))
  · rw [Bool.or_eq_true]; refine .inl ?_
    rw [Bool.not_eq_true', beq_eq_false_iff_ne]; omega
theorem lexG_short : ∀ (f : Nat) (s : List UInt8) (p : Nat), (lexG f s p).1.length ≤ s.length
  | 0, s, p => Nat.zero_le _
  | f + 1, s, p => by
    unfold lexG
    cases hd : s.drop (tw isBlank s) with
    | nil => exact Nat.zero_le _
    | cons c r =>
      simp only
      cases Nat.beq (kindF c.toNat) 7 with
      | true => exact Nat.zero_le _
      | false =>
        cases he : Nat.beq (wordF (c :: r)).err 0 with
        | false => exact Nat.zero_le _
        | true =>
          have hl := wordF_len (c := c) (r := r) (Nat.eq_of_beq_eq_true he)
          have h1 : (c :: r).length ≤ s.length := by rw [← hd]; simp
          have ih := lexG_short f ((c :: r).drop (wordF (c :: r)).len) (p + tw isBlank s + (wordF (c :: r)).len)
          simp only [cond_false, cond_true, List.length_cons]
          simp only [List.length_drop, List.length_cons] at ih h1
          omega
end Go.Den

/- Qa -/
/- The reference's reader of words: numbers, words, in plain words; that they are the same. -/
set_option linter.unusedVariables false
set_option linter.unusedSimpArgs false
noncomputable section
namespace Go.Den
/-- a digit's value; below nought: none -/
def hexV (c : Nat) : Int := if 48 ≤ c ∧ c ≤ 57 then (c : Int) - 48 else if 97 ≤ c ∧ c ≤ 102 then (c : Int) - 87 else if 65 ≤ c ∧ c ≤ 70 then (c : Int) - 55 else -1
/-- does a number of base sixteen begin? -/
def rhexB (s : List UInt8) : Bool := match s with
  | a :: b :: c :: _ => a == 48 && b == 120 && isHex c
  | _ => false
structure Rn where
  n : Nat
  v : Nat
  err : Nat
def rnumG (p : UInt8 → Bool) (base i0 : Nat) (s : List UInt8) : Rn :=
  if i0 + tw p (s.drop i0) < s.length ∧ isNum ((s[i0 + tw p (s.drop i0)]?).getD 0) = true then ⟨i0 + tw p (s.drop i0), 0, 11⟩
  else if 1099511627776 ≤ valF base ((s.drop i0).take (tw p (s.drop i0))) then ⟨i0 + tw p (s.drop i0), 0, 14⟩
  else ⟨i0 + tw p (s.drop i0), valF base ((s.drop i0).take (tw p (s.drop i0))), 0⟩
/-- a number: how long, its value, its error -/
def rnumF (s : List UInt8) : Rn := if rhexB s = true then rnumG isHex 16 2 s else rnumG isDec 10 0 s
theorem take_tw {p : UInt8 → Bool} (s : List UInt8) : s.take (tw p s) = s.takeWhile p := by
  unfold tw
  exact (List.prefix_iff_eq_take.1 (List.takeWhile_prefix _)).symm
theorem tw_mono {p q : UInt8 → Bool} (h : ∀ c, p c = true → q c = true) : ∀ s : List UInt8, tw p s ≤ tw q s
  | [] => Nat.le_refl _
  | c :: s => by
    rw [tw_cons, tw_cons]
    cases hp : p c with
    | false => simp
    | true =>
      rw [h c hp]
      have := tw_mono h s
      simp only [cond_true]; omega
theorem all_tw {p : UInt8 → Bool} : ∀ {s : List UInt8}, s.all p = true → tw p s = s.length
  | [], _ => rfl
  | c :: s, h => by
    simp only [List.all_cons, Bool.and_eq_true] at h
    rw [tw_cons, h.1, cond_true, all_tw h.2]; rfl
theorem tw_all {p : UInt8 → Bool} : ∀ {s : List UInt8}, tw p s = s.length → s.all p = true
  | [], _ => rfl
  | c :: s, h => by
    rw [tw_cons] at h
    cases hp : p c with
    | false => rw [hp] at h; simp at h
    | true =>
      rw [hp] at h
      simp only [cond_true, List.length_cons] at h
      rw [List.all_cons, hp, tw_all (by omega)]; rfl
/-- a run of one kind within a run of a wider kind: it ends there, or a byte of the wider kind is behind it -/
theorem tw_in {p q : UInt8 → Bool} (h : ∀ c, p c = true → q c = true) : ∀ s : List UInt8,
    (tw p s = tw q s ∧ (s.take (tw q s)).all p = true ∧ ¬(tw p s < s.length ∧ q ((s[tw p s]?).getD 0) = true)) ∨ (tw p s < tw q s ∧ (s.take (tw q s)).all p = false ∧ tw p s < s.length ∧ q ((s[tw p s]?).getD 0) = true)
  | [] => .inl ⟨rfl, rfl, fun h => absurd h.1 (Nat.lt_irrefl 0)⟩
  | c :: s => by
    rw [tw_cons, tw_cons]
    cases hq : q c with
    | false =>
      have hp : p c = false := by
        cases hp : p c with
        | false => rfl
        | true => rw [h c hp] at hq; cases hq
      rw [hp]
      exact .inl ⟨rfl, rfl, fun hh => by have := hh.2; simp only [cond_false, List.getElem?_cons_zero, Option.getD_some] at this; rw [hq] at this; cases this⟩
    | true =>
      cases hp : p c with
      | false =>
        refine .inr ⟨by simp, ?_, by simp, ?_⟩
        · simp only [cond_true, List.take_succ_cons, List.all_cons, hp, Bool.false_and]
        · simpa using hq
      | true =>
        simp only [cond_true]
        rcases tw_in h s with ⟨h1, h2, h3⟩ | ⟨h1, h2, h3, h4⟩
        · refine .inl ⟨by rw [h1], ?_, ?_⟩
          · simp only [List.take_succ_cons, List.all_cons, hp, h2, Bool.and_self]
          · rintro ⟨a, b⟩
            refine h3 ⟨by simpa using a, ?_⟩
            simpa using b
        · refine .inr ⟨by omega, ?_, by simpa using h3, by simpa using h4⟩
          simp only [List.take_succ_cons, List.all_cons, hp, h2, Bool.and_false]
set_option maxRecDepth 100000 in
theorem dec_num (c : UInt8) (h : isDec c = true) : isNum c = true := by
  have : ∀ n : Fin 256, (isDec (UInt8.ofNat n.val) = true → isNum (UInt8.ofNat n.val) = true) := by decide
  have h2 := this ⟨c.toNat, UInt8.toNat_lt c⟩
  simp only [UInt8.ofNat_toNat] at h2
  exact h2 h
set_option maxRecDepth 100000 in
theorem hex_num (c : UInt8) (h : isHex c = true) : isNum c = true := by
  have : ∀ n : Fin 256, (isHex (UInt8.ofNat n.val) = true → isNum (UInt8.ofNat n.val) = true) := by decide
  have h2 := this ⟨c.toNat, UInt8.toNat_lt c⟩
  simp only [UInt8.ofNat_toNat] at h2
  exact h2 h
/-- a number that begins a text is that of the word that begins it -/
theorem rnumG_ok {p : UInt8 → Bool} (hp : ∀ c, p c = true → isNum c = true) (base : Nat) {t : List UInt8} (hne : 1 ≤ tw p t) :
    numG base p (t.take (tw isNum t)) = ((rnumG p base 0 t).v, (rnumG p base 0 t).err) ∧ ((rnumG p base 0 t).err = 0 → (rnumG p base 0 t).n = tw isNum t) := by
  have hle := tw_mono hp t
  have hne2 : (t.take (tw isNum t)).isEmpty = false := by
    rw [List.isEmpty_eq_false_iff]
    intro h
    have := congrArg List.length h
    rw [List.length_take, List.length_nil] at this
    have h3 := tw_le (p := isNum) t
    omega
  unfold numG rnumG
  simp only [List.drop_zero, Nat.zero_add]
  rw [hne2]
  rcases tw_in hp t with ⟨h1, h2, h3⟩ | ⟨h1, h2, h3, h4⟩
  · rw [h2, if_neg h3, ← h1]
    simp only [Bool.not_true, Bool.or_self, cond_false]
    by_cases hb : 1099511627776 ≤ valF base (t.take (tw p t))
    · rw [if_pos hb, Nat.ble_eq_true_of_le hb]
      exact ⟨rfl, fun h => by cases h⟩
    · have hb' : Nat.ble 1099511627776 (valF base (t.take (tw p t))) = false := by
        cases hx : Nat.ble 1099511627776 (valF base (t.take (tw p t))) with
        | false => rfl
        | true => exact absurd (Nat.le_of_ble_eq_true hx) hb
      rw [if_neg hb, hb']
      exact ⟨rfl, fun _ => rfl⟩
  · rw [h2, if_pos ⟨h3, h4⟩]
    exact ⟨rfl, fun h => by cases h⟩
theorem rnumG_2 {p : UInt8 → Bool} (base : Nat) (a b : UInt8) (t : List UInt8) : rnumG p base 2 (a :: b :: t) = ⟨(rnumG p base 0 t).n + 2, (rnumG p base 0 t).v, (rnumG p base 0 t).err⟩ := by
  have hd : (a :: b :: t).drop 2 = t := rfl
  have hg : ((a :: b :: t)[2 + tw p t]?).getD 0 = (t[tw p t]?).getD 0 := by rw [show 2 + tw p t = tw p t + 1 + 1 by omega]; rfl
  have hl : (2 + tw p t < (a :: b :: t).length) ↔ (0 + tw p t < t.length) := by simp only [List.length_cons]; omega
  unfold rnumG
  rw [hd, hg]
  simp only [List.drop_zero, Nat.zero_add]
  by_cases h : tw p t < t.length ∧ isNum ((t[tw p t]?).getD 0) = true
  · rw [if_pos h, if_pos ⟨hl.2 (by omega), h.2⟩, Nat.add_comm 2]
  · rw [if_neg h, if_neg (fun hh => h ⟨by have := hl.1 hh.1; omega, hh.2⟩)]
    split
    · rw [Nat.add_comm 2]
    · rw [Nat.add_comm 2]
theorem isNum_x : isNum 120 = true := by decide
theorem isNum_0 : isNum 48 = true := by decide
theorem isDec_0 : isDec 48 = true := by decide
theorem isDec_x : isDec 120 = false := by decide
set_option maxRecDepth 100000 in
theorem kind2_dec {c : UInt8} (h : kindF c.toNat = 2) : isDec c = true := by
  have : ∀ n : Fin 256, kindF n.val = 2 → isDec (UInt8.ofNat n.val) = true := by decide
  have h2 := this ⟨c.toNat, UInt8.toNat_lt c⟩ h
  simpa using h2
theorem rnum_ok {c : UInt8} {r : List UInt8} (h : kindF c.toNat = 2) :
    numF ((c :: r).take (tw isNum (c :: r))) = ((rnumF (c :: r)).v, (rnumF (c :: r)).err) ∧ ((rnumF (c :: r)).err = 0 → (rnumF (c :: r)).n = tw isNum (c :: r)) := by
  have hcd := kind2_dec h
  have hcn := dec_num c hcd
  by_cases hx : rhexB (c :: r) = true
  · -- base sixteen
    obtain ⟨x, y, t, rfl, hc, hxx, hy⟩ : ∃ x y t, r = x :: y :: t ∧ c = 48 ∧ x = 120 ∧ isHex y = true := by
      unfold rhexB at hx
      match r, hx with
      | x :: y :: t, hx =>
        simp only [Bool.and_eq_true, beq_iff_eq] at hx
        exact ⟨x, y, t, rfl, hx.1.1, hx.1.2, hx.2⟩
    subst hc; subst hxx
    have htw : tw isNum (48 :: 120 :: y :: t) = tw isNum (y :: t) + 1 + 1 := by rw [tw_cons, isNum_0, cond_true, tw_cons, isNum_x, cond_true]
    have hR : rnumF (48 :: 120 :: y :: t) = rnumG isHex 16 2 (48 :: 120 :: y :: t) := by unfold rnumF; rw [if_pos hx]
    have h16 := rnumG_ok hex_num 16 (t := y :: t) (by rw [tw_cons, hy]; simp)
    rw [hR, rnumG_2, htw]
    have hn : numF ((48 :: 120 :: y :: t).take (tw isNum (y :: t) + 1 + 1)) = numG 16 isHex ((y :: t).take (tw isNum (y :: t))) := by
      rw [numF_hex (by rw [List.take_succ_cons, List.take_succ_cons]; rfl)]
      rw [List.take_succ_cons, List.take_succ_cons]; rfl
    rw [hn, h16.1]
    exact ⟨rfl, fun he => by rw [h16.2 he]⟩
  · have hR : rnumF (c :: r) = rnumG isDec 10 0 (c :: r) := by unfold rnumF; rw [if_neg hx]
    have h10 := rnumG_ok dec_num 10 (t := c :: r) (by rw [tw_cons, hcd]; simp)
    rw [hR]
    by_cases hp : ((c :: r).take (tw isNum (c :: r))).take 2 = [48, 120]
    · -- 0x, and no digit of sixteen behind
      have htw : tw isNum (c :: r) = tw isNum r + 1 := by rw [tw_cons, hcn, cond_true]
      rw [htw, List.take_succ_cons, List.take_succ_cons] at hp
      obtain ⟨hc, hr1⟩ := List.cons.inj hp
      subst hc
      obtain ⟨x, r', rfl⟩ : ∃ x r', r = x :: r' := by
        cases r with
        | nil => simp at hr1
        | cons x r' => exact ⟨x, r', rfl⟩
      have hxx : x = 120 := by
        cases hk : tw isNum (x :: r') with
        | zero => rw [hk] at hr1; simp at hr1
        | succ k => rw [hk, List.take_succ_cons, List.take_succ_cons] at hr1; exact (List.cons.inj hr1).1
      subst hxx
      have htw2 : tw isNum (48 :: 120 :: r') = tw isNum r' + 1 + 1 := by rw [tw_cons, isNum_0, cond_true, tw_cons, isNum_x, cond_true]
      have htd : tw isDec (48 :: 120 :: r') = 1 := by rw [tw_cons, isDec_0, cond_true, tw_cons, isDec_x]; rfl
      have hrn : rnumG isDec 10 0 (48 :: 120 :: r') = ⟨1, 0, 11⟩ := by
        unfold rnumG
        rw [List.drop_zero, htd, if_pos ⟨by simp, (by show isNum 120 = true; decide)⟩]
      rw [hrn]
      refine ⟨?_, fun h => by cases h⟩
      rw [htw2, List.take_succ_cons, List.take_succ_cons, numF_hex (by rfl)]
      show numG 16 isHex (r'.take (tw isNum r')) = (0, 11)
      unfold numG
      cases r' with
      | nil => rfl
      | cons y t =>
        have hy : isHex y = false := by
          cases hy : isHex y with
          | false => rfl
          | true => exfalso; apply hx; unfold rhexB; simp [hy]
        rw [tw_cons]
        cases hyn : isNum y with
        | false => rfl
        | true => simp only [cond_true, List.take_succ_cons, List.all_cons, hy, Bool.false_and, Bool.not_false, Bool.or_true]
    · rw [numF_dec (by rw [beq_eq_false_iff_ne]; exact hp)]
      exact h10
/-! ### The word that begins a text, as the reference reads it -/
def roneF (s : List UInt8) : Wd := match s with
  | [] => wordF []
  | c :: r => if kindF c.toNat = 2 then ⟨2, (c :: r).take (rnumF (c :: r)).n, (rnumF (c :: r)).v, (rnumF (c :: r)).n, (rnumF (c :: r)).err⟩ else wordF (c :: r)
theorem rone_err (s : List UInt8) : (roneF s).err = (wordF s).err := by
  cases s with
  | nil => rfl
  | cons c r =>
    unfold roneF
    by_cases h : kindF c.toNat = 2
    · simp only [if_pos h]
      have := (rnum_ok (r := r) h).1
      unfold wordF
      simp only [h, this]
    · simp only [if_neg h]
theorem rone_ok {s : List UInt8} (he : (wordF s).err = 0) : roneF s = wordF s := by
  cases s with
  | nil => rfl
  | cons c r =>
    have h0 := rone_err (c :: r)
    rw [he] at h0
    unfold roneF at h0 ⊢
    by_cases h : kindF c.toNat = 2
    · simp only [if_pos h] at h0 ⊢
      obtain ⟨h1, h2⟩ := rnum_ok (r := r) h
      have hn := h2 h0
      unfold wordF
      simp only [h, h1, hn]
    · simp only [if_neg h]
/-- how long a text in quotes is, with both; below nought: it is none -/
def quoF (s : List UInt8) : Int := match s with
  | [] => -1
  | _ :: r => if (r.drop (tw isText r)).head? = some 34 then ((tw isText r + 2 : Nat) : Int) else -1
/-! ### Symbols -/
class Mqa where
  v : Nat → Dy → Dy → Dy → Dy
def qΦ [Mqa] (f : Nat) (a b c : Dy) : Dy := match f with
  | 86 => dyI (roneF a.s).kind
  | 87 => dyS (roneF a.s).text
  | 88 => dyI (roneF a.s).n
  | 89 => dyI (roneF a.s).len
  | 90 => dyI (rnumF a.s).n
  | 91 => dyI (rnumF a.s).v
  | 92 => dyI (rnumF a.s).err
  | 93 => dyI (hexV a.i.toNat)
  | 94 => dyI (quoF a.s)
  | n => Mqa.v n a b c
instance [Mqa] : Mpr := ⟨qΦ⟩
end Go.Den

/- Qc -/
/- Rows of which only their number is told. -/
set_option linter.unusedVariables false
set_option linter.unusedSimpArgs false
noncomputable section
namespace Go.Den
def anyR (r : Rw) : Rw := r.map fun _ => [(0, [])]
theorem anyR_len (r : Rw) : (anyR r).length = r.length := by unfold anyR; simp
theorem anyR_app (a b : Rw) : anyR (a ++ b) = anyR a ++ anyR b := by unfold anyR; simp
class Mqc where
  u : Nat → Dy → Dy → Dy → Dy
def cΦ [Mqc] (f : Nat) (a b c : Dy) : Dy := match f with
  | 95 => dyR (anyR a.r)
  | n => Mqc.u n a b c
instance [Mqc] : Mqa := ⟨cΦ⟩
end Go.Den

/- Sa -/
/- The machine's ops, and those that are made of others: plain words; symbols. -/
set_option linter.unusedVariables false
set_option linter.unusedSimpArgs false
set_option maxRecDepth 10000
noncomputable section
namespace Go.Den
/-- names; forms; how many operands -/
def machT : List (List UInt8 × Nat × Nat) := [([97, 100, 100], 3, 3), ([115, 117, 98], 3, 3), ([109, 117, 108], 3, 3), ([97, 110, 100], 3, 3), ([111, 114], 3, 3), ([120, 111, 114], 3, 3), ([115, 108, 108], 3, 3), ([115, 114, 108], 3, 3), ([115, 114, 97], 3, 3), ([115, 108, 116], 3, 3), ([115, 108, 116, 117], 3, 3), ([100, 105, 118, 117], 3, 3), ([114, 101, 109, 117], 3, 3), ([97, 100, 100, 105], 4, 3), ([97, 110, 100, 105], 4, 3), ([111, 114, 105], 4, 3), ([120, 111, 114, 105], 4, 3), ([115, 108, 108, 105], 4, 3), ([115, 114, 108, 105], 4, 3), ([115, 108, 116, 105], 4, 3), ([108, 105], 5, 2), ([108, 117, 105], 5, 2), ([109, 118], 2, 2), ([99, 98, 97, 115, 101], 2, 2), ([99, 116, 111, 112], 2, 2), ([99, 97, 100, 100, 114], 2, 2), ([99, 112, 101, 114, 109], 2, 2), ([99, 116, 121, 112, 101], 2, 2), ([99, 116, 97, 103], 2, 2), ([99, 115, 101, 116, 97, 100, 100, 114], 3, 3), ([99, 105, 110, 99], 3, 3), ([99, 105, 110, 99, 105], 4, 3), ([99, 98, 111, 117, 110, 100, 115], 3, 3), ([99, 98, 111, 117, 110, 100, 115, 105], 4, 3), ([99, 97, 110, 100, 112], 3, 3), ([99, 97, 110, 100, 112, 105], 4, 3), ([99, 99, 108, 101, 97, 114], 2, 2), ([99, 115, 101, 97, 108], 3, 3), ([99, 117, 110, 115, 101, 97, 108], 3, 3), ([99, 101, 110, 116, 101, 114], 2, 2), ([99, 115, 117, 98], 3, 3), ([99, 115, 117, 98, 115, 101, 116], 3, 3), ([99, 101, 113], 3, 3), ([108, 98], 8, 2), ([108, 98, 117], 8, 2), ([108, 104], 8, 2), ([108, 104, 117], 8, 2), ([108, 119], 8, 2), ([108, 99], 8, 2), ([115, 98], 8, 2), ([115, 104], 8, 2), ([115, 119], 8, 2), ([115, 99], 8, 2), ([98, 101, 113], 6, 3), ([98, 110, 101], 6, 3), ([98, 108, 116], 6, 3), ([98, 103, 101], 6, 3), ([98, 108, 116, 117], 6, 3), ([98, 103, 101, 117], 6, 3), ([106, 97, 108], 7, 2), ([106, 97, 108, 114], 4, 3), ([97, 117, 105, 112, 99, 99], 5, 2), ([105, 110], 1, 1), ([111, 117, 116], 1, 1), ([104, 97, 108, 116], 0, 0), ([101, 99, 97, 108, 108], 9, 1), ([110, 111, 112], 0, 0)]
def psdT : List (List UInt8 × Nat × Nat) := [([115, 101, 116], 0, 2), ([108, 100, 97], 0, 2), ([106, 109, 112], 0, 1), ([99, 97, 108, 108], 0, 0), ([114, 101, 116], 0, 0)]
def opsT : List (List UInt8 × Nat × Nat) := machT ++ psdT
/-- the first that has a name -/
def opIx (t : List (List UInt8 × Nat × Nat)) (s : List UInt8) : Option Nat := t.findIdx? fun x => x.1 == s
def opGet (t : List (List UInt8 × Nat × Nat)) (s : List UInt8) : Nat × Nat := match t.find? fun x => x.1 == s with
  | some x => x.2
  | none => (0, 0)
def isMach (s : List UInt8) : Bool := (opIx machT s).isSome
def isOp (s : List UInt8) : Bool := (opIx opsT s).isSome
class Msa where
  t : Nat → Dy → Dy → Dy → Dy
def aΦ [Msa] (f : Nat) (a b c : Dy) : Dy := match f with
  | 96 => dyI (b01 (isOp a.s))
  | 97 => dyI (opGet opsT a.s).2
  | 98 => dyI (b01 (isMach a.s))
  | 100 => dyI (optI ((opIx machT a.s).map (· + 1)))
  | 101 => dyI (opGet machT a.s).1
  | n => Msa.t n a b c
instance [Msa] : Mqc := ⟨aΦ⟩
/-! ### By place -/
def opNm (k : Nat) : List UInt8 := match opsT[k]? with
  | some x => x.1
  | none => []
theorem opsT_len : opsT.length = 72 := by decide
theorem machT_len : machT.length = 67 := by decide
/-- no name stands there twice; what is at each place -/
theorem op_at : ∀ k : Fin 72, opIx opsT (opNm k.val) = some k.val ∧ (opGet opsT (opNm k.val)).2 = (opsT[k.val]?.getD ([], 0, 0)).2.2 ∧ opIx machT (opNm k.val) = (if k.val < 67 then some k.val else none) ∧ (k.val < 67 → (opGet machT (opNm k.val)).1 = (opsT[k.val]?.getD ([], 0, 0)).2.1) := by decide +kernel
theorem opIx_some {t : List (List UInt8 × Nat × Nat)} {s : List UInt8} {k : Nat} (h : opIx t s = some k) : ∃ x, t[k]? = some x ∧ x.1 = s := by
  unfold opIx at h
  obtain ⟨h1, h2, _⟩ := List.findIdx?_eq_some_iff_getElem.1 h
  exact ⟨t[k], List.getElem?_eq_getElem h1, eq_of_beq h2⟩
theorem opIx_none {t : List (List UInt8 × Nat × Nat)} {s : List UInt8} (h : opIx t s = none) : ∀ (k : Nat) (x : List UInt8 × Nat × Nat), t[k]? = some x → x.1 ≠ s := fun k x hx he => by
  unfold opIx at h
  rw [List.findIdx?_eq_none_iff] at h
  have := h x (List.mem_of_getElem? hx)
  rw [he] at this; simp at this
/-- a name is one of these, or none -/
theorem op_or (s : List UInt8) : (∃ k, k < 72 ∧ s = opNm k) ∨ (isOp s = false ∧ ∀ k, k < 72 → s ≠ opNm k) := by
  cases h : opIx opsT s with
  | some k =>
    obtain ⟨x, h1, h2⟩ := opIx_some h
    have hk := (List.getElem?_eq_some_iff.1 h1).1
    rw [opsT_len] at hk
    refine .inl ⟨k, hk, ?_⟩
    unfold opNm
    rw [h1]; exact h2.symm
  | none =>
    refine .inr ⟨by unfold isOp; rw [h]; rfl, fun k hk he => ?_⟩
    have hk' : k < opsT.length := by rw [opsT_len]; exact hk
    refine opIx_none h k opsT[k] (List.getElem?_eq_getElem hk') ?_
    rw [he]
    unfold opNm
    rw [List.getElem?_eq_getElem hk']
theorem mach_none {s : List UInt8} (h : ∀ k, k < 72 → s ≠ opNm k) : isMach s = false := by
  unfold isMach
  cases hx : opIx machT s with
  | none => rfl
  | some k =>
    obtain ⟨x, h1, h2⟩ := opIx_some hx
    have hk := (List.getElem?_eq_some_iff.1 h1).1
    rw [machT_len] at hk
    refine absurd ?_ (h k (by omega))
    unfold opNm
    have : opsT[k]? = some x := by
      unfold opsT
      rw [List.getElem?_append_left (by rw [machT_len]; exact hk)]; exact h1
    rw [this]; exact h2.symm
theorem opNm_inj : ∀ i j : Fin 72, opNm i.val = opNm j.val → i = j := by decide +kernel
end Go.Den
