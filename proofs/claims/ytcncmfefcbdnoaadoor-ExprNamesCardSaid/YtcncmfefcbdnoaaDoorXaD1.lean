import Derived.Test.YtcncmfefcbdnoaaDoorXaCore
import Derived.WalkKit
import Derived.LoopN
set_option linter.unusedVariables false
set_option linter.unusedSimpArgs false
namespace Go.Den
/-! ### The trie -/
def Pa.back : Pa → Nat
  | .here => 0
  | .l p => 2 * p.back + 1
  | .r p => 2 * p.back + 2
theorem pathF_back : ∀ (f n : Nat), n < f → (pathF f n).back = n
  | 0, n, h => by omega
  | f + 1, 0, _ => rfl
  | f + 1, m + 1, h => by
    have h1 : pathF (f + 1) (m + 1) = @Nat.rec (fun _ => Pa) (.l (pathF f (m / 2))) (fun _ _ => .r (pathF f (m / 2))) (m % 2) := rfl
    rw [h1]
    have h2 := pathF_back f (m / 2) (by omega)
    rcases Nat.mod_two_eq_zero_or_one m with h0 | h0
    · rw [h0]; show 2 * (pathF f (m / 2)).back + 1 = _; rw [h2]; omega
    · rw [h0]; show 2 * (pathF f (m / 2)).back + 2 = _; rw [h2]; omega
theorem pathOf_back (n : Nat) : (pathOf n).back = n := pathF_back _ _ (Nat.lt_succ_self n)
theorem pathOf_inj {m n : Nat} (h : pathOf m = pathOf n) : m = n := by rw [← pathOf_back m, ← pathOf_back n, h]
theorem getP_nil {α : Type} (p : Pa) : T.getP (α := α) p .nil = none := by cases p <;> rfl
theorem getP_putP {α : Type} (u : Option α) : ∀ (p q : Pa) (t : T α), T.getP q (T.putP u p t) = if q = p then u else T.getP q t
  | .here, q, t => by
    cases t with
    | nil =>
      show T.getP q (.node .nil u .nil) = _
      cases q with
      | here => rfl
      | l q => show T.getP q .nil = _; rw [getP_nil, getP_nil]; simp
      | r q => show T.getP q .nil = _; rw [getP_nil, getP_nil]; simp
    | node a v b =>
      show T.getP q (.node a u b) = _
      cases q <;> rfl
  | .l p, q, t => by
    cases t with
    | nil =>
      show T.getP q (.node (T.putP u p .nil) none .nil) = _
      cases q with
      | here => rfl
      | l q => show T.getP q (T.putP u p .nil) = _; rw [getP_putP u p q .nil, getP_nil, getP_nil]; simp
      | r q => show T.getP q .nil = _; rw [getP_nil, getP_nil]; simp
    | node a v b =>
      show T.getP q (.node (T.putP u p a) v b) = _
      cases q with
      | here => rfl
      | l q => show T.getP q (T.putP u p a) = _; rw [getP_putP u p q a]; simp only [Pa.l.injEq]; rfl
      | r q => rfl
  | .r p, q, t => by
    cases t with
    | nil =>
      show T.getP q (.node .nil none (T.putP u p .nil)) = _
      cases q with
      | here => rfl
      | r q => show T.getP q (T.putP u p .nil) = _; rw [getP_putP u p q .nil, getP_nil, getP_nil]; simp
      | l q => show T.getP q .nil = _; rw [getP_nil, getP_nil]; simp
    | node a v b =>
      show T.getP q (.node a v (T.putP u p b)) = _
      cases q with
      | here => rfl
      | r q => show T.getP q (T.putP u p b) = _; rw [getP_putP u p q b]; simp only [Pa.r.injEq]; rfl
      | l q => rfl
theorem get_nil {α : Type} (n : Nat) : (T.nil : T α).get n = none := getP_nil _
theorem get_put {α : Type} (t : T α) (n m : Nat) (v : α) : (t.put n v).get m = if m = n then some v else t.get m := by
  unfold T.get T.put
  rw [getP_putP]
  by_cases h : m = n
  · subst h; simp
  · rw [if_neg (fun e => h (pathOf_inj e)), if_neg h]
theorem get_del {α : Type} (t : T α) (n m : Nat) : (t.del n).get m = if m = n then none else t.get m := by
  unfold T.get T.del
  rw [getP_putP]
  by_cases h : m = n
  · subst h; simp
  · rw [if_neg (fun e => h (pathOf_inj e)), if_neg h]

theorem ob_some {α β : Type} {x : Option α} {f : α → Option β} {b : β} (h : ob x f = some b) : ∃ a, x = some a ∧ f a = some b := by
  cases x with
  | none => exact absurd h (by simp [ob])
  | some a => exact ⟨a, rfl, h⟩
theorem ob_mk {α β : Type} {x : Option α} {f : α → Option β} {a : α} (h : x = some a) : ob x f = f a := by rw [h]; rfl

/-! ### What a value is in the model -/
def binV (op : BinOp) (k : IntKind) (a b : Int) : Int := match op with
  | .add => k.wrap (a + b)
  | .sub => k.wrap (a - b)
  | .mul => k.wrap (a * b)
  | .quo => k.wrap (a.tdiv b)
  | .rem => a.tmod b
  | .and => k.wrap (BitVec.ofInt k.bits a &&& BitVec.ofInt k.bits b).toNat
  | .or => k.wrap (BitVec.ofInt k.bits a ||| BitVec.ofInt k.bits b).toNat
  | .xor => k.wrap (BitVec.ofInt k.bits a ^^^ BitVec.ofInt k.bits b).toNat
  | .andNot => k.wrap (BitVec.ofInt k.bits a &&& ~~~ BitVec.ofInt k.bits b).toNat
  | .shl => k.wrap (a * 2 ^ Nat.min b.toNat k.bits)
  | .shr => a.fdiv (2 ^ Nat.min b.toNat k.bits)
  | _ => 0
def SE.den (ρ : Nat → Int) : SE → Int
  | .v i => ρ i
  | .n z => z
  | .wrap k a => k.wrap (a.den ρ)
  | .bin op k a b => binV op k (a.den ρ) (b.den ρ)
def cmpV (c : Cmp) (a b : Int) : Bool := match c with
  | .eq => a == b
  | .lt => decide (a < b)
  | .le => decide (a ≤ b)
/-- What is taken for granted is so. -/
def AsmOK (asm : Asm) (ρ : Nat → Int) : Prop := ∀ c a b r, asm c a b = some r → cmpV c (a.den ρ) (b.den ρ) = r
/-- What the numbers of blocks stand for; the numbers of which only the form is known; some addresses. -/
structure Env where
  f : Nat → Option (Nat × (Nat → Nat))
  ρ : Nat → Int
  ω : Nat → Addr
instance : CoeFun Env (fun _ => Nat → Option (Nat × (Nat → Nat))) := ⟨Env.f⟩
mutual
def conc (e : Env) : IV → Option Value
  | .int k n => some (.int k n)
  | .sint k s => some (.int k (s.den e.ρ))
  | .optr i => some (.pointer (some (e.ω i)))
  | .bool b => some (.bool b)
  | .str s => some (.string ⟨s.toArray⟩)
  | .ptr b o => match e b with
    | some p => some (.pointer (some ⟨p.1, o, none⟩))
    | none => none
  | .nilPtr => some (.pointer none)
  | .slice b o l c => match e b with
    | some p => some (.slice (some ⟨p.1, o, none⟩) l (if c = loose then p.2 o else c))
    | none => none
  | .nilSlice => some (.slice none 0 0)
  | .map b => match e b with
    | some p => some (.map (some p.1))
    | none => none
  | .nilMap => some (.map none)
  | .func fn a c => match concL e a, concL e c with
    | some a, some c => some (.func fn a.toArray c.toArray)
    | _, _ => none
  | .nilFunc => some .nilFunc
  | .iface t v => match conc e v with
    | some v => some (.iface t v)
    | none => none
  | .nilIface => some .nilIface
  | .agg cs => match concL e cs with
    | some l => some (.agg l.toArray)
    | none => none
  | .tuple cs => match concL e cs with
    | some l => some (.tuple l.toArray)
    | none => none
def concL (e : Env) : List IV → Option (List Value)
  | [] => some []
  | v :: r => match conc e v, concL e r with
    | some v, some r => some (v :: r)
    | _, _ => none
end

theorem conc_ptr {e : Env} {b o : Nat} {V : Value} (h : conc e (.ptr b o) = some V) : ∃ p, e b = some p ∧ V = .pointer (some ⟨p.1, o, none⟩) := by
  simp only [conc] at h; split at h
  · rename_i p hp; exact ⟨p, hp, by simpa using h.symm⟩
  · cases h
theorem conc_slice {e : Env} {b o l c : Nat} {V : Value} (h : conc e (.slice b o l c) = some V) : ∃ p, e b = some p ∧ V = .slice (some ⟨p.1, o, none⟩) l (if c = loose then p.2 o else c) := by
  simp only [conc] at h; split at h
  · rename_i p hp; exact ⟨p, hp, by simpa using h.symm⟩
  · cases h
theorem conc_map {e : Env} {b : Nat} {V : Value} (h : conc e (.map b) = some V) : ∃ p, e b = some p ∧ V = .map (some p.1) := by
  simp only [conc] at h; split at h
  · rename_i p hp; exact ⟨p, hp, by simpa using h.symm⟩
  · cases h
theorem conc_func {e : Env} {fn : Fn} {a c : List IV} {V : Value} (h : conc e (.func fn a c) = some V) : ∃ A C, concL e a = some A ∧ concL e c = some C ∧ V = .func fn A.toArray C.toArray := by
  simp only [conc] at h; split at h
  · rename_i A C h1 h2; exact ⟨A, C, h1, h2, by simpa using h.symm⟩
  · cases h
theorem conc_iface {e : Env} {t : TypeId} {v : IV} {V : Value} (h : conc e (.iface t v) = some V) : ∃ U, conc e v = some U ∧ V = .iface t U := by
  simp only [conc] at h; split at h
  · rename_i p hp; exact ⟨p, hp, by simpa using h.symm⟩
  · cases h
theorem conc_agg {e : Env} {cs : List IV} {V : Value} (h : conc e (.agg cs) = some V) : ∃ C, concL e cs = some C ∧ V = .agg C.toArray := by
  simp only [conc] at h; split at h
  · rename_i p hp; exact ⟨p, hp, by simpa using h.symm⟩
  · cases h
theorem conc_tuple {e : Env} {cs : List IV} {V : Value} (h : conc e (.tuple cs) = some V) : ∃ C, concL e cs = some C ∧ V = .tuple C.toArray := by
  simp only [conc] at h; split at h
  · rename_i p hp; exact ⟨p, hp, by simpa using h.symm⟩
  · cases h
theorem concL_cons {e : Env} {v : IV} {r : List IV} {L : List Value} (h : concL e (v :: r) = some L) : ∃ V R, conc e v = some V ∧ concL e r = some R ∧ L = V :: R := by
  simp only [concL] at h; split at h
  · rename_i V R h1 h2; exact ⟨V, R, h1, h2, by simpa using h.symm⟩
  · cases h
theorem concL_mk {e : Env} {v : IV} {r : List IV} {V : Value} {R : List Value} (h1 : conc e v = some V) (h2 : concL e r = some R) : concL e (v :: r) = some (V :: R) := by
  simp only [concL, h1, h2]
theorem concL_append {e : Env} : ∀ {a b : List IV} {A B : List Value}, concL e a = some A → concL e b = some B → concL e (a ++ b) = some (A ++ B)
  | [], b, A, B, h1, h2 => by simp only [concL] at h1; cases h1; simpa using h2
  | v :: r, b, A, B, h1, h2 => by
    obtain ⟨V, R, hv, hr, rfl⟩ := concL_cons h1
    exact concL_mk hv (concL_append hr h2)
theorem concL_length {e : Env} : ∀ {a : List IV} {A : List Value}, concL e a = some A → A.length = a.length
  | [], A, h => by simp only [concL] at h; cases h; rfl
  | v :: r, A, h => by
    obtain ⟨V, R, hv, hr, rfl⟩ := concL_cons h
    simp [concL_length hr]
theorem concL_get {e : Env} : ∀ {a : List IV} {A : List Value}, concL e a = some A → ∀ (i : Nat) (v : IV), a[i]? = some v → ∃ V, conc e v = some V ∧ A[i]? = some V
  | [], A, h, i, v, hi => by simp at hi
  | x :: r, A, h, i, v, hi => by
    obtain ⟨V, R, hv, hr, rfl⟩ := concL_cons h
    cases i with
    | zero => simp at hi; subst hi; exact ⟨V, hv, rfl⟩
    | succ i => obtain ⟨U, h1, h2⟩ := concL_get hr i v (by simpa using hi); exact ⟨U, h1, by simpa using h2⟩

structure Env.le (e e' : Env) : Prop where
  at_ : ∀ id p, e id = some p → e' id = some p
  ρ : e'.ρ = e.ρ
  ω : e'.ω = e.ω
instance {e e' : Env} : CoeFun (e.le e') (fun _ => ∀ id p, e id = some p → e' id = some p) := ⟨Env.le.at_⟩
theorem Env.le_refl (e : Env) : e.le e := ⟨fun _ _ h => h, rfl, rfl⟩
theorem Env.le_trans {a b c : Env} (h : a.le b) (k : b.le c) : a.le c := ⟨fun id p hp => k id p (h id p hp), k.ρ.trans h.ρ, k.ω.trans h.ω⟩
mutual
theorem conc_mono {e e' : Env} (hle : e.le e') : ∀ (v : IV) {V : Value}, conc e v = some V → conc e' v = some V
  | .int k n, V, h => by simpa only [conc] using h
  | .sint k n, V, h => by simp only [conc] at h ⊢; rw [hle.ρ]; exact h
  | .optr i, V, h => by simp only [conc] at h ⊢; rw [hle.ω]; exact h
  | .bool b, V, h => by simpa only [conc] using h
  | .str s, V, h => by simpa only [conc] using h
  | .ptr b o, V, h => by obtain ⟨p, hp, rfl⟩ := conc_ptr h; simp only [conc, hle _ _ hp]
  | .nilPtr, V, h => by simpa only [conc] using h
  | .slice b o l c, V, h => by obtain ⟨p, hp, rfl⟩ := conc_slice h; simp only [conc, hle _ _ hp]
  | .nilSlice, V, h => by simpa only [conc] using h
  | .map b, V, h => by obtain ⟨p, hp, rfl⟩ := conc_map h; simp only [conc, hle _ _ hp]
  | .nilMap, V, h => by simpa only [conc] using h
  | .func fn a c, V, h => by obtain ⟨A, C, h1, h2, rfl⟩ := conc_func h; simp only [conc, concL_mono hle a h1, concL_mono hle c h2]
  | .nilFunc, V, h => by simpa only [conc] using h
  | .iface t v, V, h => by obtain ⟨U, h1, rfl⟩ := conc_iface h; simp only [conc, conc_mono hle v h1]
  | .nilIface, V, h => by simpa only [conc] using h
  | .agg cs, V, h => by obtain ⟨C, h1, rfl⟩ := conc_agg h; simp only [conc, concL_mono hle cs h1]
  | .tuple cs, V, h => by obtain ⟨C, h1, rfl⟩ := conc_tuple h; simp only [conc, concL_mono hle cs h1]
theorem concL_mono {e e' : Env} (hle : e.le e') : ∀ (a : List IV) {A : List Value}, concL e a = some A → concL e' a = some A
  | [], A, h => by simpa only [concL] using h
  | v :: r, A, h => by
    obtain ⟨V, R, hv, hr, rfl⟩ := concL_cons h
    exact concL_mk (conc_mono hle v hv) (concL_mono hle r hr)
end
theorem conc_cells {e : Env} {v : IV} {V : Value} (h : conc e v = some V) : concL e v.cells = some V.cells.toList := by
  cases v with
  | agg cs => obtain ⟨C, h1, rfl⟩ := conc_agg h; simpa [IV.cells, Value.cells] using h1
  | ptr b o => obtain ⟨p, hp, rfl⟩ := conc_ptr h; exact concL_mk h rfl
  | slice b o l c => obtain ⟨p, hp, rfl⟩ := conc_slice h; exact concL_mk h rfl
  | map b => obtain ⟨p, hp, rfl⟩ := conc_map h; exact concL_mk h rfl
  | func fn a c => obtain ⟨A, C, h1, h2, rfl⟩ := conc_func h; exact concL_mk h rfl
  | iface t v => obtain ⟨U, h1, rfl⟩ := conc_iface h; exact concL_mk h rfl
  | tuple cs => obtain ⟨C, h1, rfl⟩ := conc_tuple h; exact concL_mk h rfl
  | _ => simp only [conc] at h; cases h; rfl
theorem one_ok {e : Env} {v : IV} {V : Value} (h : conc e v = some V) (h1 : one v = true) : V.oneCell' = true := by
  cases v with
  | agg cs => cases h1
  | tuple cs => cases h1
  | ptr b o => obtain ⟨p, hp, rfl⟩ := conc_ptr h; rfl
  | slice b o l c => obtain ⟨p, hp, rfl⟩ := conc_slice h; rfl
  | map b => obtain ⟨p, hp, rfl⟩ := conc_map h; rfl
  | func fn a c => obtain ⟨A, C, h1, h2, rfl⟩ := conc_func h; rfl
  | iface t v => obtain ⟨U, h1, rfl⟩ := conc_iface h; rfl
  | _ => simp only [conc] at h; cases h; rfl
end Go.Den
