import Derived.Test.YtcncmfefcbdnoaaDoorXaD24
import Derived.Lib.Bytealg
set_option linter.unusedVariables false
set_option linter.unusedSimpArgs false
namespace Go.Den
open Go.Lib
/-! ### What is said of some calls -/
abbrev Gn := List IV → H → Option (IV × H)
/-- What is said of this call is so. -/
def GoodAt (P : Program) (f : FuncId) (g : Gn) : Prop := ∀ (args : List IV) (h : H) (v : IV) (h' : H), g args h = some (v, h') →
  ∀ (e : Env) (w : World) (A : List Value), Rel P e h w → concL e args = some A → Answers P f A.toArray w (fun V w' => ∃ e', Step P e h w e' h' w' ∧ conc e' v = some V)
noncomputable def knL (l : List (Nat × Gn)) : Known := fun f => @List.rec (Nat × Gn) (fun _ => Option Gn) none (fun p _ ih => @Bool.rec (fun _ => Option Gn) ih (some p.2) (Nat.beq p.1 f)) l
theorem knL_ok {P : Program} : ∀ {l : List (Nat × Gn)}, (∀ p ∈ l, GoodAt P p.1 p.2) → KnownOK P (knL l)
  | [], _ => fun f g hf => by cases hf
  | p :: l, hp => fun f g hf => by
    have hf' : @Bool.rec (fun _ => Option Gn) (knL l f) (some p.2) (Nat.beq p.1 f) = some g := hf
    cases hb : Nat.beq p.1 f with
    | true =>
      rw [hb] at hf'; cases hf'
      have := Nat.eq_of_beq_eq_true hb
      subst this
      exact hp p (by simp)
    | false =>
      rw [hb] at hf'
      exact knL_ok (fun q hq => hp q (by simp [hq])) f g hf'
section
variable {P : Program}
/-- an entry of the model's that reads at most -/
theorem good_extern {f : FuncId} {fn : Func} {x : Array Value → Sem Value} (hf : P.funcs[f]? = some fn) (hname : (fn.name == "runtime.NumGoroutine") = false) (hb : fn.body.isNone = true) (hn : Extern.findNext fn = none) (he : Extern.find fn = some x) {g : Gn}
    (hg : ∀ (args : List IV) (h : H) (v : IV) (h' : H), g args h = some (v, h') → ∀ (e : Env) (w : World) (A : List Value), Rel P e h w → concL e args = some A → h' = h ∧ ∃ V, (x A.toArray).run P w = .ok V w ∧ conc e v = some V) : GoodAt P f g := by
  intro args h v h' hd e w A r hA
  obtain ⟨rfl, V, h1, h2⟩ := hg args h v h' hd e w A r hA
  refine .inl ⟨V, w, ?_, e, Step.refl r, h2⟩
  rw [run_callFunc_extern hf hname hb hn he, h1]
  rfl
noncomputable def idxL (c : Nat) (s : List UInt8) : Nat → IV := @List.rec UInt8 (fun _ => Nat → IV) (fun _ => .int .i64 (-1)) (fun b _ ih i => @Bool.rec (fun _ => IV) (ih (i + 1)) (.int .i64 (Int.ofNat i)) (Nat.beq b.toNat c)) s
/-- internal/bytealg.IndexByteString -/
noncomputable def gIdx : Gn := fun args h => match args with
  | [.str s, .int .u8 (.ofNat c)] => match Nat.blt c 256 with
    | true => some (idxL c s 0, h)
    | false => none
  | _ => none
theorem idxL_ok {e : Env} {c : Nat} (hc : c < 256) : ∀ (s : List UInt8) (i : Nat), conc e (idxL c s i) = some (.int .i64 (if indexByte s (UInt8.ofNat c) = -1 then -1 else indexByte s (UInt8.ofNat c) + i))
  | [], i => rfl
  | b :: s, i => by
    have h1 : idxL c (b :: s) i = @Bool.rec (fun _ => IV) (idxL c s (i + 1)) (.int .i64 (Int.ofNat i)) (Nat.beq b.toNat c) := rfl
    have hge := indexByte_ge s (UInt8.ofNat c)
    have hcn : (UInt8.ofNat c).toNat = c := by simp [Nat.mod_eq_of_lt hc]
    rw [h1]
    cases hb : Nat.beq b.toNat c with
    | true =>
      have hbc : b = UInt8.ofNat c := by
        apply UInt8.toNat_inj.1
        rw [hcn]; exact Nat.eq_of_beq_eq_true hb
      subst hbc
      simp [conc, indexByte]
    | false =>
      have hne : ¬ b = UInt8.ofNat c := by
        intro he
        subst he
        rw [hcn] at hb
        simp at hb
      show conc e (idxL c s (i + 1)) = _
      rw [idxL_ok hc s (i + 1)]
      have h2 : indexByte (b :: s) (UInt8.ofNat c) = if indexByte s (UInt8.ofNat c) == -1 then -1 else indexByte s (UInt8.ofNat c) + 1 := by
        simp [indexByte, hne]
      rw [h2]
      by_cases hm : indexByte s (UInt8.ofNat c) = -1
      · rw [if_pos hm, hm]; simp
      · have hbq : (indexByte s (UInt8.ofNat c) == -1) = false := by simpa using hm
        have hne1 : indexByte s (UInt8.ofNat c) + 1 ≠ -1 := by omega
        rw [if_neg hm, hbq]
        simp only [Bool.false_eq_true, if_false, if_neg hne1]
        congr 2
        push_cast
        omega
theorem good_idx {f : FuncId} {fn : Func} (hf : P.funcs[f]? = some fn) (hname : (fn.name == "runtime.NumGoroutine") = false) (hb : fn.body.isNone = true) (hn : Extern.findNext fn = none) (he : Extern.find fn = some Extern.BytealgIndexByte.indexByte) : GoodAt P f gIdx := by
  refine good_extern hf hname hb hn he (fun args h v h' hd e w A r hA => ?_)
  unfold gIdx at hd
  split at hd
  · rename_i s c
    split at hd
    · rename_i hlt
      cases hd
      obtain ⟨X, Y, h1, h2, rfl⟩ := args2 hA
      simp only [conc] at h1 h2; cases h1; cases h2
      refine ⟨rfl, _, run_indexByteString ⟨s.toArray⟩ (Int.ofNat c) w, ?_⟩
      rw [idxL_ok (Nat.blt_eq.mp hlt)]
      have e1 : (Int.ofNat c).toNat.toUInt8 = UInt8.ofNat c := rfl
      rw [e1]
      by_cases hm : indexByte s (UInt8.ofNat c) = -1
      · rw [if_pos hm]; simp [hm]
      · rw [if_neg hm]; simp
    · cases hd
  · cases hd
/-- reflectlite.TypeOf, at one type -/
noncomputable def gTypeOf (hb rt t0 : Nat) : Gn := fun args h => match args with
  | [.iface t _] => match Nat.beq t t0 with
    | true => some (.iface rt (.agg [.ptr hb t0]), h)
    | false => none
  | _ => none
theorem good_typeOf {f : FuncId} {fn : Func} {x : Array Value → Sem Value} {rt t0 : Nat} (hf : P.funcs[f]? = some fn) (hname : (fn.name == "runtime.NumGoroutine") = false) (hb : fn.body.isNone = true) (hn : Extern.findNext fn = none) (he : Extern.find fn = some x)
    (hx : ∀ (v : Value) (w : World), (x #[.iface t0 v]).run P w = .ok (.iface rt (.agg #[.pointer (some ⟨P.globals.size, t0, none⟩)])) w) : GoodAt P f (gTypeOf P.globals.size rt t0) := by
  refine good_extern hf hname hb hn he (fun args h v h' hd e w A r hA => ?_)
  unfold gTypeOf at hd
  split at hd
  · rename_i t u
    split at hd
    · rename_i ht
      have := Nat.eq_of_beq_eq_true ht
      subst this
      cases hd
      obtain ⟨X, h1, rfl⟩ := args1 hA
      obtain ⟨U, h2, rfl⟩ := conc_iface h1
      refine ⟨rfl, _, hx U w, ?_⟩
      obtain ⟨p, hp, hp1⟩ := r.glob P.globals.size (Nat.le_refl _)
      simp [conc, concL, hp, hp1]
    · cases hd
  · cases hd
/-- a method of reflectlite's rtype that says yes, at one type -/
noncomputable def gYes (hb t0 : Nat) : Gn := fun args h => match args with
  | [.agg [.ptr b t]] => match Nat.beq b hb, Nat.beq t t0 with
    | true, true => some (.bool true, h)
    | _, _ => none
  | _ => none
theorem good_yes {f : FuncId} {fn : Func} {x : Array Value → Sem Value} {t0 : Nat} (hf : P.funcs[f]? = some fn) (hname : (fn.name == "runtime.NumGoroutine") = false) (hb : fn.body.isNone = true) (hn : Extern.findNext fn = none) (he : Extern.find fn = some x)
    (hx : ∀ (w : World), (x #[.agg #[.pointer (some ⟨P.globals.size, t0, none⟩)]]).run P w = .ok (.bool true) w) : GoodAt P f (gYes P.globals.size t0) := by
  refine good_extern hf hname hb hn he (fun args h v h' hd e w A r hA => ?_)
  unfold gYes at hd
  split at hd
  · rename_i b t
    split at hd
    · rename_i hb ht
      have := Nat.eq_of_beq_eq_true ht
      subst this
      have := Nat.eq_of_beq_eq_true hb
      subst this
      cases hd
      obtain ⟨X, h1, rfl⟩ := args1 hA
      obtain ⟨C, h2, rfl⟩ := conc_agg h1
      obtain ⟨Y, h3, rfl⟩ := args1 h2
      obtain ⟨p, hp, rfl⟩ := conc_ptr h3
      obtain ⟨q, hq, hq1⟩ := r.glob P.globals.size (Nat.le_refl _)
      rw [hp] at hq; cases hq
      refine ⟨rfl, _, ?_, rfl⟩
      have := hx w
      rw [← hq1] at this
      exact this
    · cases hd
  · cases hd
end
end Go.Den
