import Derived.Test.YtcncmfefcbdnoaaDoorXaD27
set_option linter.unusedVariables false
set_option linter.unusedSimpArgs false
noncomputable section
namespace Go.Den
open Go.RowKit
def cmpN (c : Cmp) : Nat := @Cmp.rec (fun _ => Nat) 0 1 2 c
theorem cmpN_inj {c d : Cmp} (h : Nat.beq (cmpN c) (cmpN d) = true) : c = d := by cases c <;> cases d <;> first | rfl | (exact absurd h (by decide))
def asmL (l : List (Cmp × SE × SE × Bool)) (c : Cmp) (a b : SE) : Option Bool := @List.rec (Cmp × SE × SE × Bool) (fun _ => Option Bool) none (fun p _ ih => @Bool.rec (fun _ => Option Bool) ih (@Bool.rec (fun _ => Option Bool) ih (@Bool.rec (fun _ => Option Bool) ih (some p.2.2.2) (eqSE p.2.2.1 b)) (eqSE p.2.1 a)) (Nat.beq (cmpN p.1) (cmpN c))) l
theorem asmL_mem : ∀ {l : List (Cmp × SE × SE × Bool)} {c : Cmp} {a b : SE} {r : Bool}, asmL l c a b = some r → (c, a, b, r) ∈ l
  | [], c, a, b, r, h => by cases h
  | p :: l, c, a, b, r, h => by
    have h' : @Bool.rec (fun _ => Option Bool) (asmL l c a b) (@Bool.rec (fun _ => Option Bool) (asmL l c a b) (@Bool.rec (fun _ => Option Bool) (asmL l c a b) (some p.2.2.2) (eqSE p.2.2.1 b)) (eqSE p.2.1 a)) (Nat.beq (cmpN p.1) (cmpN c)) = some r := h
    cases h1 : Nat.beq (cmpN p.1) (cmpN c) with
    | false => rw [h1] at h'; exact List.mem_cons_of_mem _ (asmL_mem h')
    | true =>
      rw [h1] at h'
      cases h2 : eqSE p.2.1 a with
      | false => rw [h2] at h'; exact List.mem_cons_of_mem _ (asmL_mem h')
      | true =>
        rw [h2] at h'
        cases h3 : eqSE p.2.2.1 b with
        | false => rw [h3] at h'; exact List.mem_cons_of_mem _ (asmL_mem h')
        | true =>
          rw [h3] at h'
          have e1 := cmpN_inj h1
          have e2 := eqSE_eq _ _ h2
          have e3 := eqSE_eq _ _ h3
          have h'' : some p.2.2.2 = some r := h'
          have e4 := Option.some.inj h''
          rw [← e1, ← e2, ← e3, ← e4]
          exact List.mem_cons_self
theorem asmL_ok {l : List (Cmp × SE × SE × Bool)} {ρ : Nat → Int} (h : ∀ p ∈ l, cmpV p.1 (p.2.1.den ρ) (p.2.2.1.den ρ) = p.2.2.2) : AsmOK (asmL l) ρ :=
  fun c a b r hr => h _ (asmL_mem hr)
def saysYes (r : Option (IV × H)) : Bool := match r with
  | some (.bool true, _) => true
  | _ => false
theorem saysYes_ok {r : Option (IV × H)} (h : saysYes r = true) : ∃ h', r = some (.bool true, h') := by
  unfold saysYes at h
  split at h
  · exact ⟨_, rfl⟩
  · cases h
theorem calls_of_answers {P : Program} {f : FuncId} {fn : Func} {w : World} (hf : P.funcs[f]? = some fn) (hname : (fn.name == "runtime.NumGoroutine") = false) (hb : fn.body.isSome = true) {A : Array Value} {K : Value → World → Prop}
    (ha : Answers P f A w K) : Calls P f A w (fun x w' => match x with | .returned V => K V w' | _ => False) := by
  rcases ha with ⟨V, w', h1, _⟩ | ⟨_, h2⟩
  · exfalso
    cases hbd : fn.body with
    | none => rw [hbd] at hb; cases hb
    | some c =>
      simp only [callFunc, Sem.run_bind, run_program, Result.andThen_ok, hf] at h1
      simp [hname, hbd] at h1
  · exact h2
/-- A law that the evaluator has run. -/
theorem law_calls {P : Program} (hS : Static P) {known : Known} (hk : KnownOK P known) {n : Nat} {f : FuncId} {fn : Func} (hf : P.funcs[f]? = some fn) (hname : (fn.name == "runtime.NumGoroutine") = false) (hb : fn.body.isSome = true)
    {args : List IV} {h : H} (hrun : saysYes (runD P known n f args h) = true) (hro : ∀ id b, h.m.get id = some b → b.rw = false) {e : Env} {W : World} (r : Rel P e h W) {A : List Value} (hA : concL e args = some A) :
    Calls P f A.toArray W fun x W' => x = .returned (.bool true) ∧ Below W.heap.size W W' := by
  obtain ⟨h', hr⟩ := saysYes_ok hrun
  refine (calls_of_answers hf hname hb (runD_ok hS hk n f args h _ h' hr e W A r hA)).mono fun x W' hx => ?_
  cases x with
  | returned V =>
    obtain ⟨e', st, hV⟩ := hx
    simp only [conc] at hV; cases hV
    exact ⟨rfl, st.os, st.tape, st.output, st.size, fun k hk => st.old k hk (fun id b p hb' hrw _ => by rw [hro id b hb'] at hrw; cases hrw)⟩
  | panicked c => exact hx.elim
  | outgrown => exact hx.elim
theorem putL_ro {l : List (Nat × Blk)} (h : ∀ p ∈ l, p.2.rw = false) : ∀ id b, (putL l).get id = some b → b.rw = false := fun id b hb => h _ (putL_get hb)
end Go.Den
