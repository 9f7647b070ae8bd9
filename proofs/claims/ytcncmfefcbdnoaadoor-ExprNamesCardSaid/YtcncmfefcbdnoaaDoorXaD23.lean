import Derived.Test.YtcncmfefcbdnoaaDoorXaD22
import Derived.LoopN
set_option linter.unusedVariables false
set_option linter.unusedSimpArgs false
namespace Go.Den
/-- Every region of the code whose order is drawn is fit. -/
def CodeOK : Code → Prop
  | .region _ ops draw => draw = true → DrawnOK ops
  | .seq a b => CodeOK a ∧ CodeOK b
  | .cond _ a b => CodeOK a ∧ CodeOK b
  | .block _ b => CodeOK b
  | .loop b => CodeOK b
  | _ => True
structure Static (P : Program) : Prop where
  mixed : P.follows .mixedOrders = true
  code : ∀ (f : FuncId) (fn : Func) (c : Code), P.funcs[f]? = some fn → fn.body = some c → CodeOK c
  name : ∀ (f : FuncId) (fn : Func) (c : Code), P.funcs[f]? = some fn → fn.body = some c → (fn.name == "runtime.NumGoroutine") = false
def exOf : Ex → Exit
  | .normal => .normal
  | .exit i => .exit i
  | .ret => .ret
section
variable {P : Program} {call : CallFn} {sz fuel : Nat}
/-- what a piece of code is held to -/
def Runs (P : Program) (sz : Nat) (run : Run) (c : Code) : Prop := ∀ (tm : Tm) (h : H) (ex : Ex) (tm' : Tm) (h' : H), run tm h = .to ex tm' h' → ∀ (e : Env) (a : Act) (w : World) (Q : Exit → Act → World → Prop),
  TmOK e tm a.tmps → Rel P e h w → a.tmps.size = sz → (∀ e' a' w', Step P e h w e' h' w' → TmOK e' tm' a'.tmps → a'.tmps.size = sz → a'.defers = a.defers → Q (exOf ex) a' w') → c.wp P Q a w
theorem loop_ok {body : Run} {c : Code} (hb : Runs P sz body c) : ∀ (n : Nat) (tm : Tm) (h : H) (ex : Ex) (tm' : Tm) (h' : H), loopD body n tm h = .to ex tm' h' → ∀ (e : Env) (a : Act) (w : World) (Q : Exit → Act → World → Prop),
    TmOK e tm a.tmps → Rel P e h w → a.tmps.size = sz → (∀ e' a' w', Step P e h w e' h' w' → TmOK e' tm' a'.tmps → a'.tmps.size = sz → a'.defers = a.defers → Q (exOf ex) a' w') → Code.rounds P c Q n a w
  | 0, tm, h, ex, tm', h', hr, e, a, w, Q, k, r, hsz, hQ => by cases hr
  | n + 1, tm, h, ex, tm', h', hr, e, a, w, Q, k, r, hsz, hQ => by
    have hr' : @Res.rec (fun _ => Res) .bad (fun e tm h => @Ex.rec (fun _ => Res) (loopD body n tm h) (fun i => .to (.exit i) tm h) (.to .ret tm h) e) (body tm h) = .to ex tm' h' := hr
    rw [rounds_succ]
    cases hbd : body tm h with
    | bad => rw [hbd] at hr'; cases hr'
    | to ex1 tm1 h1 =>
      rw [hbd] at hr'
      refine hb tm h ex1 tm1 h1 hbd e a w _ k r hsz (fun e1 a1 w1 s1 k1 z1 d1 => ?_)
      cases ex1 with
      | normal =>
        exact loop_ok hb n tm1 h1 ex tm' h' hr' e1 a1 w1 Q k1 s1.rel z1 (fun e2 a2 w2 s2 k2 z2 d2 => hQ e2 a2 w2 (s1.trans s2) k2 z2 (d2.trans d1))
      | exit i => cases hr'; exact hQ e1 a1 w1 s1 k1 z1 d1
      | ret => cases hr'; exact hQ e1 a1 w1 s1 k1 z1 d1
theorem execD_ok (hm : P.follows .mixedOrders = true) (hs : Sound P call) : ∀ (c : Code), CodeOK c → Runs P sz (execD P call sz fuel c) c
  | .skip, _ => fun tm h ex tm' h' hr e a w Q k r hsz hQ => by
    cases hr; exact wp_skip (hQ e a w (Step.refl r) k hsz rfl)
  | .region id ops draw, hc => fun tm h ex tm' h' hr e a w Q k r hsz hQ => by
    have hr' : @Option.rec (Tm × H) (fun _ => Res) .bad (fun r => .to .normal r.1 r.2) (@Bool.rec (fun _ => Option (Tm × H)) (opsD P call sz ops ops.toList tm h) (drawD P call sz ops tm h) draw) = .to ex tm' h' := hr
    cases draw with
    | false =>
      cases ho : opsD P call sz ops ops.toList tm h with
      | none => rw [ho] at hr'; cases hr'
      | some x => rw [ho] at hr'; cases hr'; exact regionD_ok hs ho k r hsz hQ
    | true =>
      cases ho : drawD P call sz ops tm h with
      | none => rw [ho] at hr'; cases hr'
      | some x => rw [ho] at hr'; cases hr'; exact drawD_ok hm hs (hc rfl) ho k r hsz hQ
  | .seq x y, hc => fun tm h ex tm' h' hr e a w Q k r hsz hQ => by
    have hr' : @Res.rec (fun _ => Res) .bad (fun e tm h => @Ex.rec (fun _ => Res) (execD P call sz fuel y tm h) (fun i => .to (.exit i) tm h) (.to .ret tm h) e) (execD P call sz fuel x tm h) = .to ex tm' h' := hr
    refine wp_seq ?_
    cases hbd : execD P call sz fuel x tm h with
    | bad => rw [hbd] at hr'; cases hr'
    | to ex1 tm1 h1 =>
      rw [hbd] at hr'
      refine execD_ok hm hs x hc.1 tm h ex1 tm1 h1 hbd e a w _ k r hsz (fun e1 a1 w1 s1 k1 z1 d1 => ?_)
      cases ex1 with
      | normal => exact execD_ok hm hs y hc.2 tm1 h1 ex tm' h' hr' e1 a1 w1 Q k1 s1.rel z1 (fun e2 a2 w2 s2 k2 z2 d2 => hQ e2 a2 w2 (s1.trans s2) k2 z2 (d2.trans d1))
      | exit i => cases hr'; exact hQ e1 a1 w1 s1 k1 z1 d1
      | ret => cases hr'; exact hQ e1 a1 w1 s1 k1 z1 d1
  | .cond x y z, hc => fun tm h ex tm' h' hr e a w Q k r hsz hQ => by
    have hr' : condD P x (execD P call sz fuel y) (execD P call sz fuel z) tm h = .to ex tm' h' := hr
    unfold condD at hr'
    split at hr'
    · rename_i b hb
      have hev := ev_ok (a := a) k r hb
      simp only [conc] at hev
      have hev' := (Option.some.inj hev).symm
      cases b with
      | true => exact wp_cond hev' (execD_ok hm hs y hc.1 tm h ex tm' h' hr' e a w Q k r hsz hQ)
      | false => exact wp_cond hev' (execD_ok hm hs z hc.2 tm h ex tm' h' hr' e a w Q k r hsz hQ)
    · cases hr'
  | .block id b, hc => fun tm h ex tm' h' hr e a w Q k r hsz hQ => by
    have hr' : @Res.rec (fun _ => Res) .bad (fun e tm h => @Ex.rec (fun _ => Res) (.to .normal tm h) (fun i => @Bool.rec (fun _ => Res) (.to (.exit i) tm h) (.to .normal tm h) (Nat.beq i id)) (.to .ret tm h) e) (execD P call sz fuel b tm h) = .to ex tm' h' := hr
    refine wp_block ?_
    cases hbd : execD P call sz fuel b tm h with
    | bad => rw [hbd] at hr'; cases hr'
    | to ex1 tm1 h1 =>
      rw [hbd] at hr'
      refine execD_ok hm hs b hc tm h ex1 tm1 h1 hbd e a w _ k r hsz (fun e1 a1 w1 s1 k1 z1 d1 => ?_)
      cases ex1 with
      | normal => cases hr'; exact hQ e1 a1 w1 s1 k1 z1 d1
      | exit i =>
        show (if i = id then Q .normal a1 w1 else Q (.exit i) a1 w1)
        cases hb : Nat.beq i id with
        | true =>
          rw [if_pos (Nat.eq_of_beq_eq_true hb)]
          have hr2 : @Bool.rec (fun _ => Res) (.to (.exit i) tm1 h1) (.to .normal tm1 h1) (Nat.beq i id) = .to ex tm' h' := hr'
          rw [hb] at hr2; cases hr2
          exact hQ e1 a1 w1 s1 k1 z1 d1
        | false =>
          rw [if_neg (fun he => by subst he; simp at hb)]
          have hr2 : @Bool.rec (fun _ => Res) (.to (.exit i) tm1 h1) (.to .normal tm1 h1) (Nat.beq i id) = .to ex tm' h' := hr'
          rw [hb] at hr2; cases hr2
          exact hQ e1 a1 w1 s1 k1 z1 d1
      | ret => cases hr'; exact hQ e1 a1 w1 s1 k1 z1 d1
  | .loop b, hc => fun tm h ex tm' h' hr e a w Q k r hsz hQ =>
    wp_loop_rounds fuel (loop_ok (execD_ok hm hs b hc) fuel tm h ex tm' h' hr e a w Q k r hsz hQ)
  | .rangeFunc .., _ => fun tm h ex tm' h' hr => by cases hr
  | .exit i, _ => fun tm h ex tm' h' hr e a w Q k r hsz hQ => by
    cases hr; exact wp_exit (hQ e a w (Step.refl r) k hsz rfl)
  | .scope .., _ => fun tm h ex tm' h' hr => by cases hr
  | .label .., _ => fun tm h ex tm' h' hr => by cases hr
  | .goto .., _ => fun tm h ex tm' h' hr => by cases hr
  | .ret, _ => fun tm h ex tm' h' hr e a w Q k r hsz hQ => by
    cases hr; exact wp_ret (hQ e a w (Step.refl r) k hsz rfl)
  | .refuse .., _ => fun tm h ex tm' h' hr => by cases hr
theorem enterD_ok {n : Nat} {e : Env} : ∀ (l : List IV) (i : Nat) (t t' : Tm) {L : List Value} {A : Array Value}, enterD l n i t = some t' → concL e l = some L → TmOK e t A → (∀ j V, L[j]? = some V → A[i + j]? = some V) → TmOK e t' A ∧ i + l.length ≤ max i n
  | [], i, t, t', L, A, hd, hc, k, hA => by cases hd; exact ⟨k, by simp; omega⟩
  | v :: l, i, t, t', L, A, hd, hc, k, hA => by
    have hd' : @Bool.rec (fun _ => Option Tm) none (enterD l n (i + 1) (t.put i v)) (Nat.blt i n) = some t' := hd
    cases hb : Nat.blt i n with
    | false => rw [hb] at hd'; cases hd'
    | true =>
      rw [hb] at hd'
      obtain ⟨V, R, h1, h2, rfl⟩ := concL_cons hc
      have hlt := Nat.blt_eq.mp hb
      have k' : TmOK e (t.put i v) A := by
        intro x u hu
        rw [get_put] at hu
        by_cases hx : x = i
        · subst hx; rw [if_pos rfl] at hu; cases hu
          exact ⟨V, h1, by simpa using hA 0 V rfl⟩
        · rw [if_neg hx] at hu; exact k x u hu
      obtain ⟨q1, q2⟩ := enterD_ok l (i + 1) (t.put i v) t' hd' h2 k' (fun j U hj => by
        have := hA (j + 1) U (by simpa using hj)
        rwa [show i + (j + 1) = i + 1 + j by omega] at this)
      exact ⟨q1, by simp; omega⟩
theorem bodyD_ok (hS : Static P) (hs : Sound P call) : Sound P (bodyD P call) := by
  intro f args h v h' hd e w A r hA
  obtain ⟨fn, h1, h2⟩ := ob_some hd
  obtain ⟨c, h3, h4⟩ := ob_some h2
  obtain ⟨tm, h5, h6⟩ := ob_some h4
  have hcall : (callFunc f A.toArray).run P w = .ok (.enter f A.toArray) w := by
    have hn := hS.name f fn c h1 h3
    simp only [callFunc, Sem.run_bind, run_program, Result.andThen_ok, h1]
    simp [hn, h3]
  refine .inr ⟨hcall, calls_of_wp h1 h3 ?_⟩
  have hsize : A.length ≤ fn.ntmps := by
    have := (enterD_ok (A := A.toArray) args 0 .nil tm h5 hA (TmOK.nil e _) (fun j V hj => by simpa using hj)).2
    rw [concL_length hA]
    omega
  obtain ⟨k, _⟩ := enterD_ok (A := A.toArray ++ Array.replicate (fn.ntmps - A.toArray.size) undef) args 0 .nil tm h5 hA (TmOK.nil e _) (fun j V hj => by
    have hlt := (List.getElem?_eq_some_iff.1 hj).1
    rw [Nat.zero_add, Array.getElem?_append_left (by simpa using hlt)]
    simpa using hj)
  have h6' : endD P fn (execD P call fn.ntmps 100000 c tm h) = some (v, h') := h6
  cases hx : execD P call fn.ntmps 100000 c tm h with
  | bad => rw [hx] at h6'; cases h6'
  | to ex tm1 h1' =>
    rw [hx] at h6'
    refine execD_ok hS.mixed hs c (hS.code f fn c h1 h3) tm h ex tm1 h1' hx e _ w _ k r (by simp; omega) (fun e1 a1 w1 s1 k1 z1 d1 => ?_)
    have fin : (ob (resultsD P fn tm1 h1') fun v => some (v, h1')) = some (v, h') → a1.defers = [] ∧ ∃ V, (results fn a1.tmps).run P w1 = .ok V w1 ∧ ∃ e', Step P e h w e' h' w1 ∧ conc e' v = some V := by
      intro hf
      obtain ⟨u, q1, q2⟩ := ob_some hf
      cases q2
      obtain ⟨V, q3, q4⟩ := resultsD_ok k1 s1.rel q1
      exact ⟨d1, V, q4, e1, s1, q3⟩
    cases ex with
    | normal => exact fin h6'
    | exit i => cases h6'
    | ret => exact fin h6'
/-- What is said of some calls is so. -/
def KnownOK (P : Program) (known : Known) : Prop := ∀ (f : FuncId) (g : List IV → H → Option (IV × H)), known f = some g → ∀ (args : List IV) (h : H) (v : IV) (h' : H), g args h = some (v, h') →
  ∀ (e : Env) (w : World) (A : List Value), Rel P e h w → concL e args = some A → Answers P f A.toArray w (fun V w' => ∃ e', Step P e h w e' h' w' ∧ conc e' v = some V)
/-- THE EVALUATOR IS RIGHT. -/
theorem runD_ok (hS : Static P) {known : Known} (hk : KnownOK P known) : ∀ n, Sound P (runD P known n)
  | 0 => fun f args h v h' hd => by cases hd
  | n + 1 => fun f args h v h' hd e w A r hA => by
    have hd' : @Option.rec (List IV → H → Option (IV × H)) (fun _ => Option (IV × H)) (bodyD P (runD P known n) f args h) (fun g => g args h) (known f) = some (v, h') := hd
    cases hf : known f with
    | some g => rw [hf] at hd'; exact hk f g hf args h v h' hd' e w A r hA
    | none => rw [hf] at hd'; exact bodyD_ok hS (runD_ok hS hk n) f args h v h' hd' e w A r hA
end
end Go.Den
