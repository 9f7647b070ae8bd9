import Derived.Test.YtcncmfefcbdnoaaDoorXaD25
import Derived.Below
set_option linter.unusedVariables false
set_option linter.unusedSimpArgs false
namespace Go.Den
open Go.RowKit
section
variable {P : Program} {e : Env} {h h' : H} {w w' : World}
/-- Nothing that was there has turned. -/
theorem Step.below (r : Rel P e h w) (hb : Below w.heap.size w w') : Step P e h w e h w' :=
  ⟨Env.le_refl e, fun _ _ => rfl, Nat.le_refl _, ⟨r.dom, r.inj, fun id b hx => by obtain ⟨p, hp, k⟩ := r.blk id b hx; exact ⟨p, hp, k.mono (Env.le_refl e) (hb.block _ k.lt)⟩, r.glob, r.asm⟩,
    hb.os, hb.tape, hb.output, hb.size, fun k hk _ => hb.block k hk, fun _ _ h _ => h, fun id b p h1 h2 h3 => .inr ⟨id, b, p, h1, h2, h3, rfl⟩⟩
theorem answers_of_calls {f : FuncId} {fn : Func} (hf : P.funcs[f]? = some fn) (hname : (fn.name == "runtime.NumGoroutine") = false) (hb : fn.body.isSome = true) {A : Array Value} {K : Value → World → Prop}
    (hc : Calls P f A w (fun x w' => match x with | .returned V => K V w' | _ => False)) : Answers P f A w K := by
  refine .inr ⟨?_, hc⟩
  cases hbd : fn.body with
  | none => rw [hbd] at hb; cases hb
  | some c =>
    simp only [callFunc, Sem.run_bind, run_program, Result.andThen_ok, hf]
    simp [hname, hbd]
/-- internal/stringslite.Clone -/
noncomputable def gClone : Gn := fun args h => match args with
  | [.str s] => match Nat.ble s.length 281474976710656 with
    | true => some (.str s, h)
    | false => none
  | _ => none
theorem good_clone {f : FuncId} {fn : Func} (hf : P.funcs[f]? = some fn) (hname : (fn.name == "runtime.NumGoroutine") = false) (hb : fn.body.isSome = true)
    (hc : ∀ (s : ByteArray) (w : World), s.size ≤ 281474976710656 → Calls P f #[.string s] w fun e w' => e = .returned (.string s) ∧ Below w.heap.size w w') : GoodAt P f gClone := by
  intro args h v h' hd e w A r hA
  unfold gClone at hd
  split at hd
  · rename_i s
    split at hd
    · rename_i hlt
      cases hd
      obtain ⟨X, h1, rfl⟩ := args1 hA
      simp only [conc] at h1; cases h1
      refine answers_of_calls hf hname hb ((hc ⟨s.toArray⟩ w (by rw [size_ba]; exact Nat.ble_eq.mp hlt)).mono fun x w' hx => ?_)
      obtain ⟨rfl, hbl⟩ := hx
      exact ⟨e, Step.below r hbl, rfl⟩
    · cases hd
  · cases hd
/-- errors.As at a target **T: nil; an error of *T itself -/
noncomputable def gAs (g0 hb rt te tf tp : Nat) : Gn := fun args h => match args with
  | [.nilIface, _] => some (.bool false, h)
  | [.iface t v, .iface u (.ptr b o)] => match Nat.beq t tf, Nat.beq u tp, v with
    | true, true, .ptr _ _ => ob (h.m.get g0) fun x => ob (x.cell 0) fun y => match y with
      | .iface r (.agg [.ptr c z]) => match Nat.beq r rt, Nat.beq c hb, Nat.beq z te with
        | true, true, true => ob (h.store b o [v]) fun h => some (.bool true, h)
        | _, _, _ => none
      | _ => none
    | _, _, _ => none
  | _ => none
theorem good_as {f : FuncId} {fn : Func} {g0 rt te tf tp : Nat} (hg0 : g0 ≤ P.globals.size) (hf : P.funcs[f]? = some fn) (hname : (fn.name == "runtime.NumGoroutine") = false) (hb : fn.body.isSome = true)
    (hnil : ∀ (t : Value) (w : World), Calls P f #[.nilIface, t] w fun e w' => e = .returned (.bool false) ∧ w' = w)
    (hhit : ∀ (ea t : Addr) (old : Value) (w : World), w.cell? ⟨g0, 0, none⟩ = some (.iface rt (.agg #[.pointer (some ⟨P.globals.size, te, none⟩)])) → w.cell? t = some old → w.frozen? t = false →
      Calls P f #[.iface tf (.pointer (some ea)), .iface tp (.pointer (some t))] w fun ev w' => ev = .returned (.bool true) ∧ ∃ w1, Below w.heap.size w w1 ∧ w' = w1.setCell t (.pointer (some ea))) :
    GoodAt P f (gAs g0 P.globals.size rt te tf tp) := by
  intro args h v h' hd e w A r hA
  unfold gAs at hd
  split at hd
  · rename_i t
    cases hd
    obtain ⟨X, Y, h1, h2, rfl⟩ := args2 hA
    simp only [conc] at h1; cases h1
    refine answers_of_calls hf hname hb ((hnil Y w).mono fun x w' hx => ?_)
    obtain ⟨rfl, rfl⟩ := hx
    exact ⟨e, Step.refl r, rfl⟩
  · rename_i t u tu b o
    split at hd
    · rename_i b1 o1 ht hu
      have := Nat.eq_of_beq_eq_true ht
      subst this
      have := Nat.eq_of_beq_eq_true hu
      subst this
      obtain ⟨blk, q1, q2⟩ := ob_some hd
      obtain ⟨y, q3, q4⟩ := ob_some q2
      split at q4
      · rename_i r0 c z
        split at q4
        · rename_i a1 a2 a3
          have := Nat.eq_of_beq_eq_true a1
          subst this
          have := Nat.eq_of_beq_eq_true a2
          subst this
          have := Nat.eq_of_beq_eq_true a3
          subst this
          obtain ⟨h2', q5, q6⟩ := ob_some q4
          cases q6
          obtain ⟨X, Y, p1, p2, rfl⟩ := args2 hA
          obtain ⟨U, p3, rfl⟩ := conc_iface p1
          obtain ⟨U2, p4, rfl⟩ := conc_iface p2
          obtain ⟨pe, hpe, rfl⟩ := conc_ptr p3
          obtain ⟨pt, hpt, rfl⟩ := conc_ptr p4
          -- the package's variable
          obtain ⟨pg, hpg, hpg1⟩ := r.glob g0 hg0
          obtain ⟨V, c1, c2⟩ := cell_ok (r.at q1 hpg) q3
          obtain ⟨V2, c3, rfl⟩ := conc_iface c1
          obtain ⟨C, c4, rfl⟩ := conc_agg c3
          obtain ⟨V4, c5, rfl⟩ := args1 c4
          obtain ⟨ph, hph, rfl⟩ := conc_ptr c5
          obtain ⟨ph', hph', hph1⟩ := r.glob P.globals.size (Nat.le_refl _)
          rw [hph] at hph'; cases hph'
          rw [hpg1, hph1] at c2
          -- the target
          obtain ⟨tt, n, zz, tr, md, tr', s1, s2, s3, s4⟩ := H.store_some q5
          obtain ⟨cur, t', fr, k0, kt, k1, k2, k3, k4⟩ := r.at s1 hpt
          obtain ⟨_, q8, _⟩ := storeT_ok _ s3
          have hle := q8 (by simp)
          simp only [List.length_cons, List.length_nil] at hle
          have hcell : w.cell? ⟨pt.1, o, none⟩ = some cur[o] := by simp [World.cell?, k0, show o < cur.size by omega]
          have hfro : w.frozen? ⟨pt.1, o, none⟩ = false := by
            have := k2 s2 o (by omega)
            simp only [World.frozen?, k0]
            simp only [Bool.and_eq_false_iff, decide_eq_false_iff_not]
            by_cases hh : fr.1 ≤ o
            · right; intro hc; exact this ⟨hh, hc⟩
            · left; exact hh
          refine answers_of_calls hf hname hb ((hhit ⟨pe.1, o1, none⟩ ⟨pt.1, o, none⟩ _ w c2 hcell hfro).mono fun x w' hx => ?_)
          obtain ⟨rfl, w1, hbl, rfl⟩ := hx
          have st := Step.below r hbl
          obtain ⟨_, st2⟩ := store_ok (P := P) st.rel (L := [.pointer (some ⟨pe.1, o1, none⟩)]) hpt (concL_mk p3 rfl) q5 (by simp)
          exact ⟨e, st.trans st2, rfl⟩
        · cases q4
      · cases q4
    · cases hd
  · cases hd
end
end Go.Den
