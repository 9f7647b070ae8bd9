import Derived.Test.YtcncmfefcbdnoaaDoorXaD10
import Derived.Deep.AppendSrc
set_option linter.unusedVariables false
set_option linter.unusedSimpArgs false
namespace Go.Den
/-- The operation acts. -/
def Eff (P : Program) (e : Env) (h : H) (w : World) (a : Act) (o : Oper) (v : IV) (h' : H) : Prop :=
  ∃ (V : Value) (w' : World) (e' : Env), ((execOp a.eval o).run P w = .ok (.value V) w' ∨ ((execOp a.eval o).run P w = .ok .skip w' ∧ V = undef)) ∧ Step P e h w e' h' w' ∧ conc e' v = some V
section
variable {P : Program} {e : Env} {h h0 h' : H} {w : World} {tm : Tm} {a : Act} {o : Oper} {v : IV}

/-! ### Stores -/
theorem setCell_heap {b o : Nat} {v : Value} {cur : Array Value} {t : TypeId} {fr : Nat × Nat} (hb : w.heap[b]? = some (.cells cur t fr)) :
    (w.setCell ⟨b, o, none⟩ v).heap[b]? = some (.cells (cur.setIfInBounds o v) t fr) := by
  obtain ⟨hlt, hb'⟩ := Array.getElem?_eq_some_iff.1 hb
  unfold World.setCell
  simp only
  rw [Array.getElem?_modify, if_pos rfl, hb]
  simp
theorem setCell_other {b o k : Nat} {v : Value} (hk : k ≠ b) : (w.setCell ⟨b, o, none⟩ v).heap[k]? = w.heap[k]? := by
  unfold World.setCell
  simp only
  rw [Array.getElem?_modify, if_neg (fun he => hk he.symm)]
theorem setCells_heap (b : Nat) : ∀ (vs : List Value) (o : Nat) (w : World) {cur : Array Value} {t : TypeId} {fr : Nat × Nat}, w.heap[b]? = some (.cells cur t fr) →
    ∃ cur', (w.setCells b o vs).heap[b]? = some (.cells cur' t fr) ∧ cur'.size = cur.size ∧ ∀ j, cur'[j]? = if o ≤ j ∧ j < o + vs.length ∧ j < cur.size then vs[j - o]? else cur[j]?
  | [], o, w, cur, t, fr, hb => ⟨cur, hb, rfl, fun j => by rw [if_neg (by simp; omega)]⟩
  | v :: r, o, w, cur, t, fr, hb => by
    obtain ⟨cur', h1, h2, h3⟩ := setCells_heap b r (o + 1) (w.setCell ⟨b, o, none⟩ v) (setCell_heap hb)
    refine ⟨cur', h1, by rw [h2]; simp, fun j => ?_⟩
    rw [h3 j]
    simp only [Array.size_setIfInBounds]
    by_cases hj : o + 1 ≤ j ∧ j < o + 1 + r.length ∧ j < cur.size
    · rw [if_pos hj, if_pos (by simp; omega)]
      rw [show j - o = (j - (o + 1)) + 1 by omega]; rfl
    · rw [if_neg hj, Array.getElem?_setIfInBounds]
      by_cases hjo : o = j
      · subst hjo
        rw [if_pos rfl]
        by_cases hlt : o < cur.size
        · rw [if_pos hlt, if_pos (by simp; omega)]; simp
        · rw [if_neg hlt, if_neg (by omega), Array.getElem?_eq_none (by omega)]
      · rw [if_neg hjo, if_neg (by simp; omega)]
theorem setCells_frame (b : Nat) : ∀ (vs : List Value) (o : Nat) (w : World), (∀ k, k ≠ b → (w.setCells b o vs).heap[k]? = w.heap[k]?) ∧ (w.setCells b o vs).heap.size = w.heap.size ∧ (w.setCells b o vs).os = w.os ∧ (w.setCells b o vs).tape = w.tape ∧ (w.setCells b o vs).output = w.output
  | [], o, w => ⟨fun _ _ => rfl, rfl, rfl, rfl, rfl⟩
  | v :: r, o, w => by
    obtain ⟨h1, h2, h3, h4, h5⟩ := setCells_frame b r (o + 1) (w.setCell ⟨b, o, none⟩ v)
    refine ⟨fun k hk => (h1 k hk).trans (setCell_other hk), h2.trans ?_, h3, h4, h5⟩
    simp [World.setCell]
theorem storeT_ok {n : Nat} : ∀ (l : List IV) {t t' : T IV} {o : Nat}, storeT n l t o = some t' → (∀ v ∈ l, one v = true) ∧ (l ≠ [] → o + l.length ≤ n) ∧ ∀ j, t'.get j = if o ≤ j ∧ j < o + l.length then l[j - o]? else t.get j
  | [], t, t', o, hs => by cases hs; exact ⟨by simp, by simp, fun j => by rw [if_neg (by simp)]⟩
  | v :: l, t, t', o, hs => by
    have hs' : @Bool.rec (fun _ => Option (T IV)) none (@Bool.rec (fun _ => Option (T IV)) none (storeT n l (t.put o v) (o + 1)) (one v)) (Nat.blt o n) = some t' := hs
    cases hb : Nat.blt o n with
    | false => rw [hb] at hs'; cases hs'
    | true =>
      cases h1 : one v with
      | false => rw [hb, h1] at hs'; cases hs'
      | true =>
        rw [hb, h1] at hs'
        obtain ⟨h2, h3, h4⟩ := storeT_ok l hs'
        have hlt : o < n := Nat.blt_eq.mp hb
        refine ⟨fun u hu => by
          rcases List.mem_cons.1 hu with rfl | hu
          · exact h1
          · exact h2 u hu, fun _ => ?_, fun j => ?_⟩
        · cases l with
          | nil => simp; omega
          | cons x xs => have := h3 (by simp); simp at this ⊢; omega
        · rw [h4 j, get_put]
          by_cases hj : o + 1 ≤ j ∧ j < o + 1 + l.length
          · rw [if_pos hj, if_pos (by simp; omega), show j - o = (j - (o + 1)) + 1 by omega]; rfl
          · rw [if_neg hj]
            by_cases hjo : j = o
            · subst hjo; rw [if_pos rfl, if_pos (by simp)]; simp
            · rw [if_neg hjo, if_neg (by simp; omega)]
theorem ones_ok : ∀ {l : List IV} {L : List Value}, concL e l = some L → (∀ v ∈ l, one v = true) → ∀ V ∈ L, V.oneCell' = true
  | [], L, hc, _, V, hV => by simp only [concL] at hc; cases hc; cases hV
  | v :: l, L, hc, h1, V, hV => by
    obtain ⟨U, R, h2, h3, rfl⟩ := concL_cons hc
    rcases List.mem_cons.1 hV with rfl | hV
    · exact one_ok h2 (h1 v (by simp))
    · exact ones_ok h3 (fun u hu => h1 u (by simp [hu])) V hV
/-- A row of which some cells are written: what it holds. -/
theorem written {e1 : Env} {t : TypeId} {n n' : Nat} {z l : List IV} {tr tr' : T IV} {md off : Nat} {L : List Value} {cur cur' : Array Value} (hc : concL e1 l = some L)
    (hold : ∀ o v, (Blk.cells t n z tr md).cell o = some v → ∃ V, conc e1 v = some V ∧ cur[o]? = some V) (hnn : ∀ o, o < n' → (off ≤ o ∧ o < off + l.length) ∨ o < n)
    (hg : ∀ j, tr'.get j = if off ≤ j ∧ j < off + l.length then l[j - off]? else tr.get j) 
    (hcur : ∀ j, j < n' → cur'[j]? = if off ≤ j ∧ j < off + L.length then L[j - off]? else cur[j]?) {o : Nat} {v : IV} (hv : (Blk.cells t n' z tr' md).cell o = some v) : ∃ V, conc e1 v = some V ∧ cur'[o]? = some V := by
  have hlen := concL_length hc
  have hv' : (match Nat.blt o n' with
    | true => match tr'.get o with
      | some v => some v
      | none => z[o % z.length]?
    | false => none) = some v := hv
  split at hv'
  · rename_i hb
    have hlt : o < n' := Nat.blt_eq.mp hb
    rw [hg o] at hv'
    rw [hcur o hlt]
    by_cases hin : off ≤ o ∧ o < off + l.length
    · rw [if_pos hin] at hv'
      rw [if_pos (by omega)]
      have hlt2 : o - off < l.length := by omega
      rw [List.getElem?_eq_getElem hlt2] at hv'
      cases hv'
      obtain ⟨V, h1, h2⟩ := concL_get hc (o - off) _ (List.getElem?_eq_getElem hlt2)
      exact ⟨V, h1, h2⟩
    · rw [if_neg hin] at hv'
      rw [if_neg (by omega)]
      refine hold o v ?_
      have hlt3 : o < n := by
        rcases hnn o hlt with hh | hh
        · exact absurd hh hin
        · exact hh
      show (match Nat.blt o n with
        | true => match tr.get o with
          | some v => some v
          | none => z[o % z.length]?
        | false => none) = some v
      rw [Nat.blt_eq.mpr hlt3]
      exact hv'
  · cases hv'
theorem H.store_some {b off : Nat} {l : List IV} (hs : h.store b off l = some h') : ∃ t n z tr md tr', h.m.get b = some (.cells t n z tr md) ∧ md ≠ 2 ∧ storeT n l tr off = some tr' ∧ h' = h.put b (.cells t n z tr' md) := by
  obtain ⟨x, h1, h2⟩ := ob_some hs
  split at h2
  · rename_i t n z tr md
    split at h2
    · cases h2
    · rename_i hmd
      obtain ⟨tr', h3, h4⟩ := ob_some h2
      cases h4
      exact ⟨t, n, z, tr, md, tr', h1, fun he => by subst he; simp at hmd, h3, rfl⟩
  · cases h2
theorem store_ok (r : Rel P e h w) {b off : Nat} {l : List IV} {L : List Value} {p : Nat × (Nat → Nat)} (hp : e b = some p) (hc : concL e l = some L) (hs : h.store b off l = some h') (hne : l ≠ []) :
    (storeCells ⟨p.1, off, none⟩ L 0).run P w = .ok () (w.setCells p.1 off L) ∧ Step P e h w e h' (w.setCells p.1 off L) := by
  obtain ⟨t, n, z, tr, md, tr', h1, h2, h3, rfl⟩ := H.store_some hs
  obtain ⟨cur, t', fr, k0, kt, k1, k2, k3, k4⟩ := r.at h1 hp
  obtain ⟨q1, q2, q3⟩ := storeT_ok l h3
  have hlen := concL_length hc
  have hle := q2 hne
  have hcell : ∀ j, j < L.length → (w.cell? ⟨p.1, off + 0 + j, none⟩).isSome = true := fun j hj => by
    simp [World.cell?, k0]
    omega
  have hfro : ∀ j, j < L.length → w.frozen? ⟨p.1, off + 0 + j, none⟩ = false := fun j hj => by
    have := k2 h2 (off + 0 + j) (by omega)
    simp only [World.frozen?, k0]
    simp only [Bool.and_eq_false_iff, decide_eq_false_iff_not]
    by_cases hh : fr.1 ≤ off + 0 + j
    · right; intro hc; exact this ⟨hh, hc⟩
    · left; exact hh
  have hrun := run_storeCells_cells (P := P) p.1 off L 0 w hcell hfro (ones_ok hc q1)
  simp only [Nat.add_zero] at hrun
  refine ⟨hrun, ?_⟩
  obtain ⟨f1, f2, f3, f4, f5⟩ := setCells_frame p.1 L off w
  obtain ⟨cur', c1, c2, c3⟩ := setCells_heap p.1 L off w k0
  have hrw : (Blk.cells t n z tr md).rw = true := by
    show (!(Nat.beq md 2)) = true
    cases hb : Nat.beq md 2 with
    | true => exact absurd (Nat.eq_of_beq_eq_true hb) h2
    | false => rfl
  refine Step.write r h1 hrw hrw hp f1 f2 f3 f4 f5 ⟨cur', t', fr, c1, kt, by omega, fun hm o ho => k2 hm o (by omega), fun o v hv => ?_, fun hm => ?_⟩
  · have hcur : ∀ j, j < n → cur'[j]? = if off ≤ j ∧ j < off + L.length then L[j - off]? else cur[j]? := by
      intro j hj
      rw [c3 j]
      by_cases hh : off ≤ j ∧ j < off + L.length
      · rw [if_pos (by omega), if_pos hh]
      · rw [if_neg (by omega), if_neg hh]
    exact written hc k3 (fun o ho => .inr ho) q3 hcur hv
  · obtain ⟨i, C, a1, a2, a3, a4, a5⟩ := k4 hm
    exact ⟨i, C, a1, a2, by rw [c2]; exact a3, a4, a5⟩
theorem doStore_ok (k : TmOK e tm a.tmps) (r : Rel P e h w) {t : TypeId} {x y : Operand} (ho : o.op = .store t x y) (hd : doStore P tm h t x y = some (.val v h')) : Eff P e h w a o v h' := by
  obtain ⟨p, h1, h2⟩ := ob_some hd
  have hx := ev_ok k r h1
  split at h2
  · rename_i b off
    obtain ⟨u, h3, h4⟩ := ob_some h2
    obtain ⟨n, h5, h6⟩ := ob_some h4
    have hy := ev_ok k r h3
    obtain ⟨q, hq, hV⟩ := conc_ptr hx
    have hcy := conc_cells hy
    have hlen := concL_length hcy
    split at h6
    · rename_i hbq
      have hsz := Nat.eq_of_beq_eq_true hbq
      have hE : execOp a.eval o = (do Instr.storeAt t (a.eval x) (a.eval y); pure .skip) := by simp only [execOp, ho]
      have hno : ¬ ((a.eval y).cells.size ≠ n) := by rw [← Array.length_toList, hlen, hsz]; simp
      split at h6
      · rename_i hnil
        cases h6
        rw [hnil] at hcy
        have hnil' : (a.eval y).cells.toList = [] := by simp only [concL] at hcy; exact (Option.some.inj hcy).symm
        refine ⟨undef, w, e, .inr ⟨?_, rfl⟩, Step.refl r, rfl⟩
        rw [hE, hV]
        simp [Instr.storeAt, Instr.sureAddr, storeVar, size_ok h5, hno, hnil', storeCells]
      · rename_i hnn
        obtain ⟨h1', h7, h8⟩ := ob_some h6
        cases h8
        obtain ⟨q1, q2⟩ := store_ok r hq hcy h7 hnn
        refine ⟨undef, _, e, .inr ⟨?_, rfl⟩, q2, rfl⟩
        rw [hE, hV]
        have hno' : (a.eval y).cells.size = n := by simpa using hno
        simp [Instr.storeAt, Instr.sureAddr, storeVar, size_ok h5, hno', q1]
    · cases h6
  · cases h2
end
end Go.Den
