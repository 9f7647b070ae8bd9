/- An evaluator for the model's code over values and memory of its own, and that it is right; plain words for what the program computes. -/
import Derived.Deep.AppendSrc
import Derived.Laws.RangeString
import Derived.Tactics
import Derived.Orders
import Derived.LoopN
import Derived.KernelRfl
import Derived.Lib.Bytealg
import Derived.Below
import Derived.Test.YtlfeoiagemlbiaaGreatDoorXs1
/- D11 -/
set_option linter.unusedVariables false
set_option linter.unusedSimpArgs false
set_option linter.unusedSectionVars false
namespace Go.Den
variable [Interp]
/-- The operation acts. -/
def Eff (P : Program) (e : Env) (h : H) (w : World) (a : Act) (o : Oper) (v : IV) (h' : H) : Prop :=
  ∃ (V : Value) (w' : World) (e' : Env), ((execOp a.eval o).run P w = .ok (.value V) w' ∨ ((execOp a.eval o).run P w = .ok .skip w' ∧ V = undef)) ∧ Step P e h w e' h' w' ∧ conc e' v = some V
section
variable {P : Program} {e : Env} {h h0 h' : H} {w : World} {tm : Tm} {a : Act} {o : Oper} {v : IV}

/-! ### Stores -/
theorem setCell_heap {b o : Nat} {v : Value} {cur : Array Value} {t : TypeId} {fr : Nat × Nat} (hb : w.heap[b]? = some (.cells cur t fr)) :
    (w.setCell ⟨b, o, none⟩ v).heap[b]? = some (.cells (cur.setIfInBounds o v) t fr) := by
  obtain ⟨hlt, hb'⟩ := Array.getElem?_eq_some_iff.1 hb
  unfold World.setCell
  simp only
  rw [Array.getElem?_modify, if_pos rfl, hb]
  simp
theorem setCell_other {b o k : Nat} {v : Value} (hk : k ≠ b) : (w.setCell ⟨b, o, none⟩ v).heap[k]? = w.heap[k]? := by
  unfold World.setCell
  simp only
  rw [Array.getElem?_modify, if_neg (fun he => hk he.symm)]
theorem setCells_heap (b : Nat) : ∀ (vs : List Value) (o : Nat) (w : World) {cur : Array Value} {t : TypeId} {fr : Nat × Nat}, w.heap[b]? = some (.cells cur t fr) →
    ∃ cur', (w.setCells b o vs).heap[b]? = some (.cells cur' t fr) ∧ cur'.size = cur.size ∧ ∀ j, cur'[j]? = if o ≤ j ∧ j < o + vs.length ∧ j < cur.size then vs[j - o]? else cur[j]?
  | [], o, w, cur, t, fr, hb => ⟨cur, hb, rfl, fun j => by rw [if_neg (by simp; omega)]⟩
  | v :: r, o, w, cur, t, fr, hb => by
    obtain ⟨cur', h1, h2, h3⟩ := setCells_heap b r (o + 1) (w.setCell ⟨b, o, none⟩ v) (setCell_heap hb)
    refine ⟨cur', h1, by rw [h2]; simp, fun j => ?_⟩
    rw [h3 j]
    simp only [Array.size_setIfInBounds]
    by_cases hj : o + 1 ≤ j ∧ j < o + 1 + r.length ∧ j < cur.size
    · rw [if_pos hj, if_pos (by simp; omega)]
      rw [show j - o = (j - (o + 1)) + 1 by omega]; rfl
    · rw [if_neg hj, Array.getElem?_setIfInBounds]
      by_cases hjo : o = j
      · subst hjo
        rw [if_pos rfl]
        by_cases hlt : o < cur.size
        · rw [if_pos hlt, if_pos (by simp; omega)]; simp
        · rw [if_neg hlt, if_neg (by omega), Array.getElem?_eq_none (by omega)]
      · rw [if_neg hjo, if_neg (by simp; omega)]
theorem setCells_frame (b : Nat) : ∀ (vs : List Value) (o : Nat) (w : World), (∀ k, k ≠ b → (w.setCells b o vs).heap[k]? = w.heap[k]?) ∧ (w.setCells b o vs).heap.size = w.heap.size ∧ (w.setCells b o vs).os = w.os ∧ (w.setCells b o vs).tape = w.tape ∧ (w.setCells b o vs).output = w.output
  | [], o, w => ⟨fun _ _ => rfl, rfl, rfl, rfl, rfl⟩
  | v :: r, o, w => by
    obtain ⟨h1, h2, h3, h4, h5⟩ := setCells_frame b r (o + 1) (w.setCell ⟨b, o, none⟩ v)
    refine ⟨fun k hk => (h1 k hk).trans (setCell_other hk), h2.trans ?_, h3, h4, h5⟩
    simp [World.setCell]
theorem storeT_ok {n : Nat} : ∀ (l : List IV) {t t' : T IV} {o : Nat}, storeT n l t o = some t' → (∀ v ∈ l, one v = true) ∧ (l ≠ [] → o + l.length ≤ n) ∧ ∀ j, t'.get j = if o ≤ j ∧ j < o + l.length then l[j - o]? else t.get j
  | [], t, t', o, hs => by cases hs; exact ⟨by simp, by simp, fun j => by rw [if_neg (by simp)]⟩
  | v :: l, t, t', o, hs => by
    have hs' : @Bool.rec (fun _ => Option (T IV)) none (@Bool.rec (fun _ => Option (T IV)) none (storeT n l (t.put o v) (o + 1)) (one v)) (Nat.blt o n) = some t' := hs
    cases hb : Nat.blt o n with
    | false => rw [hb] at hs'; cases hs'
    | true =>
      cases h1 : one v with
      | false => rw [hb, h1] at hs'; cases hs'
      | true =>
        rw [hb, h1] at hs'
        obtain ⟨h2, h3, h4⟩ := storeT_ok l hs'
        have hlt : o < n := Nat.blt_eq.mp hb
        refine ⟨fun u hu => by
          rcases List.mem_cons.1 hu with rfl | hu
          · exact h1
          · exact h2 u hu, fun _ => ?_, fun j => ?_⟩
        · cases l with
          | nil => simp; omega
          | cons x xs => have := h3 (by simp); simp at this ⊢; omega
        · rw [h4 j, get_put]
          by_cases hj : o + 1 ≤ j ∧ j < o + 1 + l.length
          · rw [if_pos hj, if_pos (by simp; omega), show j - o = (j - (o + 1)) + 1 by omega]; rfl
          · rw [if_neg hj]
            by_cases hjo : j = o
            · subst hjo; rw [if_pos rfl, if_pos (by simp)]; simp
            · rw [if_neg hjo, if_neg (by simp; omega)]
theorem ones_ok : ∀ {l : List IV} {L : List Value}, concL e l = some L → (∀ v ∈ l, one v = true) → ∀ V ∈ L, V.oneCell' = true
  | [], L, hc, _, V, hV => by simp only [concL] at hc; cases hc; cases hV
  | v :: l, L, hc, h1, V, hV => by
    obtain ⟨U, R, h2, h3, rfl⟩ := concL_cons hc
    rcases List.mem_cons.1 hV with rfl | hV
    · exact one_ok h2 (h1 v (by simp))
    · exact ones_ok h3 (fun u hu => h1 u (by simp [hu])) V hV
/-- A row of which some cells are written: what it holds. -/
theorem written {e1 : Env} {t : TypeId} {n n' : Nat} {z l : List IV} {tr tr' : T IV} {md off : Nat} {L : List Value} {cur cur' : Array Value} (hc : concL e1 l = some L)
    (hold : ∀ o v, (Blk.cells t n z tr md).cell o = some v → ∃ V, conc e1 v = some V ∧ cur[o]? = some V) (hnn : ∀ o, o < n' → (off ≤ o ∧ o < off + l.length) ∨ o < n)
    (hg : ∀ j, tr'.get j = if off ≤ j ∧ j < off + l.length then l[j - off]? else tr.get j) 
    (hcur : ∀ j, j < n' → cur'[j]? = if off ≤ j ∧ j < off + L.length then L[j - off]? else cur[j]?) {o : Nat} {v : IV} (hv : (Blk.cells t n' z tr' md).cell o = some v) : ∃ V, conc e1 v = some V ∧ cur'[o]? = some V := by
  have hlen := concL_length hc
  have hv' : (match Nat.blt o n' with
    | true => match tr'.get o with
      | some v => some v
      | none => z[o % z.length]?
    | false => none) = some v := hv
  split at hv'
  · rename_i hb
    have hlt : o < n' := Nat.blt_eq.mp hb
    rw [hg o] at hv'
    rw [hcur o hlt]
    by_cases hin : off ≤ o ∧ o < off + l.length
    · rw [if_pos hin] at hv'
      rw [if_pos (by omega)]
      have hlt2 : o - off < l.length := by omega
      rw [List.getElem?_eq_getElem hlt2] at hv'
      cases hv'
      obtain ⟨V, h1, h2⟩ := concL_get hc (o - off) _ (List.getElem?_eq_getElem hlt2)
      exact ⟨V, h1, h2⟩
    · rw [if_neg hin] at hv'
      rw [if_neg (by omega)]
      refine hold o v ?_
      have hlt3 : o < n := by
        rcases hnn o hlt with hh | hh
        · exact absurd hh hin
        · exact hh
      show (match Nat.blt o n with
        | true => match tr.get o with
          | some v => some v
          | none => z[o % z.length]?
        | false => none) = some v
      rw [Nat.blt_eq.mpr hlt3]
      exact hv'
  · cases hv'
theorem H.store_some {b off : Nat} {l : List IV} (hs : h.store b off l = some h') : ∃ t n z tr md tr', h.m.get b = some (.cells t n z tr md) ∧ md ≠ 2 ∧ storeT n l tr off = some tr' ∧ h' = h.put b (.cells t n z tr' md) := by
  obtain ⟨x, h1, h2⟩ := ob_some hs
  split at h2
  · rename_i t n z tr md
    split at h2
    · cases h2
    · rename_i hmd
      obtain ⟨tr', h3, h4⟩ := ob_some h2
      cases h4
      exact ⟨t, n, z, tr, md, tr', h1, fun he => by subst he; simp at hmd, h3, rfl⟩
  · cases h2
theorem store_ok (r : Rel P e h w) {b off : Nat} {l : List IV} {L : List Value} {p : Nat × (Nat → Nat)} (hp : e b = some p) (hc : concL e l = some L) (hs : h.store b off l = some h') (hne : l ≠ []) :
    (storeCells ⟨p.1, off, none⟩ L 0).run P w = .ok () (w.setCells p.1 off L) ∧ Step P e h w e h' (w.setCells p.1 off L) := by
  obtain ⟨t, n, z, tr, md, tr', h1, h2, h3, rfl⟩ := H.store_some hs
  obtain ⟨cur, t', fr, k0, kt, k1, k2, k3, k4⟩ := r.at h1 hp
  obtain ⟨q1, q2, q3⟩ := storeT_ok l h3
  have hlen := concL_length hc
  have hle := q2 hne
  have hcell : ∀ j, j < L.length → (w.cell? ⟨p.1, off + 0 + j, none⟩).isSome = true := fun j hj => by
    simp [World.cell?, k0]
    omega
  have hfro : ∀ j, j < L.length → w.frozen? ⟨p.1, off + 0 + j, none⟩ = false := fun j hj => by
    have := k2 h2 (off + 0 + j) (by omega)
    simp only [World.frozen?, k0]
    simp only [Bool.and_eq_false_iff, decide_eq_false_iff_not]
    by_cases hh : fr.1 ≤ off + 0 + j
    · right; intro hc; exact this ⟨hh, hc⟩
    · left; exact hh
  have hrun := run_storeCells_cells (P := P) p.1 off L 0 w hcell hfro (ones_ok hc q1)
  simp only [Nat.add_zero] at hrun
  refine ⟨hrun, ?_⟩
  obtain ⟨f1, f2, f3, f4, f5⟩ := setCells_frame p.1 L off w
  obtain ⟨cur', c1, c2, c3⟩ := setCells_heap p.1 L off w k0
  have hrw : (Blk.cells t n z tr md).rw = true := by
    show (!(Nat.beq md 2)) = true
    cases hb : Nat.beq md 2 with
    | true => exact absurd (Nat.eq_of_beq_eq_true hb) h2
    | false => rfl
  refine Step.write r h1 hrw hrw hp f1 f2 f3 f4 f5 ⟨cur', t', fr, c1, kt, by omega, fun hm o ho => k2 hm o (by omega), fun o v hv => ?_, fun hm => ?_⟩
  · have hcur : ∀ j, j < n → cur'[j]? = if off ≤ j ∧ j < off + L.length then L[j - off]? else cur[j]? := by
      intro j hj
      rw [c3 j]
      by_cases hh : off ≤ j ∧ j < off + L.length
      · rw [if_pos (by omega), if_pos hh]
      · rw [if_neg (by omega), if_neg hh]
    exact written hc k3 (fun o ho => .inr ho) q3 hcur hv
  · obtain ⟨i, C, a1, a2, a3, a4, a5⟩ := k4 hm
    exact ⟨i, C, a1, a2, by rw [c2]; exact a3, a4, a5⟩
theorem doStore_ok (k : TmOK e tm a.tmps) (r : Rel P e h w) {t : TypeId} {x y : Operand} (ho : o.op = .store t x y) (hd : doStore P tm h t x y = some (.val v h')) : Eff P e h w a o v h' := by
  obtain ⟨p, h1, h2⟩ := ob_some hd
  have hx := ev_ok k r h1
  split at h2
  · rename_i b off
    obtain ⟨u, h3, h4⟩ := ob_some h2
    obtain ⟨n, h5, h6⟩ := ob_some h4
    have hy := ev_ok k r h3
    obtain ⟨q, hq, hV⟩ := conc_ptr hx
    have hcy := conc_cells hy
    have hlen := concL_length hcy
    split at h6
    · rename_i hbq
      have hsz := Nat.eq_of_beq_eq_true hbq
      have hE : execOp a.eval o = (do Instr.storeAt t (a.eval x) (a.eval y); pure .skip) := by simp only [execOp, ho]
      have hno : ¬ ((a.eval y).cells.size ≠ n) := by rw [← Array.length_toList, hlen, hsz]; simp
      split at h6
      · rename_i hnil
        cases h6
        rw [hnil] at hcy
        have hnil' : (a.eval y).cells.toList = [] := by simp only [concL] at hcy; exact (Option.some.inj hcy).symm
        refine ⟨undef, w, e, .inr ⟨?_, rfl⟩, Step.refl r, rfl⟩
        rw [hE, hV]
        simp [Instr.storeAt, Instr.sureAddr, storeVar, size_ok h5, hno, hnil', storeCells]
      · rename_i hnn
        obtain ⟨h1', h7, h8⟩ := ob_some h6
        cases h8
        obtain ⟨q1, q2⟩ := store_ok r hq hcy h7 hnn
        refine ⟨undef, _, e, .inr ⟨?_, rfl⟩, q2, rfl⟩
        rw [hE, hV]
        have hno' : (a.eval y).cells.size = n := by simpa using hno
        simp [Instr.storeAt, Instr.sureAddr, storeVar, size_ok h5, hno', q1]
    · cases h6
  · cases h2
end
end Go.Den

/- D12 -/
set_option linter.unusedVariables false
set_option linter.unusedSimpArgs false
set_option linter.unusedSectionVars false
namespace Go.Den
variable [Interp]
section
variable {P : Program} {e : Env} {h h0 h' : H} {w : World} {tm : Tm} {a : Act} {o : Oper} {v : IV}

/-! ### What is appended -/
def Yield (P : Program) (i : TypeInfo) (Z : Value) (t2 : TypeId) (X : Value) (n : Nat) (news : List Value) (w : World) : Prop :=
  (((∃ e', P.underlying t2 = some (.slice e')) ∨ P.underlying t2 = some .string) ∧ (∀ w', (Builtin.lenOf X).run P w' = .ok n w') ∧ (Builtin.firstCells i.size n X).run P w = .ok news.toArray w) ∨
  (∃ k k2, P.underlying t2 = some (.int k2) ∧ X = .int k n ∧ n ≤ 1000000 ∧ n * i.bytes ≤ 140737488355328 ∧ Z.cells.size = i.size ∧ news = (Builtin.zeroCells Z.cells n).toList)
theorem append_room {t t2 ty el : TypeId} {i : TypeInfo} {Z X : Value} {n : Nat} {news : List Value} (ht : P.underlying t = some (.slice el)) (hi : P.info? el = some i) (hz : i.zero = some Z) (hy : Yield P i Z t2 X n news w)
    {base : Option Addr} {sLen sCap : Nat} (hroom : sLen + n ≤ sCap) : (Builtin.append_ #[t, t2] ty #[.slice base sLen sCap, X]).run P w =
      ((match base with | some a => storeCells (a.add (sLen * i.size)) news | none => pure () : Sem Unit).run P w).andThen fun _ w => .ok (.slice base (sLen + n) sCap) w := by
  rcases hy with ⟨hk, hl, hc⟩ | ⟨k, k2, hk, rfl, h1, h2, h3, rfl⟩
  · rcases hk with ⟨e', hk⟩ | hk <;> cases base <;> simp [Builtin.append_, run_underlying ht, run_underlying hk, sizeOf, typeInfo, hi, hl, hroom, hc]
  · have wl : IntKind.i64.wrap (n : Int) = n := by rw [IntKind.wrap_i64]; omega
    have n1 : ¬ ((n : Int) < 0) := by omega
    have n2 : ¬ (281474976710656 < (n : Int) * (i.bytes : Int)) := by
      rw [← Int.natCast_mul]; omega
    by_cases h0 : n * i.size = 0
    · have hz0 : Builtin.zeroCells Z.cells n = #[] := by
        have hr0 : Array.range 0 = #[] := rfl
        unfold Builtin.zeroCells; rw [h3, h0, hr0, Array.map_empty]
      cases base <;> simp [Builtin.append_, run_underlying ht, run_underlying hk, sizeOf, typeInfo, hi, asInt, asIntOf, wl, n1, n2, hroom, h0, hz0]
    · cases base <;> simp [Builtin.append_, run_underlying ht, run_underlying hk, sizeOf, typeInfo, hi, asInt, asIntOf, wl, n1, n2, hroom, h0, zeroValue, hz]
theorem append_grow {t t2 ty el : TypeId} {i : TypeInfo} {Z X : Value} {n : Nat} {news olds : List Value} (ht : P.underlying t = some (.slice el)) (hi : P.info? el = some i) (hz : i.zero = some Z) (hy : Yield P i Z t2 X n news w.drew)
    {base : Option Addr} {sLen sCap : Nat} (hg : sCap < sLen + n) (h63 : sLen + n ≤ maxLen) (hfit : (sLen + n) * i.bytes ≤ 140737488355328)
    (hold : (Builtin.firstCells i.size sLen (.slice base sLen sCap)).run P w.drew = .ok olds.toArray w.drew) : (Builtin.append_ #[t, t2] ty #[.slice base sLen sCap, X]).run P w =
      .ok (.slice (some ⟨w.heap.size, 0, none⟩) (sLen + n) (grownCap w (sLen + n) sCap el)) (w.drew.alloc (.cells ((olds ++ news).toArray ++ Builtin.zeroCells Z.cells (grownCap w (sLen + n) sCap el - (sLen + n))) el)) := by
  have hfin : ∀ (A : Array Value) (C : Array Value), A.toList = news → w.drew.alloc (.cells (olds.toArray ++ (A ++ C)) el) = w.drew.alloc (.cells ((olds ++ news).toArray ++ C) el) := by
    intro A C hA
    congr 2
    apply Array.ext'
    simp [hA]
  have hn : ¬ (sLen + n ≤ sCap) := by omega
  have h63' : ¬ (9223372036854775807 < ((sLen : Int) + (n : Int))) := by simp only [maxLen] at h63; omega
  have hf := growslice_fits (bytes := i.bytes) hg hfit
  have h48' : ¬ (281474976710656 < Builtin.nextslicecap (sLen + n) sCap * i.bytes) := by omega
  have hq : (Question.appendCap (sLen + n) sCap el).forced = false := rfl
  rcases hy with ⟨hk, hl, hc⟩ | ⟨k, k2, hk, rfl, h1, h2, h3, rfl⟩
  · rcases hk with ⟨e', hk⟩ | hk <;> simp [Builtin.append_, run_underlying ht, run_underlying hk, sizeOf, typeInfo, zeroValue, hi, hz, hl, hn, h63', h48', hq, hc, hold, newRow, grownCap]
    all_goals exact hfin _ _ (by simp)
  · have wl : IntKind.i64.wrap (n : Int) = n := by rw [IntKind.wrap_i64]; omega
    have n1 : ¬ ((n : Int) < 0) := by omega
    have n2 : ¬ (281474976710656 < (n : Int) * (i.bytes : Int)) := by
      rw [← Int.natCast_mul]; omega
    by_cases h0 : n * i.size = 0
    · have hz0 : Builtin.zeroCells Z.cells n = #[] := by
        have hr0 : Array.range 0 = #[] := rfl
        unfold Builtin.zeroCells; rw [h3, h0, hr0, Array.map_empty]
      simp [Builtin.append_, run_underlying ht, run_underlying hk, sizeOf, typeInfo, zeroValue, hi, hz, asInt, asIntOf, wl, n1, n2, hn, h63', h48', hq, h0, hz0, hold, newRow, grownCap]
      all_goals exact hfin #[] _ (by simp [hz0])
    · simp [Builtin.append_, run_underlying ht, run_underlying hk, sizeOf, typeInfo, zeroValue, hi, hz, asInt, asIntOf, wl, n1, n2, hn, h63', h48', hq, h0, hold, newRow, grownCap]
      all_goals exact hfin _ _ rfl
theorem firstCells_ok (r : Rel P e h w) {sz n : Nat} {x : IV} {X : Value} {l : List IV} (hx : conc e x = some X) (hl : firstCells h sz n x = some l) (hn : ∀ s, x = .str s → n ≤ s.length) :
    ∃ L, concL e l = some L ∧ L.length = n * sz ∧ (Builtin.firstCells sz n X).run P w = .ok L.toArray w := by
  cases x with
  | nilSlice =>
    cases n with
    | zero =>
      cases hl
      simp only [conc] at hx; cases hx
      exact ⟨[], rfl, by simp, by simp [Builtin.firstCells]⟩
    | succ n => cases hl
  | slice b off len c =>
    obtain ⟨blk, h1, h2⟩ := ob_some hl
    obtain ⟨p, hp, rfl⟩ := conc_slice hx
    obtain ⟨L, h3, h4, h5⟩ := run_loadN (r.at h1 hp) h2
    exact ⟨L, h3, h4, by simp [Builtin.firstCells, h5]⟩
  | str s =>
    have hl' : @Bool.rec (fun _ => Option (List IV)) none (some (ofBytes (s.take n))) (Nat.beq sz 1) = some l := hl
    cases hb : Nat.beq sz 1 with
    | false => rw [hb] at hl'; cases hl'
    | true =>
      rw [hb] at hl'
      cases hl'
      have := Nat.eq_of_beq_eq_true hb
      subst this
      simp only [conc] at hx; cases hx
      refine ⟨_, ofBytes_ok _, by simp [hn s rfl], ?_⟩
      simp only [Builtin.firstCells, Sem.run_pure]
      congr 1
      rw [extract_ba]
      simp
  | _ => cases hl
theorem lenOf_ok {x : IV} {X : Value} {n : Nat} (hx : conc e x = some X) (hl : lenOf x = some n) : (∀ w', (Builtin.lenOf X).run P w' = .ok n w') ∧ ∀ s, x = .str s → n ≤ s.length := by
  cases x with
  | nilSlice => cases hl; simp only [conc] at hx; cases hx; exact ⟨fun _ => rfl, fun s hs => by cases hs⟩
  | slice b off len c => cases hl; obtain ⟨p, hp, rfl⟩ := conc_slice hx; exact ⟨fun _ => rfl, fun s hs => by cases hs⟩
  | str s => cases hl; simp only [conc] at hx; cases hx; exact ⟨fun _ => by simp [Builtin.lenOf, size_ba], fun s' hs => by cases hs; exact Nat.le_refl _⟩
  | _ => cases hl
theorem appendedD_ok (r : Rel P e h w) {el t2 : TypeId} {i : TypeInfo} {Z : Value} {x : IV} {X : Value} {n : Nat} {new : List IV} (hi : P.info? el = some i) (hz : i.zero = some Z) (hx : conc e x = some X) (hd : appendedD P h el i t2 x = some (n, new)) :
    ∃ news, concL e new = some news ∧ news.length = n * i.size ∧ Yield P i Z t2 X n news w ∧ Yield P i Z t2 X n news w.drew := by
  obtain ⟨u, hu, h1⟩ := ob_some hd
  have plain : ((∃ e', P.underlying t2 = some (.slice e')) ∨ P.underlying t2 = some .string) → (ob (lenOf x) fun n => ob (firstCells h i.size n x) fun cs => some (n, cs)) = some (n, new) → ∃ news, concL e new = some news ∧ news.length = n * i.size ∧ Yield P i Z t2 X n news w ∧ Yield P i Z t2 X n news w.drew := by
    intro hk hd
    obtain ⟨n', h2, h3⟩ := ob_some hd
    obtain ⟨cs, h4, h5⟩ := ob_some h3
    cases h5
    obtain ⟨q1, q2⟩ := lenOf_ok (P := P) hx h2
    obtain ⟨L, q3, q4, q5⟩ := firstCells_ok r hx h4 q2
    obtain ⟨L2, q6, q7, q8⟩ := firstCells_ok (r.of_heap (w1 := w.drew) rfl) hx h4 q2
    rw [q3] at q6; cases q6
    exact ⟨L, q3, q4, .inl ⟨hk, q1, q5⟩, .inl ⟨hk, q1, q8⟩⟩
  split at h1
  · rename_i k2 k l
    split at h1
    · rename_i c1 c2
      obtain ⟨z, h2, h3⟩ := ob_some h1
      split at h3
      · rename_i c3
        cases h3
        obtain ⟨i', Z', hi', hZ', hzz⟩ := zero_ok h2
        rw [hi] at hi'; cases hi'
        rw [hz] at hZ'; cases hZ'
        have hcz := conc_cells (ofValue_ok (e := e) hzz)
        have hlen := concL_length hcz
        have hZs : Z.cells.size = i.size := by rw [← Array.length_toList, hlen]; exact Nat.eq_of_beq_eq_true c3
        simp only [conc] at hx; cases hx
        have hY : ∀ w1 : World, Yield P i Z t2 (.int k (Int.ofNat n)) n (Builtin.zeroCells Z.cells n).toList w1 := fun w1 => .inr ⟨k, k2, hu, rfl, Nat.ble_eq.mp c1, Nat.ble_eq.mp c2, hZs, rfl⟩
        exact ⟨_, zeros_ok hcz n, by simp [Builtin.zeroCells, hZs], hY w, hY w.drew⟩
      · cases h3
    · cases h1
  · exact plain (.inl ⟨_, hu⟩) h1
  · exact plain (.inr hu) h1
  · cases h1
theorem fits_ok {i : TypeInfo} {m : Nat} (hf : fits i m = true) : m * i.bytes ≤ 140737488355328 ∧ m ≤ maxLen := by
  have hf' : @Bool.rec (fun _ => Bool) false (Nat.ble m 9223372036854775807) (Nat.ble (m * i.bytes) 140737488355328) = true := hf
  cases hb : Nat.ble (m * i.bytes) 140737488355328 with
  | false => rw [hb] at hf'; cases hf'
  | true => rw [hb] at hf'; exact ⟨Nat.ble_eq.mp hb, by have := Nat.ble_eq.mp hf'; simp only [maxLen]; omega⟩
/-- A new row with spare room: the block, the value. -/
theorem grown {el : TypeId} {i : TypeInfo} {Z : Value} (r : Rel P e h w) (hi : P.info? el = some i) (hz : Z.cells.size = i.size) (hpos : 0 < i.size) {cs : List IV} {L : List Value} {need old : Nat} (hc : concL e cs = some L) (hl : L.length = need * i.size) (h63 : need ≤ maxLen) :
    Step P e h w (upd e h.next (w.heap.size, fun o => grownCap w need old el - o / i.size)) (h.new (.cells el (need * i.size) [] (listT cs 0 .nil) 1)) (w.drew.alloc (.cells (L.toArray ++ Builtin.zeroCells Z.cells (grownCap w need old el - need)) el)) ∧
    conc (upd e h.next (w.heap.size, fun o => grownCap w need old el - o / i.size)) (.slice h.next 0 need loose) = some (.slice (some ⟨w.heap.size, 0, none⟩) need (grownCap w need old el)) := by
  have hge := grownCap_ge w need old el
  have hcm := grownCap_le_maxLen w need old el h63
  have hn : e h.next = none := r.dom _ (Nat.le_refl _)
  have hsz : (L.toArray ++ Builtin.zeroCells Z.cells (grownCap w need old el - need)).size = grownCap w need old el * i.size := by
    simp only [Array.size_append, size_zeroCells, hz, List.size_toArray, hl]
    rw [← Nat.add_mul]
    congr 1; omega
  constructor
  · refine Step.new r rfl (o := .cells (L.toArray ++ Builtin.zeroCells Z.cells (grownCap w need old el - need)) el) rfl rfl rfl rfl ?_
    refine fresh_row (cur := L.toArray ++ Builtin.zeroCells Z.cells (grownCap w need old el - need)) (fr := (0, 0)) (L := L) (rest := (Builtin.zeroCells Z.cells (grownCap w need old el - need)).toList) (heap_alloc_new w.drew _) (concL_mono (le_upd hn _) _ hc) (by simp) ?_ no_frozen (fun _ => ⟨i, grownCap w need old el, hi, hpos, hsz, hcm, fun o => rfl⟩)
    rw [hsz]; exact Nat.mul_le_mul_right _ hge
  · simp only [conc, upd_at, if_true]
    simp
end
end Go.Den

/- D13 -/
set_option linter.unusedVariables false
set_option linter.unusedSimpArgs false
set_option linter.unusedSectionVars false
namespace Go.Den
variable [Interp]
section
variable {P : Program} {e : Env} {h h0 h' : H} {w : World} {tm : Tm} {a : Act} {o : Oper} {v : IV}

theorem loadN_length {x : Blk} : ∀ (n o : Nat) {l : List IV}, loadN x o n = some l → l.length = n
  | 0, o, l, hl => by cases hl; rfl
  | n + 1, o, l, hl => by
    have hl' : ob (x.cell o) (fun v => ob (loadN x (o + 1) n) fun l => some (v :: l)) = some l := hl
    obtain ⟨v, h1, h2⟩ := ob_some hl'
    obtain ⟨r, h3, h4⟩ := ob_some h2
    cases h4
    simp [loadN_length n _ h3]
/-! ### Rows of which only the form is known -/
theorem cellAt_of {T : List (List (Int × List UInt8))} {i : Nat} {y : List (Int × List UInt8)} (h : T[i]? = some y) (j : Nat) : cellAt T i j = y[j]?.getD (0, []) := by
  unfold cellAt; rw [h]; rfl
theorem den_cell (ρ : Nat → Dy) (T : SE) (i j : Nat) : (tCell T (.n i) j).den ρ = (cellAt (T.row ρ) i j).1 := by
  show (cellAt (T.row ρ) ((i : Int)).toNat ((j : Int)).toNat).1 = _
  simp
theorem str_cell (ρ : Nat → Dy) (T : SE) (i j : Nat) : (tCell T (.n i) j).str ρ = (cellAt (T.row ρ) i j).2 := by
  show (cellAt (T.row ρ) ((i : Int)).toNat ((j : Int)).toNat).2 = _
  simp
theorem den_cell_at {ρ : Nat → Dy} {T : SE} {i j : Nat} {y : List (Int × List UInt8)} {c : Int × List UInt8} (h : (T.row ρ)[i]? = some y) (hc : y[j]? = some c) : (tCell T (.n i) j).den ρ = c.1 := by
  rw [den_cell, cellAt_of h, hc]; rfl
theorem str_cell_at {ρ : Nat → Dy} {T : SE} {i j : Nat} {y : List (Int × List UInt8)} {c : Int × List UInt8} (h : (T.row ρ)[i]? = some y) (hc : y[j]? = some c) : (tCell T (.n i) j).str ρ = c.2 := by
  rw [str_cell, cellAt_of h, hc]; rfl
theorem row_one {ρ : Nat → Dy} {acc b : SE} {x : List (Int × List UInt8)} (h : acc.row ρ = [x]) : (tRow acc b).row ρ = [x ++ [(b.den ρ, b.str ρ)]] := by
  rw [row_row, h]; rfl
theorem conc_any (e : Env) : conc e (.sptr 0 0 (.n (-1)) 0) = none := by
  simp only [conc]
  cases e 0 with
  | none => rfl
  | some p => exact if_neg (show ¬ (0 : Int) ≤ (SE.n (-1)).den e.ρ by rw [den_n]; decide)
theorem rowT_ok {e : Env} : ∀ (fs : List Form) (n : Nat) (cs : List IV) (acc row : SE) (x : List (Int × List UInt8)), rowT fs n cs acc = some row → acc.row e.ρ = [x] → x.length = n →
    ∃ t, row.row e.ρ = [x ++ t] ∧ fs.length = cs.length ∧ ∀ (T : SE) (i : Nat), (T.row e.ρ)[i]? = some (x ++ t) → ∀ (j : Nat) (f : Form) (v : IV), fs[j]? = some f → cs[j]? = some v → (f.vis = true → conc e (formV T (.n i) f) = conc e v) ∧ (f.vis = false → one v = true)
  | [], n, cs, acc, row, x, h, ha, hx => by
    cases cs with
    | nil => cases h; exact ⟨[], by rw [ha, List.append_nil], rfl, fun T i _ j f v hf => by simp at hf⟩
    | cons c r => cases h
  | f :: fs, n, cs, acc, row, x, h, ha, hx => by
    have oneB : ∀ (b : SE) (r : List IV) (c : IV), cs = c :: r → rowT fs (n + 1) r (tRow acc b) = some row → (∀ (T : SE) (i : Nat) (y : List (Int × List UInt8)), (T.row e.ρ)[i]? = some y → y[n]? = some (b.den e.ρ, b.str e.ρ) → (f.vis = true → conc e (formV T (.n i) f) = conc e c) ∧ (f.vis = false → one c = true)) →
        ∃ t, row.row e.ρ = [x ++ t] ∧ (f :: fs).length = cs.length ∧ ∀ (T : SE) (i : Nat), (T.row e.ρ)[i]? = some (x ++ t) → ∀ (j : Nat) (f' : Form) (v : IV), (f :: fs)[j]? = some f' → cs[j]? = some v → (f'.vis = true → conc e (formV T (.n i) f') = conc e v) ∧ (f'.vis = false → one v = true) := by
      intro b r c hcs hr hc
      subst hcs
      obtain ⟨t, h1, h2, h3⟩ := rowT_ok fs (n + 1) r _ row _ hr (row_one ha) (by simp [hx])
      refine ⟨(b.den e.ρ, b.str e.ρ) :: t, by rw [h1]; simp, by simp [h2], fun T i hT j f' v hf hv => ?_⟩
      cases j with
      | zero =>
        simp at hf hv; subst hf; subst hv
        exact hc T i _ hT (by rw [List.getElem?_append_right (by omega), hx, Nat.sub_self]; rfl)
      | succ j => exact h3 T i (by rw [hT]; simp) j f' v (by simpa using hf) (by simpa using hv)
    have h' : rowStep f (rowT fs) n cs acc = some row := h
    clear h
    unfold rowStep at h'
    split at h'
    · split at h'
      · rename_i c1 c2
        have e1 := Nat.eq_of_beq_eq_true c1
        have e2 := kindN_inj c2
        subst e1; subst e2
        refine oneB _ _ _ rfl h' (fun T i y hT hy => ?_)
        exact ⟨fun _ => by simp only [formV, conc, den_cell_at hT hy, den_n], fun h => by cases h⟩
      · cases h'
    · split at h'
      · rename_i c1 c2
        have e1 := Nat.eq_of_beq_eq_true c1
        have e2 := kindN_inj c2
        subst e1; subst e2
        refine oneB _ _ _ rfl h' (fun T i y hT hy => ?_)
        exact ⟨fun _ => by simp only [formV, conc, den_cell_at hT hy], fun h => by cases h⟩
      · cases h'
    · split at h'
      · rename_i c1
        have e1 := Nat.eq_of_beq_eq_true c1
        subst e1
        refine oneB _ _ _ rfl h' (fun T i y hT hy => ?_)
        exact ⟨fun _ => by simp only [formV, conc, str_cell_at hT hy, str_lit], fun h => by cases h⟩
      · cases h'
    · split at h'
      · rename_i c1
        have e1 := Nat.eq_of_beq_eq_true c1
        subst e1
        refine oneB _ _ _ rfl h' (fun T i y hT hy => ?_)
        exact ⟨fun _ => by simp only [formV, conc, str_cell_at hT hy], fun h => by cases h⟩
      · cases h'
    · rename_i b sz jo jl b' sz' o l c r
      split at h'
      · rename_i c1 c2 c3 c4 c5
        have e1 := Nat.eq_of_beq_eq_true c1
        have e2 := Nat.eq_of_beq_eq_true c2
        have e3 := Nat.eq_of_beq_eq_true c3
        have e4 := Nat.eq_of_beq_eq_true c4
        have e5 := eqSE_eq _ _ c5
        subst e1; subst e2; subst e3; subst e4; subst e5
        obtain ⟨t, h1, h2, h3⟩ := rowT_ok fs (jo + 2) r _ row _ h' (row_one (row_one ha)) (by simp [hx])
        refine ⟨(o.den e.ρ, o.str e.ρ) :: (l.den e.ρ, l.str e.ρ) :: t, by rw [h1]; simp, by simp [h2], fun T i hT j f' v hf hv => ?_⟩
        cases j with
        | zero =>
          simp at hf hv; subst hf; subst hv
          have y0 : (x ++ (o.den e.ρ, o.str e.ρ) :: (l.den e.ρ, l.str e.ρ) :: t)[jo]? = some (o.den e.ρ, o.str e.ρ) := by
            rw [List.getElem?_append_right (by omega), hx, Nat.sub_self]; rfl
          have y1 : (x ++ (o.den e.ρ, o.str e.ρ) :: (l.den e.ρ, l.str e.ρ) :: t)[jo + 1]? = some (l.den e.ρ, l.str e.ρ) := by
            rw [List.getElem?_append_right (by omega), hx, show jo + 1 - jo = 1 by omega]; rfl
          exact ⟨fun _ => by simp only [formV, conc, den_cell_at hT y0, den_cell_at hT y1], fun h => by cases h⟩
        | succ j => exact h3 T i (by rw [hT]; simp) j f' v (by simpa using hf) (by simpa using hv)
      · cases h'
    · split at h'
      · rename_i c1
        exact oneB _ _ _ rfl h' (fun T i y hT hy => ⟨fun h => absurd h (show ¬ (Form.any.vis = true) by decide), fun _ => c1⟩)
      · cases h'
    · cases h'
theorem form_same {e : Env} {r r' : SE} {i : Nat} (f : Form) (h : ∀ j, cellAt (r.row e.ρ) i j = cellAt (r'.row e.ρ) i j) : conc e (formV r (.n i) f) = conc e (formV r' (.n i) f) := by
  cases f with
  | int k j => simp only [formV, conc, den_cell, h]
  | str j => simp only [formV, conc, str_cell, h]
  | slc b sz jo jl => simp only [formV, conc, den_cell, h]
  | any => rfl
theorem appendS_ok (r : Rel P e h w) {t t2 ty el : TypeId} {i : TypeInfo} {Z X S : Value} {b sz n : Nat} {o l c : SE} {new : List IV} {news : List Value} (hu : P.underlying t = some (.slice el)) (hi : P.info? el = some i) (hZ : i.zero = some Z) (hZs : Z.cells.size = i.size)
    (hn1 : concL e new = some news) (hn2 : news.length = n * i.size) (hy : Yield P i Z t2 X n news w) (hy2 : Yield P i Z t2 X n news w.drew) (hs : conc e (.sslice b sz o l c) = some S) (hd : appendS h el i b sz o l c n new = some (v, h')) :
    ∃ V w' e', (Builtin.append_ #[t, t2] ty #[S, X]).run P w = .ok V w' ∧ Step P e h w e' h' w' ∧ conc e' v = some V := by
  unfold appendS at hd
  split at hd
  · rename_i c1 c2 c3 c4
    have en : n = 1 := Nat.eq_of_beq_eq_true c1
    have eo : o.den e.ρ = 0 := isZ_ok c2
    have ec : c = .n 9223372036854775808 := eqSE_eq _ _ c3
    have esz : sz = i.size := Nat.eq_of_beq_eq_true c4
    subst en; subst ec
    obtain ⟨blk, hb, h5⟩ := ob_some hd
    split at h5
    · rename_i e' sz' fs rr md
      split at h5
      · rename_i d1 d2 d3 d4
        have hmd : md = 1 := Nat.eq_of_beq_eq_true d1
        have hel : e' = el := Nat.eq_of_beq_eq_true d2
        have hszz : sz' = sz := Nat.eq_of_beq_eq_true d3
        have hl : l = tRows rr := eqSE_eq _ _ d4
        subst hmd; subst hel; subst hszz; subst hl
        split at h5
        · rename_i b1 b2
          have hby := Nat.ble_eq.mp b1
          have hlt := less_ok r.asm b2
          rw [den_n, den_rows] at hlt
          obtain ⟨row, h6, h7⟩ := ob_some h5
          cases h7
          obtain ⟨p, hp, _, rfl⟩ := conc_sslice hs
          obtain ⟨cur, t', fr, k0, kt, kf, kpos, k1, k2, k3, k4⟩ := r.at hb hp
          simp only [shO_1, Nat.add_zero] at k1 k3
          obtain ⟨i', C, hi', hsi, hsz, hmax, hp2⟩ := k4 rfl
          rw [hi] at hi'; cases hi'
          obtain ⟨R, hR⟩ : ∃ R, R = (rr.row e.ρ).length := ⟨_, rfl⟩
          rw [← hR] at hlt k1 k3
          obtain ⟨y, g1, g2, g3⟩ := rowT_ok (e := e) fs 0 new tRow0 row [] h6 (row_row0 _) rfl
          rw [List.nil_append] at g1 g3
          have hnew : new.length = i.size := by rw [← concL_length hn1, hn2]; omega
          have hcat : (tCatR rr row).row e.ρ = rr.row e.ρ ++ [y] := by rw [row_catR, g1]
          have hcl : ((tCatR rr row).row e.ρ).length = R + 1 := by rw [hcat, hR]; simp
          have hden : (tRows rr).den e.ρ = (R : Int) := by rw [den_rows, hR]
          have hden2 : (tRows (tCatR rr row)).den e.ρ = ((R + 1 : Nat) : Int) := by rw [den_rows, hcl]
          have hoff : (o.den e.ρ).toNat * sz' = 0 := by rw [eo]; simp
          have hcap : (if (SE.n 9223372036854775808).den e.ρ = 9223372036854775808 then p.2 ((o.den e.ρ).toNat * sz') else ((SE.n 9223372036854775808).den e.ρ).toNat) = C := by
            rw [den_n, if_pos rfl, hoff, hp2]; simp
          have hRC : R ≤ C := by rw [hsz] at k1; exact Nat.le_of_mul_le_mul_right k1 kpos
          rw [hcap, hoff, hden]
          simp only [Int.toNat_natCast]
          have f1 : (R + 1) * i.bytes ≤ 140737488355328 := by
            have : (R + 1) * i.bytes ≤ 1000000 * 1000 := Nat.mul_le_mul (by omega) hby
            omega
          have f2 : R + 1 ≤ maxLen := by simp only [maxLen]; omega
          have hnn : e h.next = none := r.dom _ (Nat.le_refl _)
          have hrw : (Blk.rows e' sz' fs rr 1).rw = true := rfl
          have hnl : news.length = i.size := by rw [hn2]; omega
          -- the new block's cells
          have cells : ∀ (e1 : Env) (cur' : Array Value), e.le e1 → (∀ j, j < (R + 1) * sz' → cur'[j]? = if R * sz' ≤ j then news[j - R * sz']? else cur[j]?) →
              ∀ (i j : Nat) (f : Form), i < ((tCatR rr row).row e1.ρ).length → fs[j]? = some f → f.vis = true → ∃ V, conc e1 (formV (tCatR rr row) (.n i) f) = some V ∧ cur'[i * sz' + j]? = some V := by
            intro e1 cur' hle hcur x j f hx hf hvis
            rw [hle.ρ, hcl] at hx
            have hj : j < sz' := by rw [← kf]; exact (List.getElem?_eq_some_iff.1 hf).1
            by_cases hxR : x < R
            · obtain ⟨V, q1, q2⟩ := k3 x j f hxR hf hvis
              refine ⟨V, ?_, ?_⟩
              · refine conc_mono hle _ ?_
                rw [form_same (r' := rr) f (fun j => ?_)]
                · exact q1
                · unfold cellAt
                  rw [hcat, List.getElem?_append_left (by rw [← hR]; exact hxR)]
              · have hlt : x * sz' + j < R * sz' := by
                  have : (x + 1) * sz' ≤ R * sz' := Nat.mul_le_mul_right _ hxR
                  rw [Nat.add_mul] at this; omega
                rw [hcur _ (by rw [Nat.add_mul]; omega), if_neg (by omega)]
                exact q2
            · have hxe : x = R := by omega
              subst hxe
              obtain ⟨v, hv⟩ : ∃ v, new[j]? = some v := ⟨new[j]'(by omega), List.getElem?_eq_getElem (by omega)⟩
              obtain ⟨V, q1, q2⟩ := concL_get hn1 j v hv
              refine ⟨V, ?_, ?_⟩
              · refine conc_mono hle _ ?_
                rw [(g3 (tCatR rr row) x (by rw [hcat, hR, List.getElem?_append_right (Nat.le_refl _), Nat.sub_self]; rfl) j f v hf hv).1 hvis]
                exact q1
              · rw [hcur _ (by rw [Nat.add_mul]; omega), if_pos (by omega), show x * sz' + j - x * sz' = j by omega]
                exact q2
          have hval : ∀ (q : Nat × (Nat → Nat)) (G : Nat), (∀ o, q.2 o = G - o / sz') → conc (upd e h.next q) (.sslice h.next sz' (.n 0) (tRows (tCatR rr row)) (.n 9223372036854775808)) = some (.slice (some ⟨q.1, 0, none⟩) (R + 1) G) := by
            intro q G hq
            have hd3 : (tRows (tCatR rr row)).den (upd e h.next q).ρ = ((R + 1 : Nat) : Int) := hden2
            rw [conc_sslice_mk (upd_at _ _) (by rw [hd3, den_n, den_n]; omega), hd3, den_n, den_n, if_pos rfl, hq]
            simp
          by_cases hroom : R + 1 ≤ C
          · have hr := append_room (ty := ty) hu hi hZ hy (base := some ⟨p.1, 0, none⟩) (sLen := R) (sCap := C) hroom
            have hle : (R + 1) * sz' ≤ cur.size := by rw [hsz]; exact Nat.mul_le_mul_right _ hroom
            have hfrz : ∀ o, o < cur.size → ¬ (fr.1 ≤ o ∧ o < fr.2) := k2 (by decide)
            have hmul : (R + 1) * sz' = R * sz' + sz' := by rw [Nat.add_mul]; omega
            have hcell1 : ∀ j, j < news.length → (w.cell? ⟨p.1, R * sz' + 0 + j, none⟩).isSome = true := fun j hj => by
              simp [World.cell?, k0]; omega
            have hfro : ∀ j, j < news.length → w.frozen? ⟨p.1, R * sz' + 0 + j, none⟩ = false := fun j hj => by
              have := hfrz (R * sz' + 0 + j) (by omega)
              simp only [World.frozen?, k0]
              simp only [Bool.and_eq_false_iff, decide_eq_false_iff_not]
              by_cases hh : fr.1 ≤ R * sz' + 0 + j
              · right; intro hc; exact this ⟨hh, hc⟩
              · left; exact hh
            have hones : ∀ V ∈ news, V.oneCell' = true := by
              intro V hV
              obtain ⟨x, hx, rfl⟩ := List.mem_iff_getElem.1 hV
              have hxf : x < fs.length := by omega
              obtain ⟨V2, q1, q2⟩ := concL_get hn1 x (new[x]'(by omega)) (List.getElem?_eq_getElem (by omega))
              rw [List.getElem?_eq_getElem hx] at q2; cases q2
              have hone : one (new[x]'(by omega)) = true := by
                have q3 := g3 (tCatR rr row) R (by rw [hcat, hR, List.getElem?_append_right (Nat.le_refl _), Nat.sub_self]; rfl) x (fs[x]'hxf) _ (List.getElem?_eq_getElem hxf) (List.getElem?_eq_getElem (by omega))
                cases hvis : (fs[x]'hxf).vis with
                | false => exact q3.2 hvis
                | true =>
                  have q3 := q3.1 hvis
                  rw [q1] at q3
                  generalize hnv : new[x]'(by omega) = nv at q3 q1 ⊢
                  cases nv with
                  | agg l =>
                    obtain ⟨L, _, he⟩ := conc_agg q1
                    rw [he] at q3
                    cases hfx : fs[x]'hxf with
                    | int k j => rw [hfx] at q3; simp [formV, conc] at q3
                    | str j => rw [hfx] at q3; simp [formV, conc] at q3
                    | slc b s x y => rw [hfx] at q3; obtain ⟨_, _, _, hh⟩ := conc_sslice q3; cases hh
                    | any => rw [hfx] at hvis; cases hvis
                  | tuple l =>
                    obtain ⟨L, _, he⟩ := conc_tuple q1
                    rw [he] at q3
                    cases hfx : fs[x]'hxf with
                    | int k j => rw [hfx] at q3; simp [formV, conc] at q3
                    | str j => rw [hfx] at q3; simp [formV, conc] at q3
                    | slc b s x y => rw [hfx] at q3; obtain ⟨_, _, _, hh⟩ := conc_sslice q3; cases hh
                    | any => rw [hfx] at hvis; cases hvis
                  | _ => rfl
              exact one_ok q1 hone
            have hst := run_storeCells_cells (P := P) p.1 (R * sz') news 0 w hcell1 hfro hones
            simp only [Nat.add_zero] at hst
            simp only [add_at, Nat.zero_add, ← esz] at hr
            rw [hst] at hr
            simp only [Result.andThen_ok] at hr
            obtain ⟨q1, q2, q3, q4, q5⟩ := setCells_frame p.1 news (R * sz') w
            obtain ⟨cur', d1, d2, d3⟩ := setCells_heap p.1 news (R * sz') w k0
            refine ⟨_, _, upd e h.next p, hr, ?_, hval p C hp2⟩
            refine Step.moved r hb hrw rfl hp (q := p) (.inl rfl) (fun k _ hk => q1 k hk) (by omega) q3 q4 q5 ?_
            refine ⟨cur', t', fr, d1, kt, kf, kpos, ?_, fun _ o ho => hfrz o (by omega), ?_, fun _ => ⟨i, C, hi, hsi, by rw [d2]; exact hsz, hmax, hp2⟩⟩
            · rw [shO_1, Nat.add_zero]
              show ((tCatR rr row).row e.ρ).length * sz' ≤ _
              rw [hcl, d2]; exact hle
            · simp only [shO_1, Nat.add_zero]
              refine cells _ cur' (le_upd hnn p) (fun j hj => ?_)
              rw [d3 j]
              by_cases hh : R * sz' ≤ j
              · rw [if_pos (by omega), if_pos hh]
              · rw [if_neg (by omega), if_neg hh]
          · have hold : (Builtin.firstCells i.size R (.slice (some ⟨p.1, 0, none⟩) R C)).run P w.drew = .ok (cur.toList.take (R * sz')).toArray w.drew := by
              refine run_firstCells_some w.drew i.size R ⟨p.1, 0, none⟩ R C (cur.toList.take (R * sz')) (by simp; rw [← esz]; omega) (fun j u hj => ?_)
              rw [add_at]
              rw [List.getElem?_take] at hj
              split at hj
              · have hcw : w.drew.cell? ⟨p.1, 0 + j, none⟩ = w.cell? ⟨p.1, 0 + j, none⟩ := rfl
                rw [hcw, World.cell?]
                simp only [k0]
                simpa using hj
              · cases hj
            have hr := append_grow (ty := ty) hu hi hZ hy2 (base := some ⟨p.1, 0, none⟩) (sLen := R) (sCap := C) (by omega) f2 f1 hold
            have hge := grownCap_ge w (R + 1) C e'
            have hcm := grownCap_le_maxLen w (R + 1) C e' f2
            obtain ⟨G, hG⟩ : ∃ G, G = grownCap w (R + 1) C e' := ⟨_, rfl⟩
            rw [← hG] at hr hge hcm
            obtain ⟨nc, hnc⟩ : ∃ nc : Array Value, nc = (cur.toList.take (R * sz') ++ news).toArray ++ Builtin.zeroCells Z.cells (G - (R + 1)) := ⟨_, rfl⟩
            rw [← hnc] at hr
            have hncs : nc.size = G * sz' := by
              rw [hnc]
              simp only [Array.size_append, size_zeroCells, hZs, List.size_toArray, List.length_append, List.length_take, Array.length_toList, hnl]
              rw [Nat.min_eq_left k1, ← esz]
              obtain ⟨d, hd⟩ : ∃ d, G = R + 1 + d := ⟨G - (R + 1), (Nat.add_sub_cancel' hge).symm⟩
              rw [hd, Nat.add_sub_cancel_left, Nat.add_mul (R + 1) d, Nat.add_mul R 1, Nat.one_mul]
            have hmul : (R + 1) * sz' = R * sz' + sz' := by rw [Nat.add_mul]; omega
            have hncg : ∀ j, j < (R + 1) * sz' → nc[j]? = if R * sz' ≤ j then news[j - R * sz']? else cur[j]? := by
              intro j hj
              rw [hnc, Array.getElem?_append_left (by simp; omega)]
              simp only [List.getElem?_toArray]
              by_cases hjm : j < R * sz'
              · rw [if_neg (by omega), List.getElem?_append_left (by simp; omega), List.getElem?_take, if_pos hjm]
                simp
              · rw [if_pos (by omega), List.getElem?_append_right (by simp; omega)]
                simp only [List.length_take, Array.length_toList, Nat.min_eq_left k1]
            refine ⟨_, _, upd e h.next (w.heap.size, fun o => G - o / sz'), hr, ?_, hval (w.heap.size, fun o => G - o / sz') G (fun o => rfl)⟩
            refine Step.moved r hb hrw rfl hp (q := (w.heap.size, fun o => G - o / sz')) (.inr (Nat.le_refl _)) (fun k hk _ => ?_) (by simp) rfl rfl rfl ?_
            · exact heap_alloc_old w.drew _ hk
            · refine ⟨nc, e', (0, 0), heap_alloc_new w.drew _, fun _ => rfl, kf, kpos, ?_, fun _ => no_frozen, (by simp only [shO_1, Nat.add_zero]; exact cells _ nc (le_upd hnn _) hncg), fun _ => ⟨i, G, hi, hsi, hncs, hcm, fun o => rfl⟩⟩
              have hq : ((tCatR rr row).row (upd e h.next (w.heap.size, fun o => G - o / sz')).ρ).length * sz' ≤ nc.size := by
                show ((tCatR rr row).row e.ρ).length * sz' ≤ _
                rw [hcl, hncs]; exact Nat.mul_le_mul_right _ hge
              rw [shO_1, Nat.add_zero]; exact hq
        · cases h5
      · cases h5
    · cases h5
  · cases hd
theorem emptyS_ok {s : IV} {S : Value} (h : emptyS s = true) (hs : conc e s = some S) : ∃ base, S = .slice base 0 0 := by
  cases s with
  | nilSlice => simp only [conc] at hs; cases hs; exact ⟨none, rfl⟩
  | slice b o l c =>
    simp only [emptyS, Bool.and_eq_true] at h
    have h1 := Nat.eq_of_beq_eq_true h.1
    have h2 := Nat.eq_of_beq_eq_true h.2
    subst h1; subst h2
    obtain ⟨p, hp, rfl⟩ := conc_slice hs
    exact ⟨_, by rw [if_neg (by unfold loose; omega)]⟩
  | _ => cases h
theorem appendX_ok (r : Rel P e h w) {t t2 ty : TypeId} {s x : IV} {S X : Value} (hs : conc e s = some S) (hx : conc e x = some X) (hd : appendX P h t t2 s x = some (v, h')) :
    ∃ V w' e', (Builtin.append_ #[t, t2] ty #[S, X]).run P w = .ok V w' ∧ Step P e h w e' h' w' ∧ conc e' v = some V := by
  obtain ⟨u, hu, h1⟩ := ob_some hd
  split at h1
  · rename_i el
    obtain ⟨i, hi, h2⟩ := ob_some h1
    obtain ⟨zz, hzz, h2'⟩ := ob_some h2
    have hz : ∃ Z, i.zero = some Z ∧ Z.cells.size = zz.cells.length := by
      obtain ⟨i', Z, hi', hZ', hz'⟩ := zero_ok hzz
      rw [hi] at hi'; cases hi'
      have hcz := conc_cells (ofValue_ok (e := e) hz')
      exact ⟨Z, hZ', by rw [← Array.length_toList, concL_length hcz]⟩
    obtain ⟨Z, hZ, hZs'⟩ := hz
    split at h2'
    · cases h2'
    rename_i hbz
    have hZs : Z.cells.size = i.size := hZs'.trans (Nat.eq_of_beq_eq_true hbz)
    obtain ⟨u2, hu2, h3⟩ := ob_some h2'
    split at h3
    · rename_i el2 b sz o l c
      unfold appendC at h3
      split at h3
      · rename_i c1 c2 c3
        have eo : o.den e.ρ = 0 := isZ_ok c2
        have esz : sz = i.size := Nat.eq_of_beq_eq_true c3
        obtain ⟨blk, hb, h5⟩ := ob_some h3
        split at h5
        · rename_i e' sz' fs rr md
          split at h5
          · rename_i d1 d2 d3 d4
            have hmd : md = 1 := Nat.eq_of_beq_eq_true d1
            have hel : e' = el := Nat.eq_of_beq_eq_true d2
            have hszz : sz' = sz := Nat.eq_of_beq_eq_true d3
            have hl : l = tRows rr := eqSE_eq _ _ d4
            subst hmd; subst hel; subst hszz; subst hl
            split at h5
            · rename_i b1 b2 b3
              cases h5
              have hby := Nat.ble_eq.mp b1
              have hlt := less_ok r.asm b2
              have hgt := less_ok r.asm b3
              rw [den_n, den_rows] at hlt hgt
              obtain ⟨p, hp, _, rfl⟩ := conc_sslice hx
              obtain ⟨base, rfl⟩ := emptyS_ok c1 hs
              obtain ⟨cur, t', fr, k0, kt, kf, kpos, k1, k2, k3, k4⟩ := r.at hb hp
              simp only [shO_1, Nat.add_zero] at k1 k3
              obtain ⟨i', C, hi', hsi, hsz, hmax, hp2⟩ := k4 rfl
              rw [hi] at hi'; cases hi'
              obtain ⟨R, hR⟩ : ∃ R, R = (rr.row e.ρ).length := ⟨_, rfl⟩
              rw [← hR] at hlt hgt k1 k3
              have hden : (tRows rr).den e.ρ = (R : Int) := by rw [den_rows, hR]
              have hoff : (o.den e.ρ).toNat * sz' = 0 := by rw [eo]; simp
              generalize hK : (if c.den e.ρ = 9223372036854775808 then p.2 ((o.den e.ρ).toNat * sz') else (c.den e.ρ).toNat : Nat) = K
              rw [hoff, hden, Int.toNat_natCast]
              have hcells : ∀ w1 : World, w1.heap = w.heap → (Builtin.firstCells i.size R (.slice (some ⟨p.1, 0, none⟩) R K)).run P w1 = .ok (cur.toList.take (R * sz')).toArray w1 := fun w1 hw1 => by
                refine run_firstCells_some w1 i.size R ⟨p.1, 0, none⟩ R K (cur.toList.take (R * sz')) (by simp; rw [← esz]; omega) (fun j u hj => ?_)
                rw [add_at]
                rw [List.getElem?_take] at hj
                split at hj
                · simp only [World.cell?, hw1, k0]
                  simpa using hj
                · cases hj
              have hy2 : Yield P i Z t2 (.slice (some ⟨p.1, 0, none⟩) R K) R (cur.toList.take (R * sz')) w.drew := .inl ⟨.inl ⟨_, hu2⟩, fun _ => rfl, hcells w.drew rfl⟩
              have f1 : (0 + R) * i.bytes ≤ 140737488355328 := by
                have : (0 + R) * i.bytes ≤ 1000000 * 1000 := Nat.mul_le_mul (by omega) hby
                omega
              have f2 : 0 + R ≤ maxLen := by simp only [maxLen]; omega
              have hold : (Builtin.firstCells i.size 0 (.slice base 0 0)).run P w.drew = .ok ([] : List Value).toArray w.drew := by
                cases base with
                | none => simp [Builtin.firstCells]
                | some a => exact run_firstCells_some w.drew i.size 0 a 0 0 [] (by simp) (fun j u hj => by simp at hj)
              have hr := append_grow (ty := ty) hu hi hZ hy2 (base := base) (sLen := 0) (sCap := 0) (olds := []) (by omega) f2 f1 hold
              rw [Nat.zero_add] at hr
              have hge := grownCap_ge w R 0 e'
              have hcm := grownCap_le_maxLen w R 0 e' (by simp only [maxLen]; omega)
              obtain ⟨G, hG⟩ : ∃ G, G = grownCap w R 0 e' := ⟨_, rfl⟩
              rw [← hG] at hr hge hcm
              rw [List.nil_append] at hr
              obtain ⟨nc, hnc⟩ : ∃ nc : Array Value, nc = (cur.toList.take (R * sz')).toArray ++ Builtin.zeroCells Z.cells (G - R) := ⟨_, rfl⟩
              rw [← hnc] at hr
              have hncs : nc.size = G * sz' := by
                rw [hnc]
                simp only [Array.size_append, size_zeroCells, hZs, List.size_toArray, List.length_take, Array.length_toList]
                rw [Nat.min_eq_left k1, ← esz]
                obtain ⟨d, hd⟩ : ∃ d, G = R + d := ⟨G - R, (Nat.add_sub_cancel' hge).symm⟩
                rw [hd, Nat.add_sub_cancel_left, Nat.add_mul R d]
              have hncg : ∀ j, j < R * sz' → nc[j]? = cur[j]? := by
                intro j hj
                rw [hnc, Array.getElem?_append_left (by simp; omega)]
                simp only [List.getElem?_toArray]
                rw [List.getElem?_take, if_pos hj]
                simp
              have hnn : e h.next = none := r.dom _ (Nat.le_refl _)
              refine ⟨_, _, upd e h.next (w.heap.size, fun o => G - o / sz'), hr, Step.new r rfl rfl rfl rfl rfl ?_, ?_⟩
              · refine ⟨nc, e', (0, 0), heap_alloc_new w.drew _, fun _ => rfl, kf, kpos, ?_, fun _ => no_frozen, ?_, fun _ => ⟨i, G, hi, hsi, hncs, hcm, fun o => rfl⟩⟩
                · rw [shO_1, Nat.add_zero]
                  show (rr.row e.ρ).length * sz' ≤ _
                  rw [← hR, hncs]; exact Nat.mul_le_mul_right _ hge
                · simp only [shO_1, Nat.add_zero]
                  intro x j f hx hf hv
                  have hx' : x < R := by rw [hR]; exact hx
                  obtain ⟨V, q1, q2⟩ := k3 x j f hx' hf hv
                  have hj : j < sz' := by rw [← kf]; exact (List.getElem?_eq_some_iff.1 hf).1
                  have hlt : x * sz' + j < R * sz' := by
                    have : (x + 1) * sz' ≤ R * sz' := Nat.mul_le_mul_right _ hx'
                    rw [Nat.add_mul] at this; omega
                  exact ⟨V, conc_mono (le_upd hnn _) _ q1, by rw [hncg _ hlt]; exact q2⟩
              · have hd3 : (tRows rr).den (upd e h.next (w.heap.size, fun o => G - o / sz')).ρ = (R : Int) := hden
                rw [conc_sslice_mk (upd_at _ _) (by rw [hd3, den_n, den_n]; omega), hd3, den_n, den_n, if_pos rfl]
                simp
            · cases h5
          · cases h5
        · cases h5
      · cases h3
    · cases h3
  · cases h1
theorem appendD_ok (r : Rel P e h w) {t t2 ty : TypeId} {s x : IV} {S X : Value} (hs : conc e s = some S) (hx : conc e x = some X) (hd : appendD P h t t2 s x = some (v, h')) :
    ∃ V w' e', (Builtin.append_ #[t, t2] ty #[S, X]).run P w = .ok V w' ∧ Step P e h w e' h' w' ∧ conc e' v = some V := by
  unfold appendD at hd
  cases hss : isSS x with
  | true => rw [hss] at hd; exact appendX_ok r hs hx hd
  | false =>
  rw [hss] at hd
  obtain ⟨u, hu, h1⟩ := ob_some hd
  split at h1
  · rename_i el
    obtain ⟨i, hi, h2⟩ := ob_some h1
    obtain ⟨zz, hzz, h2'⟩ := ob_some h2
    obtain ⟨⟨n, new⟩, h3, h4'⟩ := ob_some h2'
    simp only at h4'
    have hz : ∃ Z, i.zero = some Z ∧ Z.cells.size = zz.cells.length := by
      obtain ⟨i', Z, hi', hZ', hz'⟩ := zero_ok hzz
      rw [hi] at hi'; cases hi'
      have hcz := conc_cells (ofValue_ok (e := e) hz')
      exact ⟨Z, hZ', by rw [← Array.length_toList, concL_length hcz]⟩
    obtain ⟨Z, hZ, hZs'⟩ := hz
    split at h4'
    · cases h4'
    rename_i hbz
    have hZs : Z.cells.size = i.size := hZs'.trans (Nat.eq_of_beq_eq_true hbz)
    have h4 := h4'
    clear h4'
    obtain ⟨news, hn1, hn2, hy, hy2⟩ := appendedD_ok r hi hZ hx h3
    have hnl := concL_length hn1
    split at h4
    · exact appendS_ok r hu hi hZ hZs hn1 hn2 hy hy2 hs h4
    · -- nil
      simp only [conc] at hs; cases hs
      split at h4
      · cases h4
        have hr := append_room (ty := ty) hu hi hZ hy (base := none) (sLen := 0) (sCap := 0) (by omega)
        exact ⟨_, w, e, hr, Step.refl r, rfl⟩
      · rename_i hn0
        split at h4
        · rename_i c1 c2
          cases h4
          obtain ⟨f1, f2⟩ := fits_ok c1
          have hpos := Nat.blt_eq.mp c2
          have hn0' : n ≠ 0 := fun he => hn0 he
          have hr := append_grow (ty := ty) (olds := []) hu hi hZ hy2 (base := none) (sLen := 0) (sCap := 0) (by omega) (by omega) (by rw [Nat.zero_add]; exact f1) (by simp [Builtin.firstCells])
          obtain ⟨g1, g2⟩ := grown r hi hZs hpos (need := n) (old := 0) hn1 hn2 f2
          simp only [Nat.zero_add, List.nil_append] at hr
          exact ⟨_, _, _, hr, g1, g2⟩
        · cases h4
    · rename_i b off len cap
      obtain ⟨p, hp, rfl⟩ := conc_slice hs
      split at h4
      · rename_i hcap
        have hcap' : cap = loose := Nat.eq_of_beq_eq_true hcap
        obtain ⟨blk, hb, h5⟩ := ob_some h4
        have kb := r.at hb hp
        split at h5
        · rename_i e' m z tr md
          split at h5
          · rename_i c1 c2 c3 c4
            have hmd : md = 1 := Nat.eq_of_beq_eq_true c1
            have hoff : off = 0 := Nat.eq_of_beq_eq_true c2
            have hm : len * i.size = m := Nat.eq_of_beq_eq_true c3
            have hel : e' = el := Nat.eq_of_beq_eq_true c4
            subst hmd; subst hoff; subst hel
            split at h5
            · rename_i c5 c6
              obtain ⟨tr', h6, h7⟩ := ob_some h5
              cases h7
              obtain ⟨f1, f2⟩ := fits_ok c5
              have hpos := Nat.blt_eq.mp c6
              obtain ⟨cur, t', fr, k0, kt, k1, k2, k3, k4⟩ := kb
              obtain ⟨i', C, hi', hpos', hsz, hmax, hp2⟩ := k4 rfl
              rw [hi] at hi'; cases hi'
              have hcc : (if cap = loose then p.2 0 else cap) = C := by rw [if_pos hcap', hp2]; simp
              rw [hcc]
              obtain ⟨q1, q2, q3⟩ := storeT_ok new h6
              have hnn : e h.next = none := r.dom _ (Nat.le_refl _)
              have hrw : (Blk.cells e' m z tr 1).rw = true := rfl
              have hcell : ∀ o, o < m + n * i.size → (m ≤ o ∧ o < m + new.length) ∨ o < m := fun o ho => by
                by_cases hh : o < m
                · exact .inr hh
                · exact .inl ⟨by omega, by omega⟩
              by_cases hroom : len + n ≤ C
              · have hr := append_room (ty := ty) hu hi hZ hy (base := some ⟨p.1, 0, none⟩) (sLen := len) (sCap := C) hroom
                have hle : m + n * i.size ≤ cur.size := by
                  rw [hsz, ← hm, ← Nat.add_mul]; exact Nat.mul_le_mul_right _ hroom
                have hcell1 : ∀ j, j < news.length → (w.cell? ⟨p.1, m + 0 + j, none⟩).isSome = true := fun j hj => by
                  simp [World.cell?, k0]; omega
                have hfro : ∀ j, j < news.length → w.frozen? ⟨p.1, m + 0 + j, none⟩ = false := fun j hj => by
                  have := k2 (by decide) (m + 0 + j) (by omega)
                  simp only [World.frozen?, k0]
                  simp only [Bool.and_eq_false_iff, decide_eq_false_iff_not]
                  by_cases hh : fr.1 ≤ m + 0 + j
                  · right; intro hc; exact this ⟨hh, hc⟩
                  · left; exact hh
                have hst := run_storeCells_cells (P := P) p.1 m news 0 w hcell1 hfro (ones_ok hn1 q1)
                simp only [Nat.add_zero] at hst
                simp only [add_at, Nat.zero_add, hm] at hr
                have hst' : (storeCells (⟨p.1, m, none⟩ : Addr) news 0).run P w = .ok () (w.setCells p.1 m news) := hst
                rw [hst'] at hr
                simp only [Result.andThen_ok] at hr
                obtain ⟨g1, g2, g3, g4, g5⟩ := setCells_frame p.1 news m w
                obtain ⟨cur', d1, d2, d3⟩ := setCells_heap p.1 news m w k0
                refine ⟨_, _, upd e h.next p, hr, ?_, ?_⟩
                · refine Step.moved r hb hrw rfl hp (q := p) (.inl rfl) (fun k _ hk => g1 k hk) (by omega) g3 g4 g5 ?_
                  refine ⟨cur', t', fr, d1, kt, by omega, fun _ o ho => k2 (by decide) o (by omega), fun o v hv => ?_, fun _ => ⟨i, C, hi, hpos', by rw [d2]; exact hsz, hmax, hp2⟩⟩
                  have hcur : ∀ j, j < m + n * i.size → cur'[j]? = if m ≤ j ∧ j < m + news.length then news[j - m]? else cur[j]? := by
                    intro j hj
                    rw [d3 j]
                    by_cases hh : m ≤ j ∧ j < m + news.length
                    · rw [if_pos (by omega), if_pos hh]
                    · rw [if_neg (by omega), if_neg hh]
                  exact written (concL_mono (le_upd hnn p) _ hn1) (fun o v hv => by obtain ⟨V, a1, a2⟩ := k3 o v hv; exact ⟨V, conc_mono (le_upd hnn p) _ a1, a2⟩) hcell q3 hcur hv
                · simp only [conc, upd_at, if_true, hp2]
                  simp
              · have hlen : len ≤ C := by
                  have : len * i.size ≤ C * i.size := by omega
                  exact Nat.le_of_mul_le_mul_right this hpos
                have hold : (Builtin.firstCells i.size len (.slice (some ⟨p.1, 0, none⟩) len C)).run P w.drew = .ok (cur.toList.take m).toArray w.drew := by
                  refine run_firstCells_some w.drew i.size len ⟨p.1, 0, none⟩ len C (cur.toList.take m) (by simp; omega) (fun j u hj => ?_)
                  rw [add_at]
                  rw [List.getElem?_take] at hj
                  split at hj
                  · have hcw : w.drew.cell? ⟨p.1, 0 + j, none⟩ = w.cell? ⟨p.1, 0 + j, none⟩ := rfl
                    rw [hcw, World.cell?]
                    simp only [k0]
                    simpa using hj
                  · cases hj
                have hr := append_grow (ty := ty) hu hi hZ hy2 (base := some ⟨p.1, 0, none⟩) (sLen := len) (sCap := C) (by omega) f2 f1 hold
                have hge := grownCap_ge w (len + n) C e'
                have hcm := grownCap_le_maxLen w (len + n) C e' f2
                obtain ⟨G, hG⟩ : ∃ G, G = grownCap w (len + n) C e' := ⟨_, rfl⟩
                rw [← hG] at hr hge hcm
                have hq : e.le (upd e h.next (w.heap.size, fun o => G - o / i.size)) := le_upd hnn _
                obtain ⟨nc, hnc⟩ : ∃ nc : Array Value, nc = (cur.toList.take m ++ news).toArray ++ Builtin.zeroCells Z.cells (G - (len + n)) := ⟨_, rfl⟩
                rw [← hnc] at hr
                have hncs : nc.size = G * i.size := by
                  rw [hnc]
                  simp only [Array.size_append, size_zeroCells, hZs, List.size_toArray, List.length_append, List.length_take, Array.length_toList, hn2]
                  rw [Nat.min_eq_left k1, ← hm, ← Nat.add_mul, ← Nat.add_mul]
                  congr 1; omega
                have hncg : ∀ j, j < m + n * i.size → nc[j]? = if m ≤ j ∧ j < m + news.length then news[j - m]? else cur[j]? := by
                  intro j hj
                  rw [hnc, Array.getElem?_append_left (by simp; omega)]
                  simp only [List.getElem?_toArray]
                  by_cases hjm : j < m
                  · rw [if_neg (by omega), List.getElem?_append_left (by simp; omega), List.getElem?_take, if_pos hjm]
                    simp
                  · rw [if_pos (by omega), List.getElem?_append_right (by simp; omega)]
                    simp only [List.length_take, Array.length_toList, Nat.min_eq_left k1]
                refine ⟨_, _, upd e h.next (w.heap.size, fun o => G - o / i.size), hr, ?_, ?_⟩
                · refine Step.moved r hb hrw rfl hp (q := (w.heap.size, fun o => G - o / i.size)) (.inr (Nat.le_refl _)) (fun k hk _ => ?_) (by simp) rfl rfl rfl ?_
                  · exact heap_alloc_old w.drew _ hk
                  · refine ⟨nc, e', (0, 0), heap_alloc_new w.drew _, fun _ => rfl, ?_, fun _ => no_frozen, fun o v hv => ?_, fun _ => ⟨i, G, hi, hpos', hncs, hcm, fun o => rfl⟩⟩
                    · rw [hncs, ← hm, ← Nat.add_mul]; exact Nat.mul_le_mul_right _ hge
                    · have hcell' := hcell
                      exact written (concL_mono hq _ hn1) (fun o v hv => by obtain ⟨V, a1, a2⟩ := k3 o v hv; exact ⟨V, conc_mono hq _ a1, a2⟩) hcell q3 hncg hv
                · simp only [conc, upd_at, if_true]
                  simp
            · cases h5
          · cases h5
        · cases h5
      · rename_i hcap
        have hcap' : cap ≠ loose := fun he => by subst he; simp at hcap
        rw [if_neg hcap']
        split at h4
        · rename_i hroom'
          have hroom := Nat.ble_eq.mp hroom'
          have hr := append_room (ty := ty) hu hi hZ hy (base := some ⟨p.1, off, none⟩) (sLen := len) (sCap := cap) hroom
          split at h4
          · rename_i hn0
            cases h4
            have hnil : news = [] := List.eq_nil_of_length_eq_zero (by rw [hn2, hn0])
            subst hnil
            exact ⟨_, w, e, by rw [hr]; simp [storeCells], Step.refl r, conc_exact hp hcap'⟩
          · rename_i hn0
            obtain ⟨h1', h6, h7⟩ := ob_some h4
            cases h7
            have hne : new ≠ [] := fun he => by
              subst he
              simp only [concL] at hn1
              have := Option.some.inj hn1
              rw [← this] at hn2
              exact hn0 hn2.symm
            obtain ⟨q1, q2⟩ := store_ok r hp hn1 h6 hne
            refine ⟨_, _, e, ?_, q2, conc_exact hp hcap'⟩
            rw [hr]
            simp only [add_at]
            rw [q1]
            rfl
        · rename_i hroom'
          have hg : cap < len + n := by
            rcases Nat.lt_or_ge cap (len + n) with hh | hh
            · exact hh
            · rw [Nat.ble_eq.mpr hh] at hroom'; cases hroom'
          split at h4
          · rename_i c5 c6
            obtain ⟨old, h6, h7⟩ := ob_some h4
            cases h7
            obtain ⟨f1, f2⟩ := fits_ok c5
            have hpos := Nat.blt_eq.mp c6
            have hs' : conc e (.slice b off len cap) = some (.slice (some ⟨p.1, off, none⟩) len cap) := conc_exact hp hcap'
            obtain ⟨olds, q1, q2, q3⟩ := firstCells_ok (r.of_heap (w1 := w.drew) rfl) hs' h6 (fun s hs => by cases hs)
            have hr := append_grow (ty := ty) hu hi hZ hy2 (base := some ⟨p.1, off, none⟩) (sLen := len) (sCap := cap) hg f2 f1 q3
            obtain ⟨g1, g2⟩ := grown r hi hZs hpos (need := len + n) (old := cap) (concL_append q1 hn1) (by rw [List.length_append, q2, hn2, Nat.add_mul]) f2
            exact ⟨_, _, _, hr, g1, g2⟩
          · cases h4
    · cases h4
  · cases h1
end
end Go.Den

/- D14 -/
set_option linter.unusedVariables false
set_option linter.unusedSimpArgs false
set_option linter.unusedSectionVars false
namespace Go.Den
variable [Interp]
section
variable {P : Program} {e : Env} {h h0 h' : H} {w : World} {tm : Tm} {a : Act} {o : Oper} {v : IV}

theorem args2 {e : Env} {x y : IV} {L : List Value} (h : concL e [x, y] = some L) : ∃ X Y, conc e x = some X ∧ conc e y = some Y ∧ L = [X, Y] := by
  obtain ⟨X, R, h1, h2, rfl⟩ := concL_cons h
  obtain ⟨Y, R2, h3, h4, rfl⟩ := concL_cons h2
  simp only [concL] at h4; cases h4
  exact ⟨X, Y, h1, h3, rfl⟩
theorem args1 {e : Env} {x : IV} {L : List Value} (h : concL e [x] = some L) : ∃ X, conc e x = some X ∧ L = [X] := by
  obtain ⟨X, R, h1, h2, rfl⟩ := concL_cons h
  simp only [concL] at h2; cases h2
  exact ⟨X, h1, rfl⟩
theorem append_ts {ts : Array TypeId} {t t2 ty : TypeId} {args : Array Value} (h0 : ts[0]? = some t) (h1 : ts[1]? = some t2) : Builtin.append_ ts ty args = Builtin.append_ #[t, t2] ty args := by
  unfold Builtin.append_
  rw [h0, h1]
  rfl
theorem copyD_ok (r : Rel P e h w) {ts : Array TypeId} {t ty : TypeId} {d s : IV} {D S : Value} (h0 : ts[0]? = some t) (hdd : conc e d = some D) (hs : conc e s = some S) (hd : copyD P h t d s = some (v, h')) :
    ∃ V w' e', (Builtin.copy_ ts ty #[D, S]).run P w = .ok V w' ∧ Step P e h w e' h' w' ∧ conc e' v = some V := by
  obtain ⟨u, hu, h1⟩ := ob_some hd
  split at h1
  · rename_i el
    obtain ⟨sz, hsz, h2⟩ := ob_some h1
    obtain ⟨ls, hls, h3⟩ := ob_some h2
    obtain ⟨q1, q2⟩ := lenOf_ok (P := P) hs hls
    split at h3
    · cases h3
      simp only [conc] at hdd; cases hdd
      have hf : (Builtin.firstCells sz 0 S).run P w = .ok #[] w := by
        cases s with
        | nilSlice => simp only [conc] at hs; cases hs; simp [Builtin.firstCells]
        | slice b o n c =>
          obtain ⟨p, hp, rfl⟩ := conc_slice hs
          have := run_loadCells_list (P := P) w ⟨p.1, o, none⟩ [] (by simp)
          simpa [Builtin.firstCells] using this
        | str x => simp only [conc] at hs; cases hs; simp [Builtin.firstCells]
        | _ => cases hls
      refine ⟨_, w, e, ?_, Step.refl r, rfl⟩
      simp [Builtin.copy_, h0, run_underlying hu, q1, size_ok hsz, hf, goInt]
    · rename_i b off ld c
      obtain ⟨cs, h4, h5⟩ := ob_some h3
      have hn : ∀ x, s = .str x → Nat.min ls ld ≤ x.length := fun x hx => Nat.le_trans (Nat.min_le_left _ _) (q2 x hx)
      obtain ⟨L, q3, q4, q5⟩ := firstCells_ok r hs h4 hn
      obtain ⟨p, hp, rfl⟩ := conc_slice hdd
      split at h5
      · cases h5
        simp only [concL] at q3; cases q3
        refine ⟨_, w, e, ?_, Step.refl r, rfl⟩
        have q5' : (Builtin.firstCells sz (Nat.min ls ld) S).run P w = .ok #[] w := q5
        simp only [Builtin.copy_, h0]
        simp [run_underlying hu, q1, size_ok hsz, q5', goInt, storeCells]
      · rename_i hne
        obtain ⟨h1', h6, h7⟩ := ob_some h5
        cases h7
        obtain ⟨q6, q7⟩ := store_ok r hp q3 h6 hne
        refine ⟨_, _, e, ?_, q7, rfl⟩
        simp only [Builtin.copy_, h0]
        simp [run_underlying hu, q1, size_ok hsz, q5, goInt, q6]
    · cases h3
  · cases h1
theorem clearD_ok (r : Rel P e h w) {ts : Array TypeId} {t ty : TypeId} {d : IV} {D : Value} (h0 : ts[0]? = some t) (hdd : conc e d = some D) (hd : clearD P h t d = some h') :
    ∃ w' e', (Builtin.clear_ ts ty #[D]).run P w = .ok undef w' ∧ Step P e h w e' h' w' := by
  obtain ⟨u, hu, h1⟩ := ob_some hd
  split at h1
  · cases h1
    simp only [conc] at hdd; cases hdd
    exact ⟨w, e, by simp [Builtin.clear_, h0, run_underlying hu, undef], Step.refl r⟩
  · rename_i el b off n c
    obtain ⟨p, hp, rfl⟩ := conc_slice hdd
    split at h1
    · cases h1
      exact ⟨w, e, by simp [Builtin.clear_, h0, run_underlying hu, undef], Step.refl r⟩
    · rename_i hn
      obtain ⟨z, h2, h3⟩ := ob_some h1
      obtain ⟨i, Z, hi, hZ, hz⟩ := zero_ok h2
      have hcz := conc_cells (ofValue_ok (e := e) hz)
      have hzz := zeros_ok hcz n
      by_cases hne : zeros z.cells n = []
      · -- no cells
        rw [hne] at h3 hzz
        simp only [concL] at hzz
        have hnil : (Builtin.zeroCells Z.cells n).toList = [] := (Option.some.inj hzz).symm
        obtain ⟨t', n', z', tr, md, tr', k1, k2, k3, rfl⟩ := H.store_some h3
        cases k3
        have hrw : (Blk.cells t' n' z' tr md).rw = true := by
          show (!(Nat.beq md 2)) = true
          cases hb : Nat.beq md 2 with
          | true => exact absurd (Nat.eq_of_beq_eq_true hb) k2
          | false => rfl
        refine ⟨w, e, ?_, Step.write r k1 hrw hrw hp (fun _ _ => rfl) rfl rfl rfl rfl (r.at k1 hp)⟩
        cases n with
        | zero => exact absurd rfl hn
        | succ m => simp [Builtin.clear_, h0, run_underlying hu, run_zeroValue' hi hZ, hnil, storeCells, undef]
      · obtain ⟨q1, q2⟩ := store_ok r hp hzz h3 hne
        refine ⟨_, e, ?_, q2⟩
        cases n with
        | zero => exact absurd rfl hn
        | succ m => simp [Builtin.clear_, h0, run_underlying hu, run_zeroValue' hi hZ, q1, undef]
  · cases h1
theorem run_setObj_map {b : Nat} {E : Array MapEntry} {clk : Nat} (hb : w.heap[b]? = some (.map E clk)) (o' : Obj) : (setObj b o').run P w = .ok () { w with heap := w.heap.setIfInBounds b o' } := by
  simp [setObj, Sem.run, hb]
theorem EntsOK.set {es : List (IV × IV)} {E : List MapEntry} (hE : EntsOK e es E) {j : Nat} {k v : IV} {f : MapEntry → MapEntry} (hf : ∀ m, E[j]? = some m → conc e k = some (f m).key ∧ conc e v = some (f m).val) : EntsOK e (es.set j (k, v)) (E.modify j f) := by
  refine ⟨by simp [hE.1], fun i k' v' hi => ?_⟩
  rw [List.getElem?_set] at hi
  by_cases hij : j = i
  · subst hij
    rw [if_pos rfl] at hi
    split at hi
    · rename_i hlt
      cases hi
      have hlt' : j < E.length := by rw [hE.1]; exact hlt
      obtain ⟨q1, q2⟩ := hf E[j] (List.getElem?_eq_getElem hlt')
      exact ⟨f E[j], by rw [List.getElem?_modify]; simp [hlt'], q1, q2⟩
    · cases hi
  · rw [if_neg hij] at hi
    obtain ⟨m, q1, q2, q3⟩ := hE.2 i k' v' hi
    exact ⟨m, by rw [List.getElem?_modify]; simp [hij, q1], q2, q3⟩
theorem put_find {k : List UInt8} {u : IV} : ∀ (es : List (IV × IV)) {es' : List (IV × IV)}, putKey k u es = some es' → ∃ fr, findKey k es = some fr
  | [], es', _ => ⟨none, rfl⟩
  | (ky, vv) :: es, es', hp => by
    cases ky with
    | str s =>
      have h9' : @Bool.rec (fun _ => Option (List (IV × IV))) (ob (putKey k u es) fun l => some ((.str s, vv) :: l)) (some ((.str s, u) :: es)) (eqU k s) = some es' := hp
      have hf : findKey k ((.str s, vv) :: es) = @Bool.rec (fun _ => Option (Option IV)) (findKey k es) (some (some vv)) (eqU k s) := rfl
      rw [hf]
      cases hb : eqU k s with
      | true => exact ⟨_, rfl⟩
      | false =>
        rw [hb] at h9'
        obtain ⟨l, q1, q2⟩ := ob_some h9'
        exact put_find es q1
    | _ => cases hp
theorem doMapUpdate_ok (k : TmOK e tm a.tmps) (r : Rel P e h w) {t : TypeId} {x y z : Operand} (ho : o.op = .mapUpdate t x y z) (hd : doMapUpdate P tm h t x y z = some (.val v h')) : Eff P e h w a o v h' := by
  obtain ⟨p, h1, h2⟩ := ob_some hd
  obtain ⟨q, h3, h4⟩ := ob_some h2
  obtain ⟨u, h5, h6⟩ := ob_some h4
  have hx := ev_ok k r h1
  have hy := ev_ok k r h3
  have hz := ev_ok k r h5
  split at h6
  · rename_i b ks
    split at h6
    · rename_i kt el hu
      split at h6
      · rename_i hkt
        obtain ⟨blk, h7, h8⟩ := ob_some h6
        split at h8
        · rename_i es
          obtain ⟨es', h9, h10⟩ := ob_some h8
          cases h10
          obtain ⟨pp, hp, hV⟩ := conc_map hx
          obtain ⟨E, clk, h11, h12⟩ := map_at r h7 hp
          simp only [conc] at hy
          have hy' := Option.some.inj hy
          have hE : execOp a.eval o = (do Instr.mapUpdate t (a.eval x) (a.eval y) (a.eval z); pure .skip) := by simp only [execOp, ho]
          have hfk := put_find es h9
          obtain ⟨fr, hfk⟩ := hfk
          have hf := findKey_ok es E.toList 0 h12 hfk
          have key : ∀ E' clk', EntsOK e es' E'.toList → (Instr.mapUpdate t (.map (some pp.1)) (.string ⟨ks.toArray⟩) (a.eval z)).run P w = .ok () { w with heap := w.heap.setIfInBounds pp.1 (.map E' clk') } → Eff P e h w a o undefIV (h.put b (.map es')) := by
            intro E' clk' hE' hrun
            refine ⟨undef, { w with heap := w.heap.setIfInBounds pp.1 (.map E' clk') }, e, .inr ⟨?_, rfl⟩, Step.write r h7 rfl rfl hp (fun k hk => ?_) ?_ rfl rfl rfl ⟨E', clk', ?_, hE'.1, fun i k v hi => ?_⟩, rfl⟩
            · rw [hE, hV, ← hy']; simp only [Sem.run_bind, hrun, Result.andThen_ok]; rfl
            · simp only; rw [Array.getElem?_setIfInBounds_ne (fun he => hk he.symm)]
            · simp
            · have hlt := (Array.getElem?_eq_some_iff.1 h11).1
              simp [hlt]
            · obtain ⟨m, a1, a2, a3⟩ := hE'.2 i k v hi
              exact ⟨m, by simpa using a1, a2, a3⟩
          cases fr with
          | some u0 =>
            obtain ⟨j, V, q1, q2, q3, q4, q5⟩ := hf
            rw [q5 u] at h9; cases h9
            obtain ⟨m, m1, m2, m3⟩ := h12.2 j _ _ q4
            simp only [conc] at m2
            have hmk : m.key = .string ⟨ks.toArray⟩ := (Option.some.inj m2).symm
            refine key (E.modify j fun en => { en with key := .string ⟨ks.toArray⟩, val := a.eval z }) clk ?_ ?_
            · simp only [Array.toList_modify]
              exact h12.set (fun m _ => ⟨rfl, hz⟩)
            · have hst : Instr.sameBits 10000 (.string ⟨ks.toArray⟩) (.string ⟨ks.toArray⟩) = true := by simp [Instr.sameBits, eqBA]
              have hEj : E[j]? = some m := by simpa using m1
              simp [Instr.mapUpdate, run_underlying hu, run_getObj_map h11, run_checkKey_string _ _ hkt, Instr.findKey, run_underlying hkt, q2, hEj, hmk, Instr.keyThatStays, hst, run_setObj_map h11]
          | none =>
            rw [hf.2 u] at h9; cases h9
            refine key (E.push { key := .string ⟨ks.toArray⟩, val := a.eval z, born := clk }) (clk + 1) ?_ ?_
            · simp only [Array.toList_push]
              refine ⟨by simp [h12.1], fun i k' v' hi => ?_⟩
              by_cases hlt : i < es.length
              · rw [List.getElem?_append_left hlt] at hi
                obtain ⟨m, a1, a2, a3⟩ := h12.2 i k' v' hi
                exact ⟨m, by rw [List.getElem?_append_left (by rw [h12.1]; exact hlt)]; exact a1, a2, a3⟩
              · rw [List.getElem?_append_right (by omega)] at hi
                have : i - es.length = 0 := by
                  rcases Nat.eq_zero_or_pos (i - es.length) with hh | hh
                  · exact hh
                  · rw [List.getElem?_eq_none (by simp; omega)] at hi; cases hi
                rw [this] at hi
                simp at hi
                obtain ⟨rfl, rfl⟩ := hi
                refine ⟨_, by rw [List.getElem?_append_right (by rw [h12.1]; omega), h12.1, this]; rfl, rfl, hz⟩
            · simp [Instr.mapUpdate, run_underlying hu, run_getObj_map h11, run_checkKey_string _ _ hkt, Instr.findKey, run_underlying hkt, hf.1, run_setObj_map h11]
        · cases h8
      · cases h6
    · cases h6
  · cases h6
theorem doNext_ok (k : TmOK e tm a.tmps) (r : Rel P e h w) {x : Operand} {s : Bool} (ho : o.op = .next x s) (hd : doNext P tm h x s = some (.val v h')) : Eff P e h w a o v h' := by
  cases s with
  | false => cases hd
  | true =>
    obtain ⟨p, h1, h2⟩ := ob_some hd
    have hx := ev_ok k r h1
    have hE : execOp a.eval o = (do pure (Next.value (← Instr.next (a.eval x) true o.type))) := by simp only [execOp, ho]
    split at h2
    · rename_i b
      obtain ⟨blk, h3, h4⟩ := ob_some h2
      split at h4
      · rename_i s pos
        obtain ⟨pp, hp, hV⟩ := conc_ptr hx
        have kb : w.heap[pp.1]? = some (.stringIter ⟨s.toArray⟩ pos) := r.at h3 hp
        have hget : (getObj pp.1).run P w = .ok (.stringIter ⟨s.toArray⟩ pos) w := by simp [getObj, Sem.run, kb]
        split at h4
        · rename_i c hc
          split at h4
          · rename_i hlt
            cases h4
            have hpos : pos < s.length := (List.getElem?_eq_some_iff.1 hc).1
            have hcs : s[pos] = c := (List.getElem?_eq_some_iff.1 hc).2
            have hsz : pos < (⟨s.toArray⟩ : ByteArray).size := by rw [size_ba]; exact hpos
            have hgc : (⟨s.toArray⟩ : ByteArray)[pos]'hsz = c := hcs
            have hset : (setObj pp.1 (.stringIter ⟨s.toArray⟩ (pos + 1))).run P w = .ok () { w with heap := w.heap.setIfInBounds pp.1 (.stringIter ⟨s.toArray⟩ (pos + 1)) } := by simp [setObj, Sem.run, kb]
            have hdec := decode_ascii ⟨s.toArray⟩ pos hsz (by rw [hgc]; exact Nat.blt_eq.mp hlt)
            rw [hgc] at hdec
            refine ⟨_, { w with heap := w.heap.setIfInBounds pp.1 (.stringIter ⟨s.toArray⟩ (pos + 1)) }, e, .inl ?_, Step.write r h3 rfl rfl hp (fun k hk => ?_) (by simp) rfl rfl rfl ?_, rfl⟩
            · rw [hE, hV]
              simp [Instr.next, hget, hsz, hdec, hset, goInt]
            · simp only; rw [Array.getElem?_setIfInBounds_ne (fun he => hk he.symm)]
            · have hlt := (Array.getElem?_eq_some_iff.1 kb).1
              show ({ w with heap := w.heap.setIfInBounds pp.1 (.stringIter ⟨s.toArray⟩ (pos + 1)) } : World).heap[pp.1]? = _
              simp [hlt]
          · cases h4
        · rename_i hc
          cases h4
          have hpos : ¬ pos < (⟨s.toArray⟩ : ByteArray).size := by
            rw [size_ba]; intro hlt; rw [List.getElem?_eq_getElem hlt] at hc; cases hc
          refine ⟨_, w, e, .inl ?_, Step.refl r, rfl⟩
          rw [hE, hV]
          simp [Instr.next, hget, hpos]
      · rename_i st ps
        obtain ⟨pp, hp, hV⟩ := conc_ptr hx
        obtain ⟨hp0, kb⟩ := (r.at h3 hp : 0 ≤ ps.den e.ρ ∧ w.heap[pp.1]? = some (.stringIter ⟨(st.str e.ρ).toArray⟩ (ps.den e.ρ).toNat))
        obtain ⟨pos, hpn⟩ := natOf hp0
        rw [hpn, Int.toNat_natCast] at kb
        obtain ⟨s, hs⟩ : ∃ s, s = st.str e.ρ := ⟨_, rfl⟩
        rw [← hs] at kb
        have hget : (getObj pp.1).run P w = .ok (.stringIter ⟨s.toArray⟩ pos) w := by simp [getObj, Sem.run, kb]
        split at h4
        · obtain ⟨x, h5, h6⟩ := ob_some h4
          have h7 : decide (ps.den e.ρ < (tLen st).den e.ρ) = x := r.asm .lt _ _ _ h5
          rw [hpn, den_len, ← hs] at h7
          split at h6
          · split at h6
            · rename_i hl
              cases h6
              have hpos : pos < s.length := by simp only [decide_eq_true_eq] at h7; omega
              have hb := less_ok r.asm hl
              have hgl : s[pos]? = some s[pos] := List.getElem?_eq_getElem hpos
              have hbt : (tByte st ps).den e.ρ = ((s[pos]).toNat : Int) := by
                rw [den_byte, hpn, ← hs, Int.toNat_natCast, hgl]; rfl
              rw [hbt, den_n] at hb
              have hsz : pos < (⟨s.toArray⟩ : ByteArray).size := by rw [size_ba]; exact hpos
              have hgc : (⟨s.toArray⟩ : ByteArray)[pos]'hsz = s[pos] := rfl
              have hset : (setObj pp.1 (.stringIter ⟨s.toArray⟩ (pos + 1))).run P w = .ok () { w with heap := w.heap.setIfInBounds pp.1 (.stringIter ⟨s.toArray⟩ (pos + 1)) } := by simp [setObj, Sem.run, kb]
              have hdec := decode_ascii ⟨s.toArray⟩ pos hsz (by rw [hgc]; omega)
              rw [hgc] at hdec
              refine ⟨.tuple #[.bool true, .int .i64 (pos : Int), .int .i32 ((s[pos]).toNat : Int)], { w with heap := w.heap.setIfInBounds pp.1 (.stringIter ⟨s.toArray⟩ (pos + 1)) }, e, .inl ?_, Step.write r h3 rfl rfl hp (fun k hk => ?_) (by simp) rfl rfl rfl ?_, ?_⟩
              · rw [hE, hV]
                simp [Instr.next, hget, hsz, hdec, hset, goInt]
              · simp only; rw [Array.getElem?_setIfInBounds_ne (fun he => hk he.symm)]
              · have hlt := (Array.getElem?_eq_some_iff.1 kb).1
                have hd : (tAdd ps (.n 1)).den e.ρ = ((pos + 1 : Nat) : Int) := by rw [den_add, hpn, den_n]; omega
                refine ⟨by rw [hd]; omega, ?_⟩
                rw [hd, ← hs]
                simp [hlt]
              · simp only [conc, concL, hpn, hbt]
            · cases h6
          · cases h6
            have hpos : ¬ pos < (⟨s.toArray⟩ : ByteArray).size := by
              rw [size_ba]; simp only [decide_eq_false_iff_not] at h7; omega
            refine ⟨_, w, e, .inl ?_, Step.refl r, rfl⟩
            rw [hE, hV]
            simp [Instr.next, hget, hpos]
        · cases h4
      · cases h4
    · cases h2
end
end Go.Den

/- D15 -/
set_option linter.unusedVariables false
set_option linter.unusedSimpArgs false
set_option linter.unusedSectionVars false
namespace Go.Den
variable [Interp]
section
variable {P : Program} {e : Env} {h h0 h' : H} {w : World} {tm : Tm} {a : Act} {o : Oper} {v : IV}

/-! ### Every operation -/
theorem Eff.of_val (r : Rel P e h w) (hv : h' = h ∧ Val P e w a o v) : Eff P e h w a o v h' := by
  obtain ⟨rfl, V, h1, h2⟩ := hv
  exact ⟨V, w, e, .inl h2, Step.refl r, h1⟩
theorem Eff.of_alloc (r : Rel P e h w) (ha : ∃ b, h' = h.new b ∧ b.rw = true ∧ Alloc P e w a o h.next v b) : Eff P e h w a o v h' := by
  obtain ⟨b, rfl, hrw, c, V, w', obj, h1, h2, h3, h4, h5, h6⟩ := ha
  have hn : e h.next = none := r.dom _ (Nat.le_refl _)
  obtain ⟨h7, h8⟩ := h6 (upd e h.next (w.heap.size, c)) (le_upd hn _) (upd_at _ _)
  exact ⟨V, w', _, .inl h1, Step.new r hrw h2 h3 h4 h5 h8, h7⟩
/-- a call of a function? -/
def isCall (o : Op) : Bool := match o with
  | .call c => match c.callee with
    | .builtin _ => false
    | _ => true
  | _ => false
theorem callD_builtin_ok (k : TmOK e tm a.tmps) (r : Rel P e h w) {c : Call} {b : Builtin} (hb : c.callee = .builtin b) (ho : o.op = .call c) (hd : callD P tm h c = some (.val v h')) : Eff P e h w a o v h' := by
  have hd0 := hd
  obtain ⟨args, h1, h2⟩ := ob_some hd
  have hx := evs_ok k r h1
  obtain ⟨consts, hrun⟩ := call_builtin (P := P) (w := w) (a := a) ho hb
  have hargs : (c.args.map a.eval) = (c.args.toList.map a.eval).toArray := by apply Array.ext'; simp
  rw [hb] at h2
  simp only at h2
  split at h2
  · exact Eff.of_val r (doCall_read_ok k r hb (.inl rfl) ho hd0)
  · obtain ⟨t, h3, h4⟩ := ob_some h2
    obtain ⟨t2, h5, h6⟩ := ob_some h4
    obtain ⟨⟨u, hh⟩, h7, h8⟩ := ob_some h6
    cases h8
    obtain ⟨X, Y, q1, q2, q3⟩ := args2 hx
    obtain ⟨V, w', e', a1, a2, a3⟩ := appendD_ok (ty := o.type) r q1 q2 h7
    refine ⟨V, w', e', .inl ?_, a2, a3⟩
    rw [hrun, hargs, q3]
    simp only [builtin, Sem.run_bind]
    rw [append_ts h3 h5, a1]
    rfl
  · obtain ⟨t, h3, h4⟩ := ob_some h2
    obtain ⟨⟨u, hh⟩, h7, h8⟩ := ob_some h4
    cases h8
    obtain ⟨X, Y, q1, q2, q3⟩ := args2 hx
    obtain ⟨V, w', e', a1, a2, a3⟩ := copyD_ok (ty := o.type) r h3 q1 q2 h7
    refine ⟨V, w', e', .inl ?_, a2, a3⟩
    rw [hrun, hargs, q3]
    simp only [builtin, Sem.run_bind]
    rw [a1]
    rfl
  · obtain ⟨t, h3, h4⟩ := ob_some h2
    obtain ⟨hh, h7, h8⟩ := ob_some h4
    cases h8
    obtain ⟨X, q1, q3⟩ := args1 hx
    obtain ⟨w', e', a1, a2⟩ := clearD_ok (ty := o.type) r h3 q1 h7
    refine ⟨undef, w', e', .inl ?_, a2, rfl⟩
    rw [hrun, hargs, q3]
    simp only [builtin, Sem.run_bind]
    rw [a1]
    rfl
  · exact Eff.of_val r (doCall_read_ok k r hb (.inr (.inl rfl)) ho hd0)
  · exact Eff.of_val r (doCall_read_ok k r hb (.inr (.inl rfl)) ho hd0)
  · exact Eff.of_val r (doCall_read_ok k r hb (.inr (.inl rfl)) ho hd0)
  · exact Eff.of_val r (doCall_read_ok k r hb (.inr (.inr rfl)) ho hd0)
  · exact Eff.of_val r (doCall_read_ok k r hb (.inr (.inr rfl)) ho hd0)
  · exact Eff.of_val r (doCall_read_ok k r hb (.inr (.inl rfl)) ho hd0)
  · exact Eff.of_val r (doCall_read_ok k r hb (.inr (.inr rfl)) ho hd0)
  · exact Eff.of_val r (doCall_read_ok k r hb (.inr (.inr rfl)) ho hd0)
  · cases h2
theorem opDo_ok (k : TmOK e tm a.tmps) (r : Rel P e h w) (hd : opDo P tm h o.op = some (.val v h')) : Eff P e h w a o v h' := by
  cases ho : o.op <;> rw [ho] at hd
  case move x => exact Eff.of_val r (doMove_ok k r (.inl ho) hd)
  case assign x => exact Eff.of_val r (doMove_ok k r (.inr ho) hd)
  case pick c x y => exact Eff.of_val r (doPick_ok k r ho hd)
  case alloc t => exact Eff.of_alloc r (doAlloc_ok (tm := tm) ho hd)
  case box t x => exact Eff.of_alloc r (doBox_ok k r ho hd)
  case build t ps => exact Eff.of_val r (doBuild_ok k r ho hd)
  case buildSlice t n ps => exact Eff.of_alloc r (doBuildSlice_ok k r ho hd)
  case load t x => exact Eff.of_val r (doLoad_ok k r ho hd)
  case store t x y => exact doStore_ok k r ho hd
  case nilCheck x => exact Eff.of_val r (doNilCheck_ok k r ho hd)
  case binOp op t x y u => exact Eff.of_val r (doBinOp_ok k r ho hd)
  case unOp op t x => exact Eff.of_val r (doUnOp_ok k r ho hd)
  case convert s d x =>
    cases hm : makesRow P d with
    | true => exact Eff.of_alloc r (doConvert_row_ok k r r.asm hm ho hd)
    | false => exact Eff.of_val r (doConvert_ok k r hm ho hd)
  case sliceToArrayPointer t x => exact Eff.of_val r (doSliceToArrayPointer_ok k r ho hd)
  case makeInterface t x => exact Eff.of_val r (doMakeInterface_ok k r ho hd)
  case makeFunc fn xs ys => exact Eff.of_val r (doMakeFunc_ok k r ho hd)
  case makeMap t x => exact Eff.of_alloc r (doMakeMap_ok (tm := tm) ho hd)
  case makeSlice t x y => exact Eff.of_alloc r (doMakeSlice_ok k r ho hd)
  case slice t x lo hi mx => exact Eff.of_val r (doSlice_ok k r ho hd)
  case fieldAddr s x f => exact Eff.of_val r (doFieldAddr_ok k r ho hd)
  case field s x f => exact Eff.of_val r (doField_ok k r ho hd)
  case indexAddr t x y => exact Eff.of_val r (doIndexAddr_ok k r ho hd)
  case index t x y => exact Eff.of_val r (doIndex_ok k r ho hd)
  case lookup t x y ok => exact Eff.of_val r (doLookup_ok k r ho hd)
  case mapUpdate t x y z => exact doMapUpdate_ok k r ho hd
  case range t x => exact Eff.of_alloc r (doRange_ok k r ho hd)
  case next x s => exact doNext_ok k r ho hd
  case typeAssert x s t ok => exact Eff.of_val r (doTypeAssert_ok k r ho hd)
  case extract x i => exact Eff.of_val r (doExtract_ok k r ho hd)
  case call c =>
    have hd' : callD P tm h c = some (.val v h') := hd
    cases hc : c.callee with
    | builtin b => exact callD_builtin_ok k r hc ho hd'
    | value f =>
      exfalso
      obtain ⟨args, h1, h2⟩ := ob_some hd'
      rw [hc] at h2
      simp only at h2
      obtain ⟨g, h3, h4⟩ := ob_some h2
      split at h4
      · cases h4
      · cases h4
    | invoke x n =>
      exfalso
      obtain ⟨args, h1, h2⟩ := ob_some hd'
      rw [hc] at h2
      simp only at h2
      obtain ⟨g, h3, h4⟩ := ob_some h2
      split at h4
      · obtain ⟨i, h5, h6⟩ := ob_some h4
        obtain ⟨m, h7, h8⟩ := ob_some h6
        split at h8
        · split at h8 <;> cases h8
        · split at h8 <;> cases h8
        · cases h8
      · cases h4
  all_goals cases hd
theorem run_method0 {t : TypeId} {i : TypeInfo} {m : Method} {f : FuncId} {b : Bool} {V R : Value} {n : Nat} {name : String} (hi : P.info? t = some i) (hm : i.methods.find? (fun m => m.name == name) = some m) (hp : m.path.isEmpty = true) (hf : m.func = some (f, b))
    (hr : (receiverAt t (.val V) b (some ((name.splitOn ".").getLastD name))).run P w = .ok R w) : (method (n + 1) t V name).run P w = .ok (f, R) w := by
  have hpath : m.path.toList = [] := by
    have : m.path.size = 0 := by simpa [Array.isEmpty] using hp
    exact List.eq_nil_of_length_eq_zero (by simpa using this)
  unfold method
  simp only [Sem.run_bind, info_ok hi, Result.andThen_ok, hm, hpath, follow, hf, hp, if_true, hr, Sem.run_pure]
def NoCall (x : Option Out) : Prop := ∀ f args, x ≠ some (.call f args)
theorem noCall_none : NoCall none := fun _ _ h => by cases h
theorem noCall_val (v : IV) (h : H) : NoCall (some (.val v h)) := fun _ _ h => by cases h
theorem noCall_ob {α : Type} {x : Option α} {f : α → Option Out} (h : ∀ a, NoCall (f a)) : NoCall (ob x f) := by
  cases x with
  | none => exact noCall_none
  | some a => exact h a
theorem noCall_op (op : Op) (hn : isCall op = false ∧ (∀ c, op ≠ .call c)) : NoCall (opDo P tm h op) := by
  cases op
  case call c => exact absurd rfl (hn.2 c)
  case fieldAddr s x n =>
    refine noCall_ob (fun p => ?_)
    split
    · refine noCall_ob (fun fd => noCall_ob (fun m => ?_))
      cases m
      · exact noCall_none
      · exact noCall_val _ _
    · refine noCall_ob (fun fd => noCall_ob (fun m => ?_))
      cases m
      · exact noCall_none
      · exact noCall_val _ _
    · exact noCall_none
  case build t ps =>
    refine noCall_ob (fun p => noCall_ob (fun q => ?_))
    split
    · rename_i fs hu
      cases sizesD P fs.toList
      · exact noCall_none
      · exact noCall_ob (fun _ => noCall_val _ _)
    · exact noCall_ob (fun _ => noCall_ob (fun _ => noCall_val _ _))
    · exact noCall_none
  case convert s d x => exact noCall_ob (fun _ => noCall_ob (fun _ => noCall_val _ _))
  case makeMap t r => cases r <;> first | exact noCall_val _ _ | exact noCall_none
  all_goals first
    | exact noCall_none
    | (simp only [opDo, doMove, doAssign, doPick, doAlloc, doBox, doBuildSlice, doLoad, doStore, doNilCheck, doBinOp, doUnOp, doSliceToArrayPointer, doMakeInterface, doMakeFunc, doMakeSlice, doSlice, doField, doIndexAddr, doIndex, doLookup, doMapUpdate, doRange, doNext, doTypeAssert, doExtract]
       repeat' (first | exact noCall_val _ _ | exact noCall_none | refine noCall_ob (fun _ => ?_) | split))
theorem opDo_call (k : TmOK e tm a.tmps) (r : Rel P e h w) {f : FuncId} {args : List IV} (hd : opDo P tm h o.op = some (.call f args)) :
    ∃ A, concL e args = some A ∧ (execOp a.eval o).run P w = (callFunc f A.toArray).run P w := by
  cases ho : o.op <;> rw [ho] at hd
  case call c =>
    have hd' : callD P tm h c = some (.call f args) := hd
    obtain ⟨as, h1, h2⟩ := ob_some hd'
    have hx := evs_ok k r h1
    have hargs : (c.args.map a.eval) = (c.args.toList.map a.eval).toArray := by apply Array.ext'; simp
    cases hc : c.callee with
    | builtin b =>
      exfalso
      rw [hc] at h2
      simp only at h2
      split at h2
      all_goals first
        | (cases h2; done)
        | (obtain ⟨t, h3, h4⟩ := ob_some h2
           first
           | (cases h4; done)
           | (obtain ⟨u, h5, h6⟩ := ob_some h4
              first
              | (cases h6; done)
              | (obtain ⟨u2, h7, h8⟩ := ob_some h6; cases h8; done)))
    | value x =>
      rw [hc] at h2
      simp only at h2
      obtain ⟨g, h3, h4⟩ := ob_some h2
      have hg := ev_ok k r h3
      split at h4
      · cases h4
        obtain ⟨A, C, q1, q2, q3⟩ := conc_func hg
        refine ⟨_, concL_append (concL_append q1 hx) q2, ?_⟩
        simp only [execOp, ho, resolve, hc, q3, hargs]
        simp only [Deferred.ofValue, Sem.run_bind, Sem.run_pure, Result.andThen_ok, invoke]
        simp
      · cases h4
    | invoke x name =>
      rw [hc] at h2
      simp only at h2
      obtain ⟨g, h3, h4⟩ := ob_some h2
      have hg := ev_ok k r h3
      split at h4
      · rename_i t v
        obtain ⟨i, h5, h6⟩ := ob_some h4
        obtain ⟨m, h7, h8⟩ := ob_some h6
        obtain ⟨U, hU, hV⟩ := conc_iface hg
        have fin : ∀ (b : Bool) (R : Value) (F : FuncId), m.path.isEmpty = true → m.func = some (F, b) → (receiverAt t (.val U) b (some ((name.splitOn ".").getLastD name))).run P w = .ok R w →
            (execOp a.eval o).run P w = (callFunc F (R :: c.args.toList.map a.eval).toArray).run P w := by
          intro b R F hp hf hr
          have hm := run_method0 (n := P.types.size + 99) (name := name) h5 h7 hp hf hr
          have he : (#[Value.iface t U] ++ (c.args.toList.map a.eval).toArray).extract 1 (#[Value.iface t U] ++ (c.args.toList.map a.eval).toArray).size = (c.args.toList.map a.eval).toArray := by
            apply Array.ext'; simp
            exact List.take_of_length_le (by simp)
          have he0 : (#[Value.iface t U] ++ (c.args.toList.map a.eval).toArray)[0]? = some (Value.iface t U) := by simp
          simp only [execOp, ho, resolve, hc, hV, hargs]
          simp only [Sem.run_bind, Sem.run_pure, Result.andThen_ok, invoke, he0, he, callMethod, run_program]
          have hm' : (method (P.types.size + Made.depth) t U name).run P w = .ok (F, R) w := hm
          rw [hm']
          simp only [Result.andThen_ok]
          congr 2
          apply Array.ext'; simp
        split at h8
        · rename_i F hp hf
          split at h8
          · rename_i el b off hu
            cases h8
            refine ⟨_, concL_mk hU hx, fin true U _ hp hf ?_⟩
            simp [receiverAt, run_underlying hu, Place.get]
          · cases h8
        · rename_i F hp hf
          split at h8
          · rename_i kk hu
            cases h8
            refine ⟨_, concL_mk hU hx, fin false U _ hp hf ?_⟩
            simp [receiverAt, run_underlying hu, Place.get]
          · rename_i fs hu
            cases h8
            refine ⟨_, concL_mk hU hx, fin false U _ hp hf ?_⟩
            simp [receiverAt, run_underlying hu, Place.get]
          · cases h8
        · cases h8
      · cases h4
  all_goals exact absurd hd (noCall_op _ ⟨rfl, fun c hc => by cases hc⟩ f args)
end
end Go.Den

/- D16 -/
set_option linter.unusedVariables false
set_option linter.unusedSimpArgs false
set_option linter.unusedSectionVars false
namespace Go.Den
variable [Interp]
/-- A call answers. -/
def Answers (P : Program) (f : FuncId) (A : Array Value) (w : World) (K : Value → World → Prop) : Prop :=
  (∃ V w', (callFunc f A).run P w = .ok (.value V) w' ∧ K V w') ∨
  ((callFunc f A).run P w = .ok (.enter f A) w ∧ Calls P f A w (fun x w' => match x with | .returned V => K V w' | _ => False))
/-- What the evaluator says of calls is so. -/
def Sound (P : Program) (call : CallFn) : Prop := ∀ (f : FuncId) (args : List IV) (h : H) (v : IV) (h' : H), call f args h = some (v, h') →
  ∀ (e : Env) (w : World) (A : List Value), Rel P e h w → concL e args = some A → Answers P f A.toArray w (fun V w' => ∃ e', Step P e h w e' h' w' ∧ conc e' v = some V)
section
variable {P : Program} {e : Env} {h h0 h' : H} {w : World} {tm tm' : Tm} {a : Act} {o : Oper} {v : IV} {call : CallFn} {ops : Array Oper} {Q : Exit → Act → World → Prop} {sz : Nat}

/-- one operation, done -/
def Does (P : Program) (call : CallFn) (tm : Tm) (h : H) (op : Op) (v : IV) (h' : H) : Prop :=
  opDo P tm h op = some (.val v h') ∨ ∃ f args, opDo P tm h op = some (.call f args) ∧ call f args h = some (v, h')
theorem oper_wp (hs : Sound P call) (k : TmOK e tm a.tmps) (r : Rel P e h w) (hd : Does P call tm h o.op v h') {K : Act → World → Prop}
    (hK : ∀ V w' e', Step P e h w e' h' w' → conc e' v = some V → K (a.put o.dst V) w') : o.wp P a w K Q := by
  rcases hd with hd | ⟨f, args, hd, hc⟩
  · obtain ⟨V, w', e', hrun, hst, hcv⟩ := opDo_ok k r hd
    rcases hrun with hrun | ⟨hrun, rfl⟩
    · unfold Oper.wp; rw [hrun]; exact hK V w' e' hst hcv
    · unfold Oper.wp; rw [hrun]; exact hK undef w' e' hst hcv
  · obtain ⟨A, hA, hrun⟩ := opDo_call k r hd
    rcases hs f args h v h' hc e w A r hA with ⟨V, w', h1, e', h2, h3⟩ | ⟨h1, h2⟩
    · unfold Oper.wp; rw [hrun, h1]; exact hK V w' e' h2 h3
    · unfold Oper.wp
      rw [hrun, h1]
      refine Calls.mono h2 (fun x w' hx => ?_)
      cases x with
      | returned V => obtain ⟨e', h4, h5⟩ := hx; exact hK V w' e' h4 h5
      | panicked c => exact hx.elim
      | outgrown => exact hx.elim
theorem wantedD_ok (hk : ∀ j b, o.guard = some (j, b) → ∀ g d, ops[j]? = some g → g.dst = some d → ∀ v, tm.get d = some v → ∃ V, conc e v = some V ∧ a.tmps[d]? = some V) {b : Bool} (hw : wantedD tm ops o = some b) : Region.wanted o (yielded ops a.tmps) = b := by
  unfold wantedD at hw
  unfold Region.wanted
  cases hg : o.guard with
  | none => rw [hg] at hw; cases hw; rfl
  | some p =>
    rw [hg] at hw
    obtain ⟨g, h1, h2⟩ := ob_some hw
    obtain ⟨d, h3, h4⟩ := ob_some h2
    obtain ⟨j, want⟩ := p
    have hk' := hk j want hg g d h1 h3
    have hy : yielded ops a.tmps j = match a.tmps[d]? with | some (.bool b) => some b | _ => none := by
      unfold yielded
      simp only [h1, Option.bind_some, h3]
      rfl
    split at h4
    · rename_i x hx
      obtain ⟨V, h5, h6⟩ := hk' _ hx
      simp only [conc] at h5; cases h5
      cases h4
      simp only
      rw [hy, h6]
      show (some x == some want) = (x == want)
      cases x <;> cases want <;> rfl
    · rename_i hx
      obtain ⟨V, h5, h6⟩ := hk' _ hx
      simp only [conc, concL] at h5; cases h5
      cases h4
      simp only
      rw [hy, h6]
      rfl
    · cases h4
theorem putD_ok (k : TmOK e tm a.tmps) {d : Option Tmp} {V : Value} (hsz : a.tmps.size = sz) (hc : conc e v = some V) (hp : putD tm sz d v = some tm') : TmOK e tm' (a.put d V).tmps ∧ (a.put d V).tmps.size = sz ∧ (a.put d V).defers = a.defers := by
  cases d with
  | none => cases hp; exact ⟨k, hsz, rfl⟩
  | some t =>
    have hp' : @Bool.rec (fun _ => Option Tm) none (some (tm.put t v)) (Nat.blt t sz) = some tm' := hp
    cases hb : Nat.blt t sz with
    | false => rw [hb] at hp'; cases hp'
    | true =>
      rw [hb] at hp'
      cases hp'
      exact ⟨k.put (by rw [hsz]; exact Nat.blt_eq.mp hb) hc, by simp [Act.put, hsz], rfl⟩
theorem stepOp_some {next : Tm → H → Option (Tm × H)} {r : Tm × H} (hd : stepOp P call sz ops o next tm h = some r) :
    (wantedD tm ops o = some false ∧ ∃ tm1, putD tm sz o.dst undefIV = some tm1 ∧ next tm1 h = some r) ∨
    (wantedD tm ops o = some true ∧ ∃ v h1 tm1, Does P call tm h o.op v h1 ∧ putD tm sz o.dst v = some tm1 ∧ next tm1 h1 = some r) := by
  obtain ⟨b, h1, h2⟩ := ob_some hd
  cases b with
  | false =>
    obtain ⟨tm1, h3, h4⟩ := ob_some h2
    exact .inl ⟨h1, tm1, h3, h4⟩
  | true =>
    obtain ⟨x, h3, h4⟩ := ob_some h2
    cases x with
    | val v h1' =>
      obtain ⟨tm1, h5, h6⟩ := ob_some h4
      exact .inr ⟨h1, v, h1', tm1, .inl h3, h5, h6⟩
    | call f args =>
      obtain ⟨y, h5, h6⟩ := ob_some h4
      obtain ⟨tm1, h7, h8⟩ := ob_some h6
      exact .inr ⟨h1, y.1, y.2, tm1, .inr ⟨f, args, h3, h5⟩, h7, h8⟩
theorem opsD_ok (hs : Sound P call) (a0 : Act) : ∀ (l : List Oper) {e : Env} {h : H} {w : World} {tm : Tm} {a : Act} {r : Tm × H}, opsD P call sz ops l tm h = some r →
    TmOK e tm a.tmps → Rel P e h w → a.tmps.size = sz → a.defers = a0.defers →
    (∀ e' a' w', Step P e h w e' r.2 w' → TmOK e' r.1 a'.tmps → a'.tmps.size = sz → a'.defers = a0.defers → Q .normal a' w') → wpList P ops Q l a w
  | [], e, h, w, tm, a, r, hd, k, hr, hsz, hdf, hQ => by
    cases hd
    exact hQ e a w (Step.refl hr) k hsz hdf
  | o :: l, e, h, w, tm, a, r, hd, k, hr, hsz, hdf, hQ => by
    have hd' : stepOp P call sz ops o (opsD P call sz ops l) tm h = some r := hd
    have hg : ∀ j b, o.guard = some (j, b) → ∀ g d, ops[j]? = some g → g.dst = some d → ∀ v, tm.get d = some v → ∃ V, conc e v = some V ∧ a.tmps[d]? = some V := fun _ _ _ _ _ _ _ v hv => k _ v hv
    rcases stepOp_some hd' with ⟨h1, tm1, h2, h3⟩ | ⟨h1, v, h1', tm1, h2, h3, h4⟩
    · have hw := wantedD_ok hg h1
      simp only [wpList, hw]
      obtain ⟨k1, k2, k3⟩ := putD_ok (V := undef) k hsz rfl h2
      simp only [Bool.false_eq_true, if_false]
      exact opsD_ok hs a0 l h3 k1 hr k2 (k3.trans hdf) hQ
    · have hw := wantedD_ok hg h1
      simp only [wpList, hw, if_true]
      refine .inl (oper_wp hs k hr h2 (fun V w' e' hst hcv => ?_))
      obtain ⟨k1, k2, k3⟩ := putD_ok (k.mono hst.le) hsz hcv h3
      exact opsD_ok hs a0 l h4 k1 hst.rel k2 (k3.trans hdf) (fun e2 a2 w2 hst2 => hQ e2 a2 w2 (hst.trans hst2))
/-- A region in the order of its text. -/
theorem regionD_ok (hs : Sound P call) {id : Nat} {r : Tm × H} (hd : opsD P call sz ops ops.toList tm h = some r) (k : TmOK e tm a.tmps) (hr : Rel P e h w) (hsz : a.tmps.size = sz)
    (hQ : ∀ e' a' w', Step P e h w e' r.2 w' → TmOK e' r.1 a'.tmps → a'.tmps.size = sz → a'.defers = a.defers → Q .normal a' w') : (Code.region id ops false).wp P Q a w :=
  wp_region_list (opsD_ok hs a ops.toList hd k hr hsz rfl hQ)

/-! ### What a call hands back -/
def resV (tmps : Array Value) (x : ResultVar) : Sem Value := match x with
  | .tmp t => pure (tmps.getD t undef)
  | .cell b t => do Go.loadVar t (← asAddr (tmps.getD b undef))
theorem resD_ok (k : TmOK e tm a.tmps) (r : Rel P e h w) {x : ResultVar} (hd : resD P tm h x = some v) : ∃ V, conc e v = some V ∧ (resV a.tmps x).run P w = .ok V w := by
  cases x with
  | tmp t =>
    obtain ⟨V, h1, h2⟩ := k t v hd
    exact ⟨V, h1, by simp [resV, Array.getD_eq_getD_getElem?, h2]⟩
  | cell b t =>
    obtain ⟨p, h1, h2⟩ := ob_some hd
    obtain ⟨U, h3, h4⟩ := k b p h1
    split at h2
    · obtain ⟨q, hq, rfl⟩ := conc_ptr h3
      obtain ⟨V, h5, h6⟩ := loadVar_ok r hq h2
      exact ⟨V, h5, by simp [resV, Array.getD_eq_getD_getElem?, h4, asAddr, h6]⟩
    · cases h2
theorem resL_ok (k : TmOK e tm a.tmps) (r : Rel P e h w) : ∀ {l : List ResultVar} {vs : List IV}, resL P tm h l = some vs → ∃ L, concL e vs = some L ∧ L.length = l.length ∧ (l.mapM (resV a.tmps)).run P w = .ok L w
  | [], vs, hd => by cases hd; exact ⟨[], rfl, rfl, by simp⟩
  | x :: l, vs, hd => by
    obtain ⟨v, h1, h2⟩ := ob_some hd
    obtain ⟨r1, h3, h4⟩ := ob_some h2
    cases h4
    obtain ⟨V, h5, h6⟩ := resD_ok k r h1
    obtain ⟨L, h7, h8, h9⟩ := resL_ok k r h3
    refine ⟨V :: L, concL_mk h5 h7, by simp [h8], ?_⟩
    rw [List.mapM_cons]
    simp only [Sem.run_bind, h6, Result.andThen_ok, h9, Sem.run_pure]
theorem run_results_of {fn : Func} {L : List Value} (hrun : (fn.results.toList.mapM (resV a.tmps)).run P w = .ok L w) :
    (results fn a.tmps).run P w = .ok (if h : L.toArray.size = 1 then L.toArray[0] else .tuple L.toArray) w := by
  have h0 : results fn a.tmps = (do
      let vs ← fn.results.mapM (resV a.tmps)
      pure (if h : vs.size = 1 then vs[0] else .tuple vs)) := rfl
  rw [h0, Array.mapM_eq_mapM_toList]
  simp only [Sem.run_bind, map_eq_pure_bind, hrun, Result.andThen_ok, Sem.run_pure]
theorem resultsD_ok (k : TmOK e tm a.tmps) (r : Rel P e h w) {fn : Func} (hd : resultsD P fn tm h = some v) : ∃ V, conc e v = some V ∧ (results fn a.tmps).run P w = .ok V w := by
  unfold resultsD at hd
  split at hd
  · rename_i hl
    cases hd
    have := run_results_of (P := P) (w := w) (a := a) (fn := fn) (L := []) (by rw [hl]; simp)
    exact ⟨.tuple #[], rfl, by rw [this]; rfl⟩
  · rename_i x hl
    obtain ⟨V, h1, h2⟩ := resD_ok k r hd
    have := run_results_of (P := P) (w := w) (a := a) (fn := fn) (L := [V]) (by rw [hl, List.mapM_cons]; simp only [Sem.run_bind, h2, Result.andThen_ok]; simp)
    exact ⟨V, h1, by rw [this]; rfl⟩
  · rename_i hn1 hn2
    obtain ⟨vs, h1, h2⟩ := ob_some hd
    cases h2
    obtain ⟨L, h3, h4, h5⟩ := resL_ok k r h1
    have := run_results_of (P := P) (w := w) (a := a) (fn := fn) h5
    refine ⟨.tuple L.toArray, by simp only [conc, h3], ?_⟩
    rw [this]
    have hl : L.length ≠ 1 := by
      rw [h4]
      intro hv
      cases hr : fn.results.toList with
      | nil => exact hn1 hr
      | cons x l =>
        rw [hr] at hv
        cases l with
        | nil => exact hn2 x hr
        | cons y l => simp at hv
    simp [hl]
end
end Go.Den

/- D17 -/
set_option linter.unusedVariables false
set_option linter.unusedSimpArgs false
set_option linter.unusedSectionVars false
namespace Go.Den
variable [Interp]
section
variable {P : Program} {e e' : Env} {h h0 h' : H} {w w' : World} {tm tm' : Tm} {a : Act} {o : Oper} {v : IV}

/-! ### What the temporaries are that an operation looks at -/
theorem evs_congr : ∀ {l : List Operand}, (∀ x ∈ l, ev P tm x = ev P tm' x) → evs P tm l = evs P tm' l
  | [], _ => rfl
  | x :: l, hx => by
    have h1 : ∀ t, evs P t (x :: l) = ob (ev P t x) fun a => ob (evs P t l) fun r => some (a :: r) := fun _ => rfl
    rw [h1, h1, hx x (by simp), evs_congr (fun y hy => hx y (by simp [hy]))]
theorem evp_congr : ∀ {l : List (Nat × Operand)}, (∀ x ∈ l, ev P tm x.2 = ev P tm' x.2) → evp P tm l = evp P tm' l
  | [], _ => rfl
  | x :: l, hx => by
    have h1 : ∀ t, evp P t (x :: l) = ob (ev P t x.2) fun a => ob (evp P t l) fun r => some ((x.1, a) :: r) := fun _ => rfl
    rw [h1, h1, hx x (by simp), evp_congr (fun y hy => hx y (by simp [hy]))]
theorem evo_congr {x : Option Operand} (hx : ∀ y, x = some y → ev P tm y = ev P tm' y) : evo P tm x = evo P tm' x := by
  cases x with
  | none => rfl
  | some y => simp only [evo, hx y rfl]
theorem opDo_congr (op : Op) (hx : ∀ x ∈ op.operands, ev P tm x = ev P tm' x) : opDo P tm h op = opDo P tm' h op := by
  cases op <;> simp only [Op.operands] at hx
  case move x => have := hx x (by simp); simp only [opDo, doMove, this]
  case assign x => have := hx x (by simp); simp only [opDo, doAssign, this]
  case pick c x y => simp only [opDo, doPick, hx c (by simp), hx x (by simp), hx y (by simp)]
  case alloc t => rfl
  case box t x => simp only [opDo, doBox, hx x (by simp)]
  case build t ps => have hp := evp_congr (P := P) (tm := tm) (tm' := tm') (l := ps.toList) (fun x hm => hx x.2 (List.mem_toArray.2 (List.mem_map.2 ⟨x, hm, rfl⟩))); simp only [opDo, doBuild, hp]
  case buildSlice t n ps => have hp := evp_congr (P := P) (tm := tm) (tm' := tm') (l := ps.toList) (fun x hm => hx x.2 (List.mem_toArray.2 (List.mem_map.2 ⟨x, hm, rfl⟩))); simp only [opDo, doBuildSlice, hp]
  case load t x => simp only [opDo, doLoad, hx x (by simp)]
  case store t x y => simp only [opDo, doStore, hx x (by simp), hx y (by simp)]
  case nilCheck x => simp only [opDo, doNilCheck, hx x (by simp)]
  case binOp op t x y u => simp only [opDo, doBinOp, hx x (by simp), hx y (by simp)]
  case unOp op t x => simp only [opDo, doUnOp, hx x (by simp)]
  case convert s d x => simp only [opDo, doConvert, hx x (by simp)]
  case sliceToArrayPointer t x => simp only [opDo, doSliceToArrayPointer, hx x (by simp)]
  case makeInterface t x => simp only [opDo, doMakeInterface, hx x (by simp)]
  case makeFunc fn xs ys => simp only [opDo, doMakeFunc, evs_congr (P := P) (tm := tm) (tm' := tm') (l := xs.toList) (fun x hm => hx x (by simp [Array.mem_toList_iff.1 hm])), evs_congr (P := P) (tm := tm) (tm' := tm') (l := ys.toList) (fun x hm => hx x (by simp [Array.mem_toList_iff.1 hm]))]
  case makeMap t r => rfl
  case makeSlice t x y => simp only [opDo, doMakeSlice, hx x (by simp), hx y (by simp)]
  case slice t x lo hi mx => simp only [opDo, doSlice, hx x (by simp), evo_congr (x := lo) (fun y hy => hx y (by simp [hy])), evo_congr (x := hi) (fun y hy => hx y (by simp [hy])), evo_congr (x := mx) (fun y hy => hx y (by simp [hy]))]
  case fieldAddr s x f => simp only [opDo, doFieldAddr, hx x (by simp)]
  case field s x f => simp only [opDo, doField, hx x (by simp)]
  case indexAddr t x y => simp only [opDo, doIndexAddr, hx x (by simp), hx y (by simp)]
  case index t x y => simp only [opDo, doIndex, hx x (by simp), hx y (by simp)]
  case lookup t x y ok => simp only [opDo, doLookup, hx x (by simp), hx y (by simp)]
  case mapUpdate t x y z => simp only [opDo, doMapUpdate, hx x (by simp), hx y (by simp), hx z (by simp)]
  case range t x => simp only [opDo, doRange, hx x (by simp)]
  case next x s => simp only [opDo, doNext, hx x (by simp)]
  case typeAssert x s t ok => simp only [opDo, doTypeAssert, hx x (by simp)]
  case extract x i => simp only [opDo, doExtract, hx x (by simp)]
  case call c =>
    have hargs := evs_congr (P := P) (tm := tm) (tm' := tm') (l := c.args.toList) (fun x hm => hx x (by simp [Call.operands, Array.mem_toList_iff.1 hm]))
    simp only [opDo, doCall, callD, hargs]
    cases hc : c.callee with
    | builtin b => rfl
    | value f => simp only [hx f (by simp [Call.operands, hc])]
    | invoke x n => simp only [hx x (by simp [Call.operands, hc])]
  all_goals rfl

/-! ### What looks at temporaries alone -/
def Indep (F : H → Option Out) : Prop := ∀ h v h', F h = some (.val v h') → ∀ h1 : H, h1.asm = h.asm → F h1 = some (.val v h1)
theorem indep_none : Indep (fun _ => none) := fun h v h' hh => by cases hh
theorem indep_val (v : IV) : Indep (fun h => some (.val v h)) := fun h u h' hh h1 _ => by cases hh; rfl
theorem indep_ob {α : Type} {x : Option α} {f : α → H → Option Out} (hf : ∀ a, Indep (f a)) : Indep (fun h => ob x fun a => f a h) := by
  cases x with
  | none => exact indep_none
  | some a => exact hf a
theorem pure_indep (op : Op) (hc : cls P op = .p) : Indep (fun h => opDo P tm h op) := by
  cases op <;> simp only [cls] at hc
  case convert s d x => split at hc <;> cases hc
  case call c => split at hc <;> cases hc
  case fieldAddr s x f =>
    simp only [opDo, doFieldAddr]
    refine indep_ob (fun p => ?_)
    cases p with
    | ptr b o =>
      refine indep_ob (fun fd => indep_ob (fun n => ?_))
      cases n with
      | zero => exact indep_none
      | succ n => exact indep_val _
    | sptr b sz i j =>
      refine indep_ob (fun fd => indep_ob (fun n => ?_))
      cases n with
      | zero => exact indep_none
      | succ n => exact indep_val _
    | _ => exact indep_none
  case build t ps =>
    simp only [opDo, doBuild]
    refine indep_ob (fun p => indep_ob (fun q => ?_))
    split
    · rename_i fs hu
      cases sizesD P fs.toList
      · exact indep_none
      · exact indep_ob (fun _ => indep_val _)
    · exact indep_ob (fun _ => indep_ob (fun _ => indep_val _))
    · exact indep_none
  case indexAddr t x y =>
    simp only [opDo, doIndexAddr]
    refine indep_ob (fun p => indep_ob (fun q => ?_))
    intro h v h' hh h1 ha
    obtain ⟨z, q1, q2⟩ := ob_some hh
    cases q2
    show (ob (@Option.rec IV (fun _ => Option IV) (indexAddrS P h1.asm t p q) (fun v => some v) (indexAddrD P t p q)) fun v => some (Out.val v h1)) = _
    rw [ha, ob_mk q1]
  case index t x y =>
    simp only [opDo, doIndex]
    refine indep_ob (fun p => indep_ob (fun q => ?_))
    intro h v h' hh h1 ha
    obtain ⟨z, q1, q2⟩ := ob_some hh
    cases q2
    show (ob (@Option.rec IV (fun _ => Option IV) (indexS P h1.asm t p q) (fun v => some v) (indexD P t p q)) fun v => some (Out.val v h1)) = _
    rw [ha, ob_mk q1]
  case binOp op t x y u =>
    simp only [opDo, doBinOp]
    refine indep_ob (fun p => indep_ob (fun q => ?_))
    split
    · intro h v h' hh h1 ha
      obtain ⟨z, q1, q2⟩ := ob_some hh
      cases q2
      show (ob (binOpD P h1.asm op t p q) fun v => some (Out.val v h1)) = _
      rw [ha, ob_mk q1]
    · exact indep_none
  all_goals first
    | (cases hc; done)
    | exact indep_none
    | (simp only [opDo, doMove, doAssign, doPick, doNilCheck, doUnOp, doSliceToArrayPointer, doMakeInterface, doMakeFunc, doField, doIndexAddr, doIndex, doTypeAssert, doExtract]
       repeat' (first | exact indep_val _ | exact indep_none | refine indep_ob (fun _ => ?_) | split))

/-! ### The classes -/
theorem read_ok (hc : cls P o.op = .p ∨ cls P o.op = .l) (k : TmOK e tm a.tmps) (r : Rel P e h w) (hd : opDo P tm h o.op = some (.val v h')) : h' = h ∧ Val P e w a o v := by
  cases ho : o.op <;> rw [ho] at hd hc
  case move x => exact doMove_ok k r (.inl ho) hd
  case assign x => exact doMove_ok k r (.inr ho) hd
  case pick c x y => exact doPick_ok k r ho hd
  case build t ps => exact doBuild_ok k r ho hd
  case load t x => exact doLoad_ok k r ho hd
  case nilCheck x => exact doNilCheck_ok k r ho hd
  case binOp op t x y u => exact doBinOp_ok k r ho hd
  case unOp op t x => exact doUnOp_ok k r ho hd
  case convert s d x =>
    cases hm : makesRow P d with
    | true =>
      exfalso
      simp only [cls] at hc
      unfold makesRow at hm
      split at hm
      · rename_i el hu
        rw [hu] at hc
        rcases hc with hc | hc <;> cases hc
      · cases hm
    | false => exact doConvert_ok k r hm ho hd
  case sliceToArrayPointer t x => exact doSliceToArrayPointer_ok k r ho hd
  case makeInterface t x => exact doMakeInterface_ok k r ho hd
  case makeFunc fn xs ys => exact doMakeFunc_ok k r ho hd
  case slice t x lo hi mx => exact doSlice_ok k r ho hd
  case fieldAddr s x f => exact doFieldAddr_ok k r ho hd
  case field s x f => exact doField_ok k r ho hd
  case indexAddr t x y => exact doIndexAddr_ok k r ho hd
  case index t x y => exact doIndex_ok k r ho hd
  case lookup t x y ok => exact doLookup_ok k r ho hd
  case typeAssert x s t ok => exact doTypeAssert_ok k r ho hd
  case extract x i => exact doExtract_ok k r ho hd
  case call c =>
    simp only [cls] at hc
    split at hc
    · rename_i hcc; exact doCall_read_ok k r hcc (.inl rfl) ho hd
    · rename_i hcc; exact doCall_read_ok k r hcc (.inr (.inl rfl)) ho hd
    · rename_i hcc; exact doCall_read_ok k r hcc (.inr (.inr rfl)) ho hd
    · rcases hc with hc | hc <;> cases hc
  all_goals first
    | (cases hd; done)
    | (exfalso; simp only [cls] at hc; rcases hc with hc | hc <;> cases hc)
theorem alloc_ok (hc : cls P o.op = .a) (k : TmOK e tm a.tmps) (r : Rel P e h0 w) (ha : AsmOK h.asm e.ρ) (hd : opDo P tm h o.op = some (.val v h')) : ∃ b, h' = h.new b ∧ b.rw = true ∧ Alloc P e w a o h.next v b := by
  cases ho : o.op <;> rw [ho] at hd hc
  case alloc t => exact doAlloc_ok (tm := tm) ho hd
  case box t x => exact doBox_ok k r ho hd
  case buildSlice t n ps => exact doBuildSlice_ok k r ho hd
  case convert s d x =>
    cases hm : makesRow P d with
    | true => exact doConvert_row_ok k r ha hm ho hd
    | false =>
      exfalso
      simp only [cls] at hc
      split at hc
      · rename_i hu; simp [makesRow, hu] at hm
      · cases hc
  case makeMap t x => exact doMakeMap_ok (tm := tm) ho hd
  case makeSlice t x y => exact doMakeSlice_ok k r ho hd
  case range t x => exact doRange_ok k r ho hd
  case call c =>
    exfalso
    simp only [cls] at hc
    split at hc <;> cases hc
  all_goals first
    | (cases hd; done)
    | (exfalso; simp only [cls] at hc; cases hc)
theorem valD_some {tm : Tm} {g : H} {op : Op} {r : IV × H} (hv : valD P tm g op = some r) : opDo P tm g op = some (.val r.1 r.2) := by
  obtain ⟨x, h1, h2⟩ := ob_some hv
  cases x with
  | val v h => cases h2; exact h1
  | call f args => cases h2
theorem actD_some {call : CallFn} {tm : Tm} {g : H} {op : Op} {r : IV × H} (hv : actD P call tm g op = some r) : Does P call tm g op r.1 r.2 := by
  obtain ⟨x, h1, h2⟩ := ob_some hv
  cases x with
  | val v h => cases h2; exact .inl h1
  | call f args => exact .inr ⟨f, args, h1, h2⟩
end

/-! ### Equal values -/
mutual
theorem eqIV_eq : ∀ (a b : IV), eqIV a b = true → a = b
  | .int k n, b, h => by
    cases b with
    | int k' n' =>
      simp only [eqIV] at h
      split at h
      · rename_i hk
        have := kindN_inj hk
        rw [eqZ_eq] at h
        have h2 : n = n' := by simpa using h
        rw [this, h2]
      · cases h
    | _ => simp [eqIV] at h
  | .sint k n, b, h => by
    cases b with
    | sint k' n' =>
      simp only [eqIV] at h
      split at h
      · rename_i hk
        rw [kindN_inj hk, eqSE_eq n n' h]
      · cases h
    | _ => simp [eqIV] at h
  | .optr i, b, h => by
    cases b with
    | optr j => simp only [eqIV] at h; rw [Nat.eq_of_beq_eq_true h]
    | _ => simp [eqIV] at h
  | .bool x, b, h => by
    cases b with
    | bool y => cases x <;> cases y <;> first | rfl | (simp [eqIV] at h)
    | _ => cases x <;> simp [eqIV] at h
  | .str s, b, h => by
    cases b with
    | str s' => simp only [eqIV] at h; rw [eqU_eq] at h; have : s = s' := by simpa using h
                rw [this]
    | _ => simp [eqIV] at h
  | .sstr s, b, h => by
    cases b with
    | sstr s' => simp only [eqIV] at h; rw [eqSE_eq s s' h]
    | _ => simp [eqIV] at h
  | .sptr x y z u, b, h => by
    cases b with
    | sptr x' y' z' u' =>
      simp only [eqIV] at h
      split at h
      · rename_i h1 h2 h3
        rw [Nat.eq_of_beq_eq_true h1, Nat.eq_of_beq_eq_true h2, Nat.eq_of_beq_eq_true h3, eqSE_eq z z' h]
      · cases h
    | _ => simp [eqIV] at h
  | .sslice x y z u s, b, h => by
    cases b with
    | sslice x' y' z' u' s' =>
      simp only [eqIV] at h
      split at h
      · rename_i h1 h2 h3 h4
        rw [Nat.eq_of_beq_eq_true h1, Nat.eq_of_beq_eq_true h2, eqSE_eq z z' h3, eqSE_eq u u' h4, eqSE_eq s s' h]
      · cases h
    | _ => simp [eqIV] at h
  | .ptr x y, b, h => by
    cases b with
    | ptr x' y' =>
      simp only [eqIV] at h
      split at h
      · rename_i hk
        rw [Nat.eq_of_beq_eq_true hk, Nat.eq_of_beq_eq_true h]
      · cases h
    | _ => simp [eqIV] at h
  | .nilPtr, b, h => by cases b <;> simp [eqIV] at h <;> rfl
  | .slice x y z u, b, h => by
    cases b with
    | slice x' y' z' u' =>
      simp only [eqIV] at h
      split at h
      · rename_i h1 h2 h3
        rw [Nat.eq_of_beq_eq_true h1, Nat.eq_of_beq_eq_true h2, Nat.eq_of_beq_eq_true h3, Nat.eq_of_beq_eq_true h]
      · cases h
    | _ => simp [eqIV] at h
  | .nilSlice, b, h => by cases b <;> simp [eqIV] at h <;> rfl
  | .map x, b, h => by
    cases b with
    | map y => simp only [eqIV] at h; rw [Nat.eq_of_beq_eq_true h]
    | _ => simp [eqIV] at h
  | .nilMap, b, h => by cases b <;> simp [eqIV] at h <;> rfl
  | .func fn x y, b, h => by
    cases b with
    | func fn' x' y' =>
      cases fn <;> cases fn' <;> simp only [eqIV] at h <;> first | (cases h; done) | skip
      split at h
      · rename_i h1 h2
        rw [Nat.eq_of_beq_eq_true h1, eqIVs_eq x x' h2, eqIVs_eq y y' h]
      · cases h
    | _ => cases fn <;> simp [eqIV] at h
  | .nilFunc, b, h => by cases b <;> simp [eqIV] at h <;> rfl
  | .iface t x, b, h => by
    cases b with
    | iface t' x' =>
      simp only [eqIV] at h
      split at h
      · rename_i hk
        rw [Nat.eq_of_beq_eq_true hk, eqIV_eq x x' h]
      · cases h
    | _ => simp [eqIV] at h
  | .nilIface, b, h => by cases b <;> simp [eqIV] at h <;> rfl
  | .agg l, b, h => by
    cases b with
    | agg l' => simp only [eqIV] at h; rw [eqIVs_eq l l' h]
    | _ => simp [eqIV] at h
  | .tuple l, b, h => by
    cases b with
    | tuple l' => simp only [eqIV] at h; rw [eqIVs_eq l l' h]
    | _ => simp [eqIV] at h
theorem eqIVs_eq : ∀ (a b : List IV), eqIVs a b = true → a = b
  | [], b, h => by cases b with
    | nil => rfl
    | cons x l => simp [eqIVs] at h
  | x :: l, b, h => by
    cases b with
    | nil => simp [eqIVs] at h
    | cons y r =>
      simp only [eqIVs] at h
      split at h
      · rename_i h1
        rw [eqIV_eq x y h1, eqIVs_eq l r h]
      · cases h
end
end Go.Den

/- D18 -/
set_option linter.unusedVariables false
set_option linter.unusedSimpArgs false
set_option linter.unusedSectionVars false
namespace Go.Den
variable [Interp]
section
variable {P : Program} {e e' e0 : Env} {h h0 h' G G' K0 K0' : H} {w w' w0 : World} {tm tm' : Tm} {a : Act} {o : Oper} {v : IV}

/-! ### Parts of memory -/
theorem Rel.sub (r : Rel P e G w) (hn : K0.next = G.next) (ha : K0.asm = G.asm) (hs : ∀ id b, K0.m.get id = some b → G.m.get id = some b) : Rel P e K0 w :=
  ⟨fun id hid => r.dom id (by omega), fun i j a b p q hi hj => r.inj i j a b p q (hs i a hi) (hs j b hj), fun id b hb => r.blk id b (hs id b hb), r.glob, by rw [ha]; exact r.asm⟩
theorem Step.ext (s : Step P e h w e' G w') (hn : G'.next = G.next) (ha : G'.asm = G.asm) (hg : ∀ id, G'.m.get id = G.m.get id) : Step P e h w e' G' w' :=
  ⟨s.le, s.keep, by rw [hn]; exact s.next, s.rel.sub hn ha (fun id b hb => by rw [← hg]; exact hb), s.os, s.tape, s.output, s.size, s.old, fun id b hb hr => s.ro id b (by rw [← hg]; exact hb) hr,
    fun id b p hb hr hp => s.own id b p (by rw [← hg]; exact hb) hr hp⟩
theorem Step.bump (r : Rel P e h w) (hw : w'.heap = w.heap) (ho : w'.os = w.os) (ht : w'.tape = w.tape) (hu : w'.output = w.output) {n : Nat} (hn : h.next ≤ n) : Step P e h w e ⟨n, h.m, h.asm⟩ w' := by
  have s := Step.same r hw ho ht hu
  exact ⟨s.le, s.keep, hn, ⟨fun id hid => s.rel.dom id (Nat.le_trans hn hid), s.rel.inj, s.rel.blk, s.rel.glob, s.rel.asm⟩, s.os, s.tape, s.output, s.size, s.old, s.ro, s.own⟩
/-- What stands aside is not made. -/
theorem Step.apart (r : Rel P e G w) (hs : ∀ id b, K0.m.get id = some b → G.m.get id = some b) (s : Step P e K0 w e' K0' w') {id : Nat} {b : Blk} (h1 : K0.m.get id = none) (h2 : G.m.get id = some b) : K0'.m.get id = none := by
  cases h3 : K0'.m.get id with
  | none => rfl
  | some b' =>
    exfalso
    obtain ⟨p, hp, kb⟩ := r.blk id b h2
    have hlt := kb.lt
    cases hr : b'.rw with
    | true =>
      rcases s.own id b' p h3 hr (s.le _ _ hp) with hl | ⟨id0, b0, p0, q1, q2, q3, q4⟩
      · omega
      · have := r.inj id0 id b0 b p0 p (hs _ _ q1) h2 q3 hp q4
        subst this
        rw [h1] at q1; cases q1
    | false =>
      have := s.ro id b' h3 hr
      rw [h1] at this; cases this
/-- A step on a part of memory is a step on all of it. -/
theorem Step.frame (r : Rel P e G w) (hn : K0.next = G.next) (hs : ∀ id b, K0.m.get id = some b → G.m.get id = some b) (s : Step P e K0 w e' K0' w') (hn' : G'.next = K0'.next) (ha' : G'.asm = K0'.asm)
    (hH : ∀ id b, G'.m.get id = some b → K0'.m.get id = some b ∨ (K0.m.get id = none ∧ G.m.get id = some b)) : Step P e G w e' G' w' := by
  have hno : ∀ (j : Nat) (b : Blk) (q : Nat × (Nat → Nat)), K0.m.get j = none → G.m.get j = some b → e j = some q → ∀ id b0 p0, K0.m.get id = some b0 → b0.rw = true → e id = some p0 → p0.1 ≠ q.1 := by
    intro j b q h1 h2 h3 id b0 p0 q1 q2 q3 q4
    have := r.inj id j b0 b p0 q (hs _ _ q1) h2 q3 h3 q4
    subst this
    rw [h1] at q1; cases q1
  have hkeep : ∀ (j : Nat) (b : Blk) (q : Nat × (Nat → Nat)), K0.m.get j = none → G.m.get j = some b → e j = some q → w'.heap[q.1]? = w.heap[q.1]? := by
    intro j b q h1 h2 h3
    obtain ⟨q', h4, kb⟩ := r.blk j b h2
    rw [h3] at h4; cases h4
    exact s.old q.1 kb.lt (hno j b q h1 h2 h3)
  have hsep : ∀ (i j : Nat) (b c : Blk) (p q : Nat × (Nat → Nat)), K0'.m.get i = some b → K0.m.get j = none → G.m.get j = some c → e' i = some p → e' j = some q → p.1 ≠ q.1 := by
    intro i j b c p q h1 h2 h3 h4 h5 h6
    obtain ⟨q', h7, kb⟩ := r.blk j c h3
    have := s.le _ _ h7
    rw [h5] at this; cases this
    have hlt := kb.lt
    cases hr : b.rw with
    | true =>
      rcases s.own i b p h1 hr h4 with hl | ⟨id0, b0, p0, q1, q2, q3, q4⟩
      · omega
      · exact hno j c q h2 h3 h7 id0 b0 p0 q1 q2 q3 (q4.trans h6)
    | false =>
      have h8 := s.ro i b h1 hr
      obtain ⟨p0, h9, _⟩ := r.blk i b (hs _ _ h8)
      have := s.le _ _ h9
      rw [h4] at this; cases this
      have := r.inj i j b c p q (hs _ _ h8) h3 h9 h7 h6
      subst this
      rw [h2] at h8; cases h8
  refine ⟨s.le, fun id hid => s.keep id (by omega), by rw [hn', ← hn]; exact s.next, ⟨fun id hid => s.rel.dom id (by omega), ?_, ?_, s.rel.glob, by rw [ha']; exact s.rel.asm⟩, s.os, s.tape, s.output, s.size, ?_, ?_, ?_⟩
  · intro i j b c p q hi hj hp hq hpq
    rcases hH i b hi with h1 | ⟨h1, h2⟩ <;> rcases hH j c hj with h3 | ⟨h3, h4⟩
    · exact s.rel.inj i j b c p q h1 h3 hp hq hpq
    · exact absurd hpq (hsep i j b c p q h1 h3 h4 hp hq)
    · exact absurd hpq.symm (hsep j i c b q p h3 h1 h2 hq hp)
    · obtain ⟨p', h5, _⟩ := r.blk i b h2
      obtain ⟨q', h6, _⟩ := r.blk j c h4
      have h7 := s.le _ _ h5
      have h8 := s.le _ _ h6
      rw [hp] at h7; cases h7
      rw [hq] at h8; cases h8
      exact r.inj i j b c p q h2 h4 h5 h6 hpq
  · intro id b hb
    rcases hH id b hb with h1 | ⟨h1, h2⟩
    · exact s.rel.blk id b h1
    · obtain ⟨p, h3, kb⟩ := r.blk id b h2
      exact ⟨p, s.le _ _ h3, kb.mono s.le (hkeep id b p h1 h2 h3)⟩
  · intro k hk hno'
    exact s.old k hk (fun id b p h1 h2 h3 => hno' id b p (hs _ _ h1) h2 h3)
  · intro id b hb hr
    rcases hH id b hb with h1 | ⟨h1, h2⟩
    · exact hs _ _ (s.ro id b h1 hr)
    · exact h2
  · intro id b p hb hr hp
    rcases hH id b hb with h1 | ⟨h1, h2⟩
    · rcases s.own id b p h1 hr hp with hl | ⟨id0, b0, p0, q1, q2, q3, q4⟩
      · exact .inl hl
      · exact .inr ⟨id0, b0, p0, hs _ _ q1, q2, q3, q4⟩
    · obtain ⟨p', h3, _⟩ := r.blk id b h2
      have := s.le _ _ h3
      rw [hp] at this; cases this
      exact .inr ⟨id, b, p, h2, hr, h3, rfl⟩
/-- A block under a number that was kept for it. -/
theorem Step.then_new (s : Step P e0 h0 w0 e G w) {id : Nat} {b : Blk} {obj : Obj} {c : Nat → Nat} (h1 : h0.next ≤ id) (h2 : id < G.next) (h3 : e id = none) (hrw : b.rw = true)
    (hh : w'.heap = w.heap.push obj) (ho : w'.os = w.os) (ht : w'.tape = w.tape) (hp : w'.output = w.output) (hok : BlkOK P (upd e id (w.heap.size, c)) b (w.heap.size, c) w')
    (hn : G'.next = G.next) (ha : G'.asm = G.asm) (hg : ∀ j, G'.m.get j = if j = id then some b else G.m.get j) : Step P e0 h0 w0 (upd e id (w.heap.size, c)) G' w' := by
  have hle : e.le (upd e id (w.heap.size, c)) := by
    refine ⟨?_, rfl, rfl⟩
    intro j q hq
    simp only [upd]
    split
    · rename_i he; rw [he, h3] at hq; cases hq
    · exact hq
  have hup : ∀ j, j ≠ id → upd e id (w.heap.size, c) j = e j := fun j hj => by simp [upd, hj]
  have hold : ∀ k, k < w.heap.size → w'.heap[k]? = w.heap[k]? := fun k hk => by rw [hh, Array.getElem?_push, if_neg (by omega)]
  have hget : ∀ j x, G'.m.get j = some x → (j = id ∧ x = b) ∨ (j ≠ id ∧ G.m.get j = some x) := by
    intro j x hx
    rw [hg j] at hx
    by_cases he : j = id
    · rw [if_pos he] at hx; exact .inl ⟨he, by simpa using hx.symm⟩
    · rw [if_neg he] at hx; exact .inr ⟨he, hx⟩
  refine ⟨Env.le_trans s.le hle, fun j hj => (hup j (by omega)).trans (s.keep j hj), by rw [hn]; exact s.next, ⟨?_, ?_, ?_, ?_, by rw [ha]; exact s.rel.asm⟩, ho.trans s.os, ht.trans s.tape, hp.trans s.output, by rw [hh]; simp; exact Nat.le_trans s.size (Nat.le_succ _), ?_, ?_, ?_⟩
  · intro j hj
    rw [hup j (by omega)]; exact s.rel.dom j (by omega)
  · intro i j x y p q hi hj hp hq hpq
    rcases hget i x hi with ⟨rfl, rfl⟩ | ⟨hi1, hi2⟩ <;> rcases hget j y hj with ⟨hj1, hj2⟩ | ⟨hj1, hj2⟩
    · exact hj1.symm
    · rw [upd_at] at hp; rw [hup j hj1] at hq
      obtain ⟨q', hq', k⟩ := s.rel.blk j y hj2
      have := k.lt; rw [hq'] at hq; cases hq; cases hp; simp at hpq; omega
    · subst hj1; rw [upd_at] at hq; rw [hup i hi1] at hp
      obtain ⟨q', hq', k⟩ := s.rel.blk i x hi2
      have := k.lt; rw [hq'] at hp; cases hp; cases hq; simp at hpq; omega
    · rw [hup i hi1] at hp; rw [hup j hj1] at hq
      exact s.rel.inj i j x y p q hi2 hj2 hp hq hpq
  · intro j x hx
    rcases hget j x hx with ⟨rfl, rfl⟩ | ⟨h4, h5⟩
    · exact ⟨_, upd_at _ _, hok⟩
    · obtain ⟨p, hp, k⟩ := s.rel.blk j x h5
      exact ⟨p, (hup j h4).trans hp, k.mono hle (hold _ k.lt)⟩
  · intro g hgl
    obtain ⟨p, hp, hpg⟩ := s.rel.glob g hgl
    exact ⟨p, hle _ _ hp, hpg⟩
  · intro k hk hno
    rw [hold k (Nat.lt_of_lt_of_le hk s.size)]
    exact s.old k hk hno
  · intro j x hx hr
    rcases hget j x hx with ⟨_, rfl⟩ | ⟨_, h5⟩
    · rw [hrw] at hr; cases hr
    · exact s.ro j x h5 hr
  · intro j x p hx hr hp
    rcases hget j x hx with ⟨rfl, rfl⟩ | ⟨h4, h5⟩
    · rw [upd_at] at hp; cases hp; exact .inl s.size
    · exact s.own j x p h5 hr ((hup j h4).symm.trans hp)
end

/-! ### What is before what -/
theorem bit_iff (m i : Nat) : bit m i = m.testBit i := by
  rw [Nat.testBit_eq_decide_div_mod_eq]
  unfold bit
  have h1 : Nat.land (Nat.shiftRight m i) 1 = (m >>> i) &&& 1 := rfl
  rw [h1, Nat.and_one_is_mod, Nat.shiftRight_eq_div_pow]
  cases hb : Nat.beq (m / 2 ^ i % 2) 1 with
  | true => simp [Nat.eq_of_beq_eq_true hb]
  | false =>
    symm
    rw [decide_eq_false_iff_not]
    intro hc
    rw [hc] at hb
    cases hb
theorem bit_edge {acc : T Nat} {e : Edge} {s i : Nat} (hb : bit (edgeM acc e s) i = true) : bit s i = true ∨ (Region.binds .any e = true ∧ (i = e.on ∨ ∃ m, acc.get e.on = some m ∧ bit m i = true)) := by
  have main : bit (Nat.lor s (Nat.lor (Nat.shiftLeft 1 e.on) (@Option.rec Nat (fun _ => Nat) 0 (fun m => m) (acc.get e.on)))) i = true → bit s i = true ∨ i = e.on ∨ ∃ m, acc.get e.on = some m ∧ bit m i = true := by
    intro hb
    rw [bit_iff] at hb
    have h1 : Nat.lor s (Nat.lor (Nat.shiftLeft 1 e.on) (@Option.rec Nat (fun _ => Nat) 0 (fun m => m) (acc.get e.on))) = s ||| (1 <<< e.on ||| (@Option.rec Nat (fun _ => Nat) 0 (fun m => m) (acc.get e.on))) := rfl
    rw [h1, Nat.testBit_or, Nat.testBit_or] at hb
    simp only [Bool.or_eq_true] at hb
    rcases hb with hb | hb | hb
    · exact .inl (by rw [bit_iff]; exact hb)
    · refine .inr (.inl ?_)
      rw [Nat.one_shiftLeft, Nat.testBit_two_pow] at hb
      have hb' : e.on = i := by simpa using hb
      exact hb'.symm
    · cases ha : acc.get e.on with
      | none => rw [ha] at hb; simp at hb
      | some m => rw [ha] at hb; exact .inr (.inr ⟨m, rfl, by rw [bit_iff]; exact hb⟩)
  unfold edgeM at hb
  split at hb
  · exact .inl hb
  · exact .inl hb
  · rename_i hn1 hn2
    rcases main hb with h | h
    · exact .inl h
    · refine .inr ⟨?_, h⟩
      unfold Region.binds
      split
      · rename_i r hr; exact (hn1 r hr).elim
      · rename_i r hr; exact (hn2 r hr).elim
      · rfl
theorem bit_maskL {acc : T Nat} {i : Nat} : ∀ {l : List Edge}, bit (maskL acc l) i = true → ∃ e ∈ l, Region.binds .any e = true ∧ (i = e.on ∨ ∃ m, acc.get e.on = some m ∧ bit m i = true)
  | [], hb => by
    have : maskL acc [] = 0 := rfl
    rw [this, bit_iff] at hb; simp at hb
  | e :: l, hb => by
    have h1 : maskL acc (e :: l) = edgeM acc e (maskL acc l) := rfl
    rw [h1] at hb
    rcases bit_edge hb with h | h
    · obtain ⟨e', h2, h3⟩ := bit_maskL h
      exact ⟨e', by simp [h2], h3⟩
    · exact ⟨e, by simp, h⟩
/-- the masks of the first i operations -/
noncomputable def accN (L : List Oper) : Nat → T Nat
  | 0 => .nil
  | i + 1 => match L[i]? with
    | some o => (accN L i).put i (maskL (accN L i) o.after.toList)
    | none => accN L i
noncomputable def msk (L : List Oper) (i : Nat) : Nat := match L[i]? with
  | some o => maskL (accN L i) o.after.toList
  | none => 0
theorem accN_get (L : List Oper) : ∀ (i j m : Nat), (accN L i).get j = some m → j < i ∧ m = msk L j
  | 0, j, m, h => by simp only [accN] at h; rw [get_nil] at h; cases h
  | i + 1, j, m, h => by
    simp only [accN] at h
    cases hL : L[i]? with
    | none => rw [hL] at h; have := accN_get L i j m h; exact ⟨by omega, this.2⟩
    | some o =>
      rw [hL] at h
      simp only at h
      rw [get_put] at h
      by_cases hj : j = i
      · subst hj
        rw [if_pos rfl] at h
        cases h
        exact ⟨by omega, by simp [msk, hL]⟩
      · rw [if_neg hj] at h
        have := accN_get L i j m h
        exact ⟨by omega, this.2⟩
/-- Whoever is there, or may come next: what is before it is there. -/
theorem mask_closed {L : List Oper} {D : Nat → Prop} (hD : ∀ j o, L[j]? = some o → D j → ∀ e ∈ o.after, Region.binds .any e = true → D e.on) :
    ∀ (n j : Nat), j < n → (∀ o, L[j]? = some o → ∀ e ∈ o.after, Region.binds .any e = true → D e.on) → ∀ i, bit (msk L j) i = true → D i
  | 0, j, hj, _, i, _ => by omega
  | n + 1, j, hj, hr, i, hb => by
    unfold msk at hb
    cases hL : L[j]? with
    | none => rw [hL] at hb; simp only at hb; rw [bit_iff] at hb; simp at hb
    | some o =>
      rw [hL] at hb
      obtain ⟨e, h1, h2, h3⟩ := bit_maskL hb
      have he := hr o hL e (Array.mem_toList_iff.1 h1) h2
      rcases h3 with rfl | ⟨m, h4, h5⟩
      · exact he
      · obtain ⟨h6, rfl⟩ := accN_get L _ _ _ h4
        exact mask_closed hD n e.on (by omega) (fun o' ho' => hD e.on o' ho' he) i h5
end Go.Den

/- D19 -/
set_option linter.unusedVariables false
set_option linter.unusedSimpArgs false
set_option linter.unusedSectionVars false
namespace Go.Den
variable [Interp]
/-- What one operation of a drawn region came to, in the order of the text. -/
inductive StepFact (P : Program) (call : CallFn) (sz N : Nat) (A : Asm) (ops : Array Oper) (i : Nat) (o : Oper) (s s' : DS) : IV → Prop
  | skip (hw : wantedD s.tm ops o = some false) (hp : putD s.tm sz o.dst undefIV = some s'.tm) (hg : s'.g = s.g) (hpe : s'.pend = s.pend) (hx : s'.xs = s.xs) (hl : s'.ls = s.ls) : StepFact P call sz N A ops i o s s' undefIV
  | p (hw : wantedD s.tm ops o = some true) (hc : cls P o.op = .p) (v : IV) (g : H) (hv : valD P s.tm ⟨0, .nil, A⟩ o.op = some (v, g)) (hp : putD s.tm sz o.dst v = some s'.tm) (hg : s'.g = s.g) (hpe : s'.pend = s.pend) (hx : s'.xs = s.xs) (hl : s'.ls = s.ls) : StepFact P call sz N A ops i o s s' v
  | l (hw : wantedD s.tm ops o = some true) (hc : cls P o.op = .l) (v : IV) (g : H) (hv : valD P s.tm s.g o.op = some (v, g)) (hp : putD s.tm sz o.dst v = some s'.tm) (hg : s'.g = s.g) (hpe : s'.pend = s.pend) (hx : s'.xs = s.xs)
      (hl : s'.ls = ⟨i, maskL s.acc o.after.toList, s.tm, o.op, v⟩ :: s.ls) : StepFact P call sz N A ops i o s s' v
  | a (hw : wantedD s.tm ops o = some true) (hc : cls P o.op = .a) (v : IV) (g : H) (b : Blk) (hv : valD P s.tm ⟨N + i, .nil, A⟩ o.op = some (v, g)) (hb : g.m.get (N + i) = some b) (hp : putD s.tm sz o.dst v = some s'.tm) (hg : s'.g = s.g) (hpe : s'.pend = (i, b) :: s.pend) (hx : s'.xs = s.xs) (hl : s'.ls = s.ls) : StepFact P call sz N A ops i o s s' v
  | x (hw : wantedD s.tm ops o = some true) (hc : cls P o.op = .x) (v : IV) (hb : xsBefore (maskL s.acc o.after.toList) s.xs = true) (hv : actD P call s.tm (matH N (maskL s.acc o.after.toList) s.pend s.g) o.op = some (v, s'.g)) (hp : putD s.tm sz o.dst v = some s'.tm)
      (hpe : s'.pend = restP (maskL s.acc o.after.toList) s.pend) (hx : s'.xs = ⟨i, maskL s.acc o.after.toList, s'.g⟩ :: s.xs) (hl : s'.ls = s.ls) : StepFact P call sz N A ops i o s s' v
section
variable {P : Program} {call : CallFn} {sz N : Nat} {A : Asm} {ops : Array Oper}

theorem drawStep_some {i : Nat} {o : Oper} {s s' : DS} (hd : drawStep P call sz N A ops i o s = some s') : s'.acc = s.acc.put i (maskL s.acc o.after.toList) ∧ ∃ v, StepFact P call sz N A ops i o s s' v := by
  obtain ⟨b, h1, h2⟩ := ob_some hd
  cases b with
  | false =>
    obtain ⟨tm, h3, h4⟩ := ob_some h2
    cases h4
    exact ⟨rfl, _, .skip h1 h3 rfl rfl rfl rfl⟩
  | true =>
    have h2' : @Cls.rec (fun _ => Option DS)
      (ob (valD P s.tm ⟨0, .nil, A⟩ o.op) fun r => ob (putD s.tm sz o.dst r.1) fun tm => some ⟨tm, s.g, s.acc.put i (maskL s.acc o.after.toList), s.pend, s.xs, s.ls⟩)
      (ob (valD P s.tm s.g o.op) fun r => ob (putD s.tm sz o.dst r.1) fun tm =>
        some ⟨tm, s.g, s.acc.put i (maskL s.acc o.after.toList), s.pend, s.xs, ⟨i, maskL s.acc o.after.toList, s.tm, o.op, r.1⟩ :: s.ls⟩)
      (ob (valD P s.tm ⟨N + i, .nil, A⟩ o.op) fun r => ob (r.2.m.get (N + i)) fun b => ob (putD s.tm sz o.dst r.1) fun tm =>
        some ⟨tm, s.g, s.acc.put i (maskL s.acc o.after.toList), (i, b) :: s.pend, s.xs, s.ls⟩)
      (@Bool.rec (fun _ => Option DS) none
        (ob (actD P call s.tm (matH N (maskL s.acc o.after.toList) s.pend s.g) o.op) fun r => ob (putD s.tm sz o.dst r.1) fun tm =>
          some ⟨tm, r.2, s.acc.put i (maskL s.acc o.after.toList), restP (maskL s.acc o.after.toList) s.pend, ⟨i, maskL s.acc o.after.toList, r.2⟩ :: s.xs, s.ls⟩)
        (xsBefore (maskL s.acc o.after.toList) s.xs)) (cls P o.op) = some s' := h2
    cases hc : cls P o.op with
    | p =>
      rw [hc] at h2'
      obtain ⟨⟨v, g⟩, h3, h4⟩ := ob_some h2'
      obtain ⟨tm, h5, h6⟩ := ob_some h4
      cases h6
      exact ⟨rfl, _, .p h1 hc v g h3 h5 rfl rfl rfl rfl⟩
    | l =>
      rw [hc] at h2'
      obtain ⟨⟨v, g⟩, h3, h4⟩ := ob_some h2'
      obtain ⟨tm, h5, h6⟩ := ob_some h4
      cases h6
      exact ⟨rfl, _, .l h1 hc v g h3 h5 rfl rfl rfl rfl⟩
    | a =>
      rw [hc] at h2'
      obtain ⟨⟨v, g⟩, h3, h4⟩ := ob_some h2'
      obtain ⟨b, h7, h8⟩ := ob_some h4
      obtain ⟨tm, h5, h6⟩ := ob_some h8
      cases h6
      exact ⟨rfl, _, .a h1 hc v g b h3 h7 h5 rfl rfl rfl rfl⟩
    | x =>
      rw [hc] at h2'
      cases hb : xsBefore (maskL s.acc o.after.toList) s.xs with
      | false => rw [hb] at h2'; cases h2'
      | true =>
        rw [hb] at h2'
        obtain ⟨⟨v, g⟩, h3, h4⟩ := ob_some h2'
        obtain ⟨tm, h5, h6⟩ := ob_some h4
        cases h6
        exact ⟨rfl, _, .x h1 hc v hb h3 h5 rfl rfl rfl⟩
theorem drawList_states : ∀ (l : List Oper) (i : Nat) (s s' : DS), drawList P call sz N A ops l i s = some s' →
    ∃ S : Nat → DS, S i = s ∧ S (i + l.length) = s' ∧ ∀ k o, l[k]? = some o → drawStep P call sz N A ops (i + k) o (S (i + k)) = some (S (i + k + 1))
  | [], i, s, s', hd => by cases hd; exact ⟨fun _ => s, rfl, rfl, by simp⟩
  | o :: l, i, s, s', hd => by
    obtain ⟨s1, h1, h2⟩ := ob_some (show ob (drawStep P call sz N A ops i o s) (fun s => drawList P call sz N A ops l (i + 1) s) = some s' from hd)
    obtain ⟨S, h3, h4, h5⟩ := drawList_states l (i + 1) s1 s' h2
    refine ⟨fun j => if j = i then s else S j, by simp, ?_, ?_⟩
    · have : i + (o :: l).length ≠ i := by simp
      simp only [if_neg this]
      rw [← h4]; congr 1; simp; omega
    · intro k o' hk
      cases k with
      | zero =>
        simp at hk; subst hk
        have : i + 0 + 1 ≠ i := by omega
        simp only [Nat.add_zero, if_true]
        rw [if_neg (by omega), h3]
        exact h1
      | succ k =>
        have := h5 k o' (by simpa using hk)
        have e1 : i + (k + 1) ≠ i := by omega
        have e2 : i + (k + 1) + 1 ≠ i := by omega
        simp only [if_neg e1, if_neg e2]
        rw [show i + (k + 1) = i + 1 + k by omega]
        exact this
theorem restP_mem {m : Nat} : ∀ {l : List (Nat × Blk)} {p : Nat × Blk}, p ∈ restP m l ↔ p ∈ l ∧ bit m p.1 = false
  | [], p => by
    have : restP m [] = [] := rfl
    rw [this]; simp
  | q :: l, p => by
    have h1 : restP m (q :: l) = @Bool.rec (fun _ => List (Nat × Blk)) (q :: restP m l) (restP m l) (bit m q.1) := rfl
    rw [h1]
    cases hb : bit m q.1 with
    | true =>
      show p ∈ restP m l ↔ _
      rw [restP_mem]
      constructor
      · rintro ⟨h2, h3⟩; exact ⟨by simp [h2], h3⟩
      · rintro ⟨h2, h3⟩
        rcases List.mem_cons.1 h2 with rfl | h2
        · rw [hb] at h3; cases h3
        · exact ⟨h2, h3⟩
    | false =>
      show p ∈ q :: restP m l ↔ _
      rw [List.mem_cons, restP_mem, List.mem_cons]
      constructor
      · rintro (rfl | ⟨h2, h3⟩)
        · exact ⟨.inl rfl, hb⟩
        · exact ⟨.inr h2, h3⟩
      · rintro ⟨rfl | h2, h3⟩
        · exact .inl rfl
        · exact .inr ⟨h2, h3⟩
theorem matH_next {N m : Nat} {g : H} : ∀ (l : List (Nat × Blk)), (matH N m l g).next = g.next
  | [] => rfl
  | q :: l => by
    have h1 : matH N m (q :: l) g = @Bool.rec (fun _ => H) (matH N m l g) ((matH N m l g).put (N + q.1) q.2) (bit m q.1) := rfl
    rw [h1]
    cases bit m q.1 with
    | true => exact matH_next l
    | false => exact matH_next l
theorem matH_asm {N m : Nat} {g : H} : ∀ (l : List (Nat × Blk)), (matH N m l g).asm = g.asm
  | [] => rfl
  | q :: l => by
    have h1 : matH N m (q :: l) g = @Bool.rec (fun _ => H) (matH N m l g) ((matH N m l g).put (N + q.1) q.2) (bit m q.1) := rfl
    rw [h1]
    cases bit m q.1 with
    | true => exact matH_asm l
    | false => exact matH_asm l
theorem allH_asm {N : Nat} {g : H} : ∀ (l : List (Nat × Blk)), (allH N l g).asm = g.asm
  | [] => rfl
  | q :: l => allH_asm l
theorem matH_get {N m : Nat} {g : H} : ∀ (l : List (Nat × Blk)), (∀ p q, p ∈ l → q ∈ l → p.1 = q.1 → p = q) →
    (∀ p ∈ l, bit m p.1 = true → (matH N m l g).m.get (N + p.1) = some p.2) ∧ ∀ id, (∀ p ∈ l, bit m p.1 = true → id ≠ N + p.1) → (matH N m l g).m.get id = g.m.get id
  | [], _ => ⟨by simp, fun id _ => rfl⟩
  | q :: l, hu => by
    obtain ⟨ih1, ih2⟩ := matH_get (g := g) (N := N) (m := m) l (fun p q hp hq => hu p q (by simp [hp]) (by simp [hq]))
    have h1 : matH N m (q :: l) g = @Bool.rec (fun _ => H) (matH N m l g) ((matH N m l g).put (N + q.1) q.2) (bit m q.1) := rfl
    rw [h1]
    cases hb : bit m q.1 with
    | false =>
      refine ⟨fun p hp hbp => ?_, fun id hid => ih2 id (fun p hp => hid p (by simp [hp]))⟩
      rcases List.mem_cons.1 hp with rfl | hp
      · rw [hb] at hbp; cases hbp
      · exact ih1 p hp hbp
    | true =>
      have hput : ∀ id, ((matH N m l g).put (N + q.1) q.2).m.get id = if id = N + q.1 then some q.2 else (matH N m l g).m.get id := fun id => get_put _ _ _ _
      refine ⟨fun p hp hbp => ?_, fun id hid => ?_⟩
      · show ((matH N m l g).put (N + q.1) q.2).m.get (N + p.1) = _
        rw [hput]
        by_cases he : N + p.1 = N + q.1
        · rw [if_pos he]
          have := hu p q hp (by simp) (by omega)
          rw [this]
        · rw [if_neg he]
          rcases List.mem_cons.1 hp with rfl | hp
          · exact absurd rfl he
          · exact ih1 p hp hbp
      · show ((matH N m l g).put (N + q.1) q.2).m.get id = _
        rw [hput, if_neg (hid q (by simp) hb)]
        exact ih2 id (fun p hp => hid p (by simp [hp]))
theorem allH_next {N : Nat} {g : H} : ∀ (l : List (Nat × Blk)), (allH N l g).next = g.next
  | [] => rfl
  | q :: l => allH_next l
theorem allH_get {N : Nat} {g : H} : ∀ (l : List (Nat × Blk)), (∀ p q, p ∈ l → q ∈ l → p.1 = q.1 → p = q) →
    (∀ p ∈ l, (allH N l g).m.get (N + p.1) = some p.2) ∧ ∀ id, (∀ p ∈ l, id ≠ N + p.1) → (allH N l g).m.get id = g.m.get id
  | [], _ => ⟨by simp, fun id _ => rfl⟩
  | q :: l, hu => by
    obtain ⟨ih1, ih2⟩ := allH_get (g := g) (N := N) l (fun p q hp hq => hu p q (by simp [hp]) (by simp [hq]))
    have hput : ∀ id, (allH N (q :: l) g).m.get id = if id = N + q.1 then some q.2 else (allH N l g).m.get id := fun id => get_put _ _ _ _
    refine ⟨fun p hp => ?_, fun id hid => ?_⟩
    · rw [hput]
      by_cases he : N + p.1 = N + q.1
      · rw [if_pos he]
        have := hu p q hp (by simp) (by omega)
        rw [this]
      · rw [if_neg he]
        rcases List.mem_cons.1 hp with rfl | hp
        · exact absurd rfl he
        · exact ih1 p hp
    · rw [hput, if_neg (hid q (by simp))]
      exact ih2 id (fun p hp => hid p (by simp [hp]))
theorem xsBefore_mem {m : Nat} : ∀ {l : List XR}, xsBefore m l = true → ∀ x ∈ l, bit m x.i = true
  | [], _, x, hx => by cases hx
  | y :: l, hb, x, hx => by
    have h1 : @Bool.rec (fun _ => Bool) false (xsBefore m l) (bit m y.i) = true := hb
    cases hy : bit m y.i with
    | false => rw [hy] at h1; cases h1
    | true =>
      rw [hy] at h1
      rcases List.mem_cons.1 hx with rfl | hx
      · exact hy
      · exact xsBefore_mem h1 x hx
theorem mayStand_true {r : LR} {c : Nat} : ∀ {l : List XR}, (∀ y ∈ l, (y.i < c → bit y.m r.i = false) ∧ (¬ y.i < c → bit r.m y.i = false)) → mayStand l r c = true
  | [], _ => rfl
  | y :: l, hy => by
    have h1 : mayStand (y :: l) r c = @Bool.rec (fun _ => Bool) (@Bool.rec (fun _ => Bool) (mayStand l r c) false (bit r.m y.i)) (@Bool.rec (fun _ => Bool) (mayStand l r c) false (bit y.m r.i)) (Nat.blt y.i c) := rfl
    have ih := mayStand_true (r := r) (c := c) (l := l) (fun z hz => hy z (by simp [hz]))
    obtain ⟨q1, q2⟩ := hy y (by simp)
    rw [h1]
    cases hb : Nat.blt y.i c with
    | true => rw [q1 (Nat.blt_eq.mp hb)]; exact ih
    | false => rw [q2 (fun hlt => by rw [Nat.blt_eq.mpr hlt] at hb; cases hb)]; exact ih
theorem readsSame_some {xs : List XR} {r : LR} {c : Nat} {g : H} (hr : readsSame P xs r c g = true) (hm : mayStand xs r c = true) : ∃ g', valD P r.tm g r.op = some (r.v, g') := by
  have h1 : @Bool.rec (fun _ => Bool) true (@Option.rec (IV × H) (fun _ => Bool) false (fun x => eqIV r.v x.1) (valD P r.tm g r.op)) (mayStand xs r c) = true := hr
  rw [hm] at h1
  cases hv : valD P r.tm g r.op with
  | none => rw [hv] at h1; cases h1
  | some x =>
    rw [hv] at h1
    have := eqIV_eq _ _ h1
    exact ⟨x.2, by rw [this]⟩
theorem allStages_mem {xs0 : List XR} {r : LR} : ∀ {l : List XR}, allStages P xs0 r l = true → ∀ x ∈ l, readsSame P xs0 r (x.i + 1) x.g = true
  | [], _, x, hx => by cases hx
  | y :: l, hb, x, hx => by
    have h1 : @Bool.rec (fun _ => Bool) false (allStages P xs0 r l) (readsSame P xs0 r (y.i + 1) y.g) = true := hb
    cases hy : readsSame P xs0 r (y.i + 1) y.g with
    | false => rw [hy] at h1; cases h1
    | true =>
      rw [hy] at h1
      rcases List.mem_cons.1 hx with rfl | hx
      · exact hy
      · exact allStages_mem h1 x hx
theorem allReads_mem {xs : List XR} {g0 : H} : ∀ {l : List LR}, allReads P xs g0 l = true → ∀ r ∈ l, readsSame P xs r 0 g0 = true ∧ ∀ x ∈ xs, readsSame P xs r (x.i + 1) x.g = true
  | [], _, r, hr => by cases hr
  | y :: l, hb, r, hr => by
    have h1 : @Bool.rec (fun _ => Bool) false (@Bool.rec (fun _ => Bool) false (allReads P xs g0 l) (allStages P xs y xs)) (readsSame P xs y 0 g0) = true := hb
    cases h2 : readsSame P xs y 0 g0 with
    | false => rw [h2] at h1; cases h1
    | true =>
      cases h3 : allStages P xs y xs with
      | false => rw [h2, h3] at h1; cases h1
      | true =>
        rw [h2, h3] at h1
        rcases List.mem_cons.1 hr with rfl | hr
        · exact ⟨h2, allStages_mem h3⟩
        · exact allReads_mem h1 r hr
end
end Go.Den

/- D20 -/
set_option linter.unusedVariables false
set_option linter.unusedSimpArgs false
set_option linter.unusedSectionVars false
namespace Go.Den
variable [Interp]
/-- What is asked of a region whose order is drawn, once and for all. -/
structure DrawnOK (ops : Array Oper) : Prop where
  edges : ∀ (j : Nat) (o : Oper), ops.toList[j]? = some o → ∀ e ∈ o.after, Region.binds .any e = true → e.on < j
  apart : ∀ (i j : Nat) (oi oj : Oper), i < j → ops.toList[i]? = some oi → ops.toList[j]? = some oj → bit (msk ops.toList j) i = true ∨ oi.apart ops oj = true

section
variable (P : Program) (call : CallFn) (sz N : Nat) (A : Asm) (ops : Array Oper) (S : Nat → DS)
def IsX (i : Nat) : Prop := ∃ o, ops.toList[i]? = some o ∧ wantedD (S i).tm ops o = some true ∧ cls P o.op = .x
def IsA (i : Nat) (b : Blk) : Prop := ∃ o v g, ops.toList[i]? = some o ∧ wantedD (S i).tm ops o = some true ∧ cls P o.op = .a ∧ valD P (S i).tm ⟨N + i, .nil, A⟩ o.op = some (v, g) ∧ g.m.get (N + i) = some b
/-- The last of D that writes t wrote v (or nobody did, and v was there). -/
def Has (val : Nat → IV) (tm0 : Tm) (D : Nat → Prop) (t : Nat) (v : IV) : Prop :=
  (∃ i o, ops.toList[i]? = some o ∧ D i ∧ o.dst = some t ∧ v = val i ∧ ∀ j o', ops.toList[j]? = some o' → D j → o'.dst = some t → j ≤ i) ∨
  ((∀ j o', ops.toList[j]? = some o' → D j → o'.dst ≠ some t) ∧ tm0.get t = some v)
structure TextRun (val : Nat → IV) (tm0 : Tm) (g0 : H) : Prop where
  start : S 0 = ⟨tm0, g0, .nil, [], [], []⟩
  acc : ∀ i o, ops.toList[i]? = some o → (S (i + 1)).acc = (S i).acc.put i (maskL (S i).acc o.after.toList)
  fact : ∀ i o, ops.toList[i]? = some o → StepFact P call sz N A ops i o (S i) (S (i + 1)) (val i)
end
section
variable {P : Program} {call : CallFn} {sz N : Nat} {A : Asm} {ops : Array Oper} {S : Nat → DS} {val : Nat → IV} {tm0 : Tm} {g0 : H}

theorem TextRun.masks (R : TextRun P call sz N A ops S val tm0 g0) : ∀ i, i ≤ ops.toList.length → (S i).acc = accN ops.toList i
  | 0, _ => by rw [R.start]; rfl
  | i + 1, hi => by
    have hL : ops.toList[i]? = some ops.toList[i] := List.getElem?_eq_getElem (by omega)
    rw [R.acc i _ hL, R.masks i (by omega)]
    simp only [accN, hL]
theorem TextRun.mask (R : TextRun P call sz N A ops S val tm0 g0) {i : Nat} {o : Oper} (hL : ops.toList[i]? = some o) : maskL (S i).acc o.after.toList = msk ops.toList i := by
  have hi := (List.getElem?_eq_some_iff.1 hL).1
  rw [R.masks i (by omega)]
  simp only [msk, hL]
theorem mask_lt (hO : DrawnOK ops) {i j : Nat} (hb : bit (msk ops.toList j) i = true) : i < j :=
  mask_closed (L := ops.toList) (D := fun k => k < j) (fun k o hk hkj e he hbd => by have := hO.edges k o hk e he hbd; omega) (j + 1) j (by omega) (fun o ho e he hbd => hO.edges j o ho e he hbd) i hb
theorem IsX.lt {i : Nat} (h : IsX P ops S i) : i < ops.toList.length := by obtain ⟨o, h1, _⟩ := h; exact (List.getElem?_eq_some_iff.1 h1).1
theorem IsA.lt {i : Nat} {b : Blk} (h : IsA P N A ops S i b) : i < ops.toList.length := by obtain ⟨o, v, g, h1, _⟩ := h; exact (List.getElem?_eq_some_iff.1 h1).1
theorem IsA.not_X {i : Nat} {b : Blk} (h : IsA P N A ops S i b) : ¬ IsX P ops S i := by
  obtain ⟨o, v, g, h1, h2, h3, _⟩ := h
  rintro ⟨o', h4, h5, h6⟩
  rw [h1] at h4; cases h4
  rw [h3] at h6; cases h6
theorem IsA.fn {i : Nat} {b b' : Blk} (h : IsA P N A ops S i b) (h' : IsA P N A ops S i b') : b = b' := by
  obtain ⟨o, v, g, h1, h2, h3, h4, h5⟩ := h
  obtain ⟨o', v', g', h1', h2', h3', h4', h5'⟩ := h'
  rw [h1] at h1'; cases h1'
  rw [h4] at h4'; cases h4'
  rw [h5] at h5'; cases h5'; rfl
theorem TextRun.xs (R : TextRun P call sz N A ops S val tm0 g0) : ∀ i, i ≤ ops.toList.length → ∀ x, x ∈ (S i).xs ↔ ∃ j, j < i ∧ IsX P ops S j ∧ x = ⟨j, msk ops.toList j, (S (j + 1)).g⟩
  | 0, _, x => by rw [R.start]; simp
  | i + 1, hi, x => by
    have hL : ops.toList[i]? = some ops.toList[i] := List.getElem?_eq_getElem (by omega)
    have ih := R.xs i (by omega) x
    have same : (S (i + 1)).xs = (S i).xs → ¬ IsX P ops S i → (x ∈ (S (i + 1)).xs ↔ ∃ j, j < i + 1 ∧ IsX P ops S j ∧ x = ⟨j, msk ops.toList j, (S (j + 1)).g⟩) := by
      intro he hn
      rw [he, ih]
      constructor
      · rintro ⟨j, h1, h2⟩; exact ⟨j, by omega, h2⟩
      · rintro ⟨j, h1, h2, h3⟩
        refine ⟨j, ?_, h2, h3⟩
        rcases Nat.lt_or_ge j i with h | h
        · exact h
        · have : j = i := by omega
          subst this; exact absurd h2 hn
    have hfct := R.fact i _ hL
    generalize val i = vvv at hfct
    cases hfct with
    | skip hw hp hg hpe hx hl => exact same hx (fun ⟨o, h1, h2, h3⟩ => by rw [hL] at h1; cases h1; rw [hw] at h2; cases h2)
    | p hw hc v g hv hp hg hpe hx hl => exact same hx (fun ⟨o, h1, h2, h3⟩ => by rw [hL] at h1; cases h1; rw [hc] at h3; cases h3)
    | l hw hc v g hv hp hg hpe hx hl => exact same hx (fun ⟨o, h1, h2, h3⟩ => by rw [hL] at h1; cases h1; rw [hc] at h3; cases h3)
    | a hw hc v g b hv hb hp hg hpe hx hl => exact same hx (fun ⟨o, h1, h2, h3⟩ => by rw [hL] at h1; cases h1; rw [hc] at h3; cases h3)
    | x hw hc v hb hv hp hpe hx hl =>
      rw [hx, List.mem_cons, ih, R.mask hL]
      constructor
      · rintro (rfl | ⟨j, h1, h2⟩)
        · exact ⟨i, by omega, ⟨_, hL, hw, hc⟩, rfl⟩
        · exact ⟨j, by omega, h2⟩
      · rintro ⟨j, h1, h2, h3⟩
        rcases Nat.lt_or_ge j i with h | h
        · exact .inr ⟨j, h, h2, h3⟩
        · have : j = i := by omega
          subst this; exact .inl h3
/-- Of two acts the earlier is before the later. -/
theorem TextRun.order (R : TextRun P call sz N A ops S val tm0 g0) {x y : Nat} (hx : IsX P ops S x) (hy : IsX P ops S y) (hlt : x < y) : bit (msk ops.toList y) x = true := by
  have hy' := hy
  obtain ⟨o, hL, hw, hc⟩ := hy
  have hmem := (R.xs y (by have := hy'.lt; omega) ⟨x, msk ops.toList x, (S (x + 1)).g⟩).2 ⟨x, hlt, hx, rfl⟩
  have hfct := R.fact y o hL
  generalize val y = vvv at hfct
  cases hfct with
  | skip hw' => rw [hw] at hw'; cases hw'
  | p hw' hc' => rw [hc] at hc'; cases hc'
  | l hw' hc' => rw [hc] at hc'; cases hc'
  | a hw' hc' => rw [hc] at hc'; cases hc'
  | x hw' hc' v hb hv =>
    rw [R.mask hL] at hb
    exact xsBefore_mem hb _ hmem
theorem TextRun.pend (R : TextRun P call sz N A ops S val tm0 g0) (hO : DrawnOK ops) : ∀ i, i ≤ ops.toList.length → ∀ j b, (j, b) ∈ (S i).pend ↔ j < i ∧ IsA P N A ops S j b ∧ ∀ y, y < i → IsX P ops S y → bit (msk ops.toList y) j = false
  | 0, _, j, b => by rw [R.start]; simp
  | i + 1, hi, j, b => by
    have hL : ops.toList[i]? = some ops.toList[i] := List.getElem?_eq_getElem (by omega)
    have ih := R.pend hO i (by omega) j b
    have same : (S (i + 1)).pend = (S i).pend → ¬ IsX P ops S i → (∀ b, ¬ IsA P N A ops S i b) → ((j, b) ∈ (S (i + 1)).pend ↔ j < i + 1 ∧ IsA P N A ops S j b ∧ ∀ y, y < i + 1 → IsX P ops S y → bit (msk ops.toList y) j = false) := by
      intro he hn hna
      rw [he, ih]
      constructor
      · rintro ⟨h1, h2, h3⟩
        refine ⟨by omega, h2, fun y hy hX => ?_⟩
        rcases Nat.lt_or_ge y i with h | h
        · exact h3 y h hX
        · have : y = i := by omega
          subst this; exact absurd hX hn
      · rintro ⟨h1, h2, h3⟩
        refine ⟨?_, h2, fun y hy hX => h3 y (by omega) hX⟩
        rcases Nat.lt_or_ge j i with h | h
        · exact h
        · have : j = i := by omega
          subst this; exact absurd h2 (hna b)
    have hfct := R.fact i _ hL
    generalize val i = vvv at hfct
    cases hfct with
    | skip hw hp hg hpe hx hl => exact same hpe (fun ⟨o, h1, h2, h3⟩ => by rw [hL] at h1; cases h1; rw [hw] at h2; cases h2) (fun b ⟨o, v, g, h1, h2, h3⟩ => by rw [hL] at h1; cases h1; rw [hw] at h2; cases h2)
    | p hw hc v g hv hp hg hpe hx hl => exact same hpe (fun ⟨o, h1, h2, h3⟩ => by rw [hL] at h1; cases h1; rw [hc] at h3; cases h3) (fun b ⟨o, v, g, h1, h2, h3, _⟩ => by rw [hL] at h1; cases h1; rw [hc] at h3; cases h3)
    | l hw hc v g hv hp hg hpe hx hl => exact same hpe (fun ⟨o, h1, h2, h3⟩ => by rw [hL] at h1; cases h1; rw [hc] at h3; cases h3) (fun b ⟨o, v, g, h1, h2, h3, _⟩ => by rw [hL] at h1; cases h1; rw [hc] at h3; cases h3)
    | a hw hc v g b' hv hb hp hg hpe hx hl =>
      have hA : IsA P N A ops S i b' := ⟨_, _, _, hL, hw, hc, hv, hb⟩
      rw [hpe, List.mem_cons, ih]
      constructor
      · rintro (h | ⟨h1, h2, h3⟩)
        · simp only [Prod.mk.injEq] at h
          obtain ⟨rfl, rfl⟩ := h
          refine ⟨by omega, hA, fun y hy hX => ?_⟩
          cases hbt : bit (msk ops.toList y) j with
          | false => rfl
          | true =>
            have := mask_lt hO hbt
            omega
        · refine ⟨by omega, h2, fun y hy hX => ?_⟩
          rcases Nat.lt_or_ge y i with h | h
          · exact h3 y h hX
          · have : y = i := by omega
            subst this; exact absurd hX hA.not_X
      · rintro ⟨h1, h2, h3⟩
        rcases Nat.lt_or_ge j i with h | h
        · exact .inr ⟨h, h2, fun y hy hX => h3 y (by omega) hX⟩
        · have : j = i := by omega
          subst this
          exact .inl (by rw [h2.fn hA])
    | x hw hc v hb hv hp hpe hx hl =>
      rw [hpe, restP_mem, ih, R.mask hL]
      constructor
      · rintro ⟨⟨h1, h2, h3⟩, h4⟩
        refine ⟨by omega, h2, fun y hy hX => ?_⟩
        rcases Nat.lt_or_ge y i with h | h
        · exact h3 y h hX
        · have : y = i := by omega
          subst this; exact h4
      · rintro ⟨h1, h2, h3⟩
        have hX : IsX P ops S i := ⟨_, hL, hw, hc⟩
        refine ⟨⟨?_, h2, fun y hy hX => h3 y (by omega) hX⟩, h3 i (by omega) hX⟩
        rcases Nat.lt_or_ge j i with h | h
        · exact h
        · have : j = i := by omega
          subst this; exact absurd hX h2.not_X
theorem TextRun.reads (R : TextRun P call sz N A ops S val tm0 g0) : ∀ i, i ≤ ops.toList.length → ∀ j o, j < i → ops.toList[j]? = some o → wantedD (S j).tm ops o = some true → cls P o.op = .l → ⟨j, msk ops.toList j, (S j).tm, o.op, val j⟩ ∈ (S i).ls
  | 0, _, j, o, hj, _, _, _ => by omega
  | i + 1, hi, j, o, hj, hLj, hwj, hcj => by
    have hL : ops.toList[i]? = some ops.toList[i] := List.getElem?_eq_getElem (by omega)
    have ih := R.reads i (by omega) j o
    have hsub : (∀ x ∈ (S i).ls, x ∈ (S (i + 1)).ls) → j < i → ⟨j, msk ops.toList j, (S j).tm, o.op, val j⟩ ∈ (S (i + 1)).ls := fun hs hji => hs _ (ih hji hLj hwj hcj)
    have hf := R.fact i _ hL
    rcases Nat.lt_or_ge j i with h | h
    · refine hsub (fun x hx => ?_) h
      generalize val i = vvv at hf
      cases hf with
      | skip hw hp hg hpe hxx hl => rw [hl]; exact hx
      | p hw hc v g hv hp hg hpe hxx hl => rw [hl]; exact hx
      | l hw hc v g hv hp hg hpe hxx hl => rw [hl]; exact List.mem_cons_of_mem _ hx
      | a hw hc v g b hv hb hp hg hpe hxx hl => rw [hl]; exact hx
      | x hw hc v hb hv hp hpe hxx hl => rw [hl]; exact hx
    · have : j = i := by omega
      subst this
      rw [hL] at hLj; cases hLj
      generalize hvv : val j = vv at hf
      cases hf with
      | skip hw => rw [hw] at hwj; cases hwj
      | p hw hc => rw [hc] at hcj; cases hcj
      | l hw hc v g hv hp hg hpe hxx hl => rw [hl, R.mask hL]; exact List.mem_cons_self
      | a hw hc => rw [hc] at hcj; cases hcj
      | x hw hc => rw [hc] at hcj; cases hcj
/-- Where nobody acts memory stands. -/
theorem TextRun.still (R : TextRun P call sz N A ops S val tm0 g0) {i j : Nat} (hij : i ≤ j) (hj : j ≤ ops.toList.length) (hno : ∀ x, i ≤ x → x < j → ¬ IsX P ops S x) : (S j).g = (S i).g := by
  induction j with
  | zero => have : i = 0 := by omega
            rw [this]
  | succ j ih =>
    rcases Nat.lt_or_ge j i with h | h
    · have : i = j + 1 := by omega
      rw [this]
    · have hL : ops.toList[j]? = some ops.toList[j] := List.getElem?_eq_getElem (by omega)
      rw [← ih h (by omega) (fun x h1 h2 => hno x h1 (by omega))]
      have hfct := R.fact j _ hL
      generalize val j = vvv at hfct
      cases hfct with
      | skip hw hp hg => exact hg
      | p hw hc v g hv hp hg => exact hg
      | l hw hc v g hv hp hg => exact hg
      | a hw hc v g b hv hb hp hg => exact hg
      | x hw hc => exact absurd ⟨_, hL, hw, hc⟩ (hno j h (by omega))
theorem StepFact.puts {i : Nat} {o : Oper} {s s' : DS} {v : IV} (hf : StepFact P call sz N A ops i o s s' v) : putD s.tm sz o.dst v = some s'.tm := by
  cases hf <;> assumption
theorem putD_get {tm tm' : Tm} {d : Option Tmp} {v : IV} (hp : putD tm sz d v = some tm') (t : Nat) : tm'.get t = if d = some t then some v else tm.get t := by
  cases d with
  | none => cases hp; rfl
  | some x =>
    have hp' : @Bool.rec (fun _ => Option Tm) none (some (tm.put x v)) (Nat.blt x sz) = some tm' := hp
    cases hb : Nat.blt x sz with
    | false => rw [hb] at hp'; cases hp'
    | true =>
      rw [hb] at hp'
      cases hp'
      rw [get_put]
      by_cases h : t = x
      · subst h; simp
      · rw [if_neg h, if_neg (by simp; exact fun he => h he.symm)]
theorem TextRun.has (R : TextRun P call sz N A ops S val tm0 g0) : ∀ i, i ≤ ops.toList.length → ∀ t v, (S i).tm.get t = some v → Has ops val tm0 (fun j => j < i) t v
  | 0, _, t, v, h => by rw [R.start] at h; exact .inr ⟨fun j o' _ hj => by omega, h⟩
  | i + 1, hi, t, v, h => by
    have hL : ops.toList[i]? = some ops.toList[i] := List.getElem?_eq_getElem (by omega)
    rw [putD_get (R.fact i _ hL).puts t] at h
    by_cases hd : (ops.toList[i]).dst = some t
    · rw [if_pos hd] at h
      cases h
      exact .inl ⟨i, _, hL, by omega, hd, rfl, fun j o' _ hj _ => by omega⟩
    · rw [if_neg hd] at h
      rcases R.has i (by omega) t v h with ⟨k, o, h1, h2, h3, h4, h5⟩ | ⟨h1, h2⟩
      · refine .inl ⟨k, o, h1, by omega, h3, h4, fun j o' hj hji hjd => ?_⟩
        rcases Nat.lt_or_ge j i with hh | hh
        · exact h5 j o' hj hh hjd
        · have : j = i := by omega
          subst this
          rw [hL] at hj; cases hj
          exact absurd hjd hd
      · refine .inr ⟨fun j o' hj hji hjd => ?_, h2⟩
        rcases Nat.lt_or_ge j i with hh | hh
        · exact h1 j o' hj hh hjd
        · have : j = i := by omega
          subst this
          rw [hL] at hj; cases hj
          exact hd hjd
/-- the temporaries that an operation looks at -/
noncomputable def restT (tm : Tm) : List Operand → Tm
  | [] => .nil
  | .tmp t :: l => match tm.get t with
    | some v => (restT tm l).put t v
    | none => restT tm l
  | _ :: l => restT tm l
theorem restT_some {tm : Tm} : ∀ {l : List Operand} {t : Nat} {v : IV}, (restT tm l).get t = some v → Operand.tmp t ∈ l ∧ tm.get t = some v
  | [], t, v, h => by simp only [restT] at h; rw [get_nil] at h; cases h
  | .tmp x :: l, t, v, h => by
    simp only [restT] at h
    split at h
    · rename_i u hu
      rw [get_put] at h
      by_cases he : t = x
      · subst he; rw [if_pos rfl] at h; cases h; exact ⟨by simp, hu⟩
      · rw [if_neg he] at h
        have := restT_some h
        exact ⟨by simp [this.1], this.2⟩
    · have := restT_some h
      exact ⟨by simp [this.1], this.2⟩
  | .const x :: l, t, v, h => by have := restT_some (l := l) h; exact ⟨by simp [this.1], this.2⟩
  | .global x :: l, t, v, h => by have := restT_some (l := l) h; exact ⟨by simp [this.1], this.2⟩
  | .func x :: l, t, v, h => by have := restT_some (l := l) h; exact ⟨by simp [this.1], this.2⟩
theorem restT_get {tm : Tm} : ∀ {l : List Operand} {t : Nat}, Operand.tmp t ∈ l → (restT tm l).get t = tm.get t
  | [], t, h => by cases h
  | .tmp x :: l, t, h => by
    simp only [restT]
    by_cases he : t = x
    · subst he
      split
      · rename_i u hu; rw [get_put, if_pos rfl, hu]
      · rename_i hu
        rw [hu]
        cases hr : (restT tm l).get t with
        | none => rfl
        | some v => have := (restT_some hr).2; rw [hu] at this; cases this
    · have hm : Operand.tmp t ∈ l := by
        rcases List.mem_cons.1 h with h | h
        · cases h; exact absurd rfl he
        · exact h
      split
      · rw [get_put, if_neg he]; exact restT_get hm
      · exact restT_get hm
  | .const x :: l, t, h => by
    have hm : Operand.tmp t ∈ l := by rcases List.mem_cons.1 h with h | h; cases h; exact h
    exact restT_get (l := l) hm
  | .global x :: l, t, h => by
    have hm : Operand.tmp t ∈ l := by rcases List.mem_cons.1 h with h | h; cases h; exact h
    exact restT_get (l := l) hm
  | .func x :: l, t, h => by
    have hm : Operand.tmp t ∈ l := by rcases List.mem_cons.1 h with h | h; cases h; exact h
    exact restT_get (l := l) hm
theorem ev_restT {tm : Tm} {l : List Operand} {x : Operand} (hx : x ∈ l) : ev P tm x = ev P (restT tm l) x := by
  cases x with
  | tmp t => exact (restT_get hx).symm
  | _ => rfl
/-- memory with some blocks more -/
theorem exists_heap (g : H) (N : Nat) (R : Nat → Blk → Prop) (hf : ∀ j b b', R j b → R j b' → b = b') : ∀ n, ∃ G : H, G.next = g.next ∧ G.asm = g.asm ∧ (∀ j b, j < n → R j b → G.m.get (N + j) = some b) ∧ ∀ id, (∀ j b, j < n → R j b → id ≠ N + j) → G.m.get id = g.m.get id
  | 0 => ⟨g, rfl, rfl, fun j b hj => by omega, fun id _ => rfl⟩
  | n + 1 => by
    obtain ⟨G, h1, h1a, h2, h3⟩ := exists_heap g N R hf n
    by_cases hn : ∃ b, R n b
    · obtain ⟨b, hb⟩ := hn
      have hput : ∀ id, (G.put (N + n) b).m.get id = if id = N + n then some b else G.m.get id := fun id => get_put _ _ _ _
      refine ⟨G.put (N + n) b, h1, h1a, fun j b' hj hR => ?_, fun id hid => ?_⟩
      · rw [hput]
        by_cases he : N + j = N + n
        · rw [if_pos he]
          have : j = n := by omega
          subst this
          rw [hf j b b' hb hR]
        · rw [if_neg he]; exact h2 j b' (by omega) hR
      · rw [hput, if_neg (hid n b (by omega) hb)]
        exact h3 id (fun j b' hj hR => hid j b' (by omega) hR)
    · refine ⟨G, h1, h1a, fun j b hj hR => ?_, fun id hid => h3 id (fun j b hj hR => hid j b (by omega) hR)⟩
      refine h2 j b ?_ hR
      rcases Nat.lt_or_ge j n with h | h
      · exact h
      · have : j = n := by omega
        subst this; exact absurd ⟨b, hR⟩ hn
end
end Go.Den

/- D21 -/
set_option linter.unusedVariables false
set_option linter.unusedSimpArgs false
set_option linter.unusedSectionVars false
namespace Go.Den
variable [Interp]
section
variable (P : Program) (call : CallFn) (sz : Nat) (ops : Array Oper) (S : Nat → DS) (val : Nat → IV) (tm0 : Tm)
/-- What holds where D has been done, in whatever order. -/
def Inv (e0 : Env) (h0 : H) (w0 : World) (d0 : List Deferred) (D : Nat → Prop) (a : Act) (w : World) : Prop :=
  ∃ (e : Env) (c : Nat) (G : H), c ≤ ops.toList.length ∧ (∀ x, IsX P ops S x → (x < c ↔ D x)) ∧ (G.next = (S c).g.next ∧ G.asm = (S c).g.asm) ∧ h0.next + ops.toList.length ≤ G.next ∧
    (∀ j b, IsA P h0.next h0.asm ops S j b → D j → (∀ y, y < c → IsX P ops S y → bit (msk ops.toList y) j = false) → G.m.get (h0.next + j) = some b ∧ (S c).g.m.get (h0.next + j) = none) ∧
    (∀ id, (∀ j b, IsA P h0.next h0.asm ops S j b → D j → (∀ y, y < c → IsX P ops S y → bit (msk ops.toList y) j = false) → id ≠ h0.next + j) → G.m.get id = (S c).g.m.get id) ∧
    Step P e0 h0 w0 e G w ∧ (∀ j b, IsA P h0.next h0.asm ops S j b → ¬ D j → e (h0.next + j) = none) ∧
    (∀ t v, Has ops val tm0 D t v → ∃ V, conc e v = some V ∧ a.tmps[t]? = some V) ∧ a.tmps.size = sz ∧ a.defers = d0
end
section
variable {P : Program} {call : CallFn} {sz : Nat} {ops : Array Oper} {S : Nat → DS} {val : Nat → IV} {tm0 : Tm} {g0 : H} {e0 : Env} {h0 : H} {w0 : World} {d0 : List Deferred} {Q : Exit → Act → World → Prop}

/-- the temporaries behind one operation more -/
theorem has_step (hO : DrawnOK ops) {D : Nat → Prop} (hcl : ∀ j, D j → ∀ i, bit (msk ops.toList j) i = true → D i) {i : Nat} {o : Oper} (hL : ops.toList[i]? = some o) (hni : ¬ D i) {e e' : Env} {a : Act} {V : Value} (hle : e.le e') (hV : conc e' (val i) = some V)
    (hsz : a.tmps.size = sz) {tm tm' : Tm} (hp : putD tm sz o.dst (val i) = some tm')
    (ht : ∀ t v, Has ops val tm0 D t v → ∃ V, conc e v = some V ∧ a.tmps[t]? = some V) :
    ∀ t v, Has ops val tm0 (fun j => D j ∨ j = i) t v → ∃ U, conc e' v = some U ∧ (a.put o.dst V).tmps[t]? = some U := by
  intro t v hh
  have hlt : ∀ d, o.dst = some d → d < sz := by
    intro d hd
    rw [hd] at hp
    have hp' : @Bool.rec (fun _ => Option Tm) none (some (tm.put d (val i))) (Nat.blt d sz) = some tm' := hp
    cases hb : Nat.blt d sz with
    | false => rw [hb] at hp'; cases hp'
    | true => exact Nat.blt_eq.mp hb
  -- nobody of D behind i writes what i writes
  have hno : ∀ j o', ops.toList[j]? = some o' → D j → o.dst = some t → o'.dst = some t → j < i := by
    intro j o' hj hD hd hd'
    rcases Nat.lt_trichotomy j i with h | h | h
    · exact h
    · subst h; exact absurd hD hni
    · rcases hO.apart i j o o' h hL hj with hb | hap
      · exact absurd (hcl j hD i hb) hni
      · exact absurd hd' ((Oper.apart_spec hap).2.1 t hd)
  have hset : o.dst = some t → (a.put o.dst V).tmps[t]? = some V := by
    intro hd
    rw [hd]
    have := hlt t hd
    simp [Act.put, hsz, this]
  have hother : o.dst ≠ some t → (a.put o.dst V).tmps[t]? = a.tmps[t]? := by
    intro hd
    cases ho : o.dst with
    | none => rfl
    | some d =>
      rw [ho] at hd
      simp only [Act.put]
      rw [Array.getElem?_setIfInBounds_ne (fun he => hd (by rw [he]))]
  rcases hh with ⟨k, ok, h1, h2, h3, h4, h5⟩ | ⟨h1, h2⟩
  · by_cases hk : k = i
    · subst hk
      rw [hL] at h1; cases h1
      exact ⟨V, by rw [h4]; exact hV, hset h3⟩
    · have hDk : D k := by
        rcases h2 with h | h
        · exact h
        · exact absurd h hk
      by_cases hd : o.dst = some t
      · have := h5 i o hL (.inr rfl) hd
        have := hno k ok h1 hDk hd h3
        omega
      · obtain ⟨U, h6, h7⟩ := ht t v (.inl ⟨k, ok, h1, hDk, h3, h4, fun j o' hj hD hjd => h5 j o' hj (.inl hD) hjd⟩)
        exact ⟨U, conc_mono hle _ h6, by rw [hother hd]; exact h7⟩
  · have hd : o.dst ≠ some t := h1 i o hL (.inr rfl)
    obtain ⟨U, h6, h7⟩ := ht t v (.inr ⟨fun j o' hj hD => h1 j o' hj (.inl hD), h2⟩)
    exact ⟨U, conc_mono hle _ h6, by rw [hother hd]; exact h7⟩
/-- what an operation that may come next looks at is what the text's run looked at -/
theorem has_look (hO : DrawnOK ops) (R : TextRun P call sz h0.next h0.asm ops S val tm0 g0) {D : Nat → Prop} (hDn : ∀ j, D j → j < ops.toList.length) (hcl : ∀ j, D j → ∀ i, bit (msk ops.toList j) i = true → D i) {i : Nat} {o : Oper} (hL : ops.toList[i]? = some o) (hni : ¬ D i)
    (hrd : ∀ j, bit (msk ops.toList i) j = true → D j) {t : Nat} {v : IV} (ht : t ∈ o.looksAt ops) (hv : (S i).tm.get t = some v) : Has ops val tm0 D t v := by
  have hi := (List.getElem?_eq_some_iff.1 hL).1
  have hin : ∀ j o', j < i → ops.toList[j]? = some o' → o'.dst = some t → D j := by
    intro j o' hji hj hd
    rcases hO.apart j i o' o hji hj hL with hb | hap
    · exact hrd j hb
    · exact absurd ht ((Oper.apart_spec hap).1 t hd)
  have hout : ∀ j o', ops.toList[j]? = some o' → D j → o'.dst = some t → j < i := by
    intro j o' hj hD hd
    rcases Nat.lt_trichotomy j i with h | h | h
    · exact h
    · subst h; exact absurd hD hni
    · rcases hO.apart i j o o' h hL hj with hb | hap
      · exact absurd (hcl j hD i hb) hni
      · exact absurd ht ((Oper.apart_spec hap).2.2 t hd)
  rcases R.has i (by omega) t v hv with ⟨k, ok, h1, h2, h3, h4, h5⟩ | ⟨h1, h2⟩
  · exact .inl ⟨k, ok, h1, hin k ok h2 h1 h3, h3, h4, fun j o' hj hD hd => h5 j o' hj (hout j o' hj hD hd) hd⟩
  · exact .inr ⟨fun j o' hj hD hd => h1 j o' hj (hout j o' hj hD hd) hd, h2⟩

theorem drawn_step (hs : Sound P call) (hO : DrawnOK ops) (hA0 : AsmOK h0.asm e0.ρ) (R : TextRun P call sz h0.next h0.asm ops S val tm0 ⟨h0.next + ops.toList.length, h0.m, h0.asm⟩)
    (hall : (S ops.toList.length).xs ≠ [] → allReads P (S ops.toList.length).xs ⟨h0.next + ops.toList.length, h0.m, h0.asm⟩ (S ops.toList.length).ls = true)
    {D : Nat → Prop} (hDn : ∀ j, D j → j < ops.toList.length) (hcl : ∀ j, D j → ∀ i, bit (msk ops.toList j) i = true → D i) {i : Nat} {o : Oper} (hL : ops.toList[i]? = some o) (hni : ¬ D i)
    (hrd : ∀ j, bit (msk ops.toList i) j = true → D j) {a : Act} {w : World} (hI : Inv P sz ops S val tm0 e0 h0 w0 d0 D a w) {K : Act → World → Prop}
    (hK : ∀ a' w', Inv P sz ops S val tm0 e0 h0 w0 d0 (fun j => D j ∨ j = i) a' w' → K a' w') : wpOp P ops Q i K a w := by
  obtain ⟨e, c, G, i1, i2, ⟨i3, i3a⟩, i4, i5, i6, i7, i8, i9, i10, i11⟩ := hI
  have hasm0 : AsmOK h0.asm e.ρ := by rw [i7.le.ρ]; exact hA0
  have hi := (List.getElem?_eq_some_iff.1 hL).1
  have hLa : ops[i]? = some o := by simpa using hL
  -- memory as the stage has it is a part of memory as it is
  have hsub : ∀ id b, (S c).g.m.get id = some b → G.m.get id = some b := by
    intro id b hb
    by_cases hp : ∃ j b', IsA P h0.next h0.asm ops S j b' ∧ D j ∧ (∀ y, y < c → IsX P ops S y → bit (msk ops.toList y) j = false) ∧ id = h0.next + j
    · obtain ⟨j, b', q1, q2, q3, rfl⟩ := hp
      have := (i5 j b' q1 q2 q3).2
      rw [this] at hb; cases hb
    · rw [i6 id (fun j b' q1 q2 q3 he => hp ⟨j, b', q1, q2, q3, he⟩)]; exact hb
  have hrel : Rel P e (S c).g w := i7.rel.sub i3.symm i3a.symm hsub
  have hrel0 : Rel P e ⟨(S c).g.next, (S c).g.m, h0.asm⟩ w := ⟨hrel.dom, hrel.inj, hrel.blk, hrel.glob, hasm0⟩
  -- the operands
  have hlook : ∀ t ∈ o.looksAt ops, ∀ v, (S i).tm.get t = some v → ∃ V, conc e v = some V ∧ a.tmps[t]? = some V := fun t ht v hv => i9 t v (has_look hO R hDn hcl hL hni hrd ht hv)
  have hguard : ∀ j b, o.guard = some (j, b) → ∀ g d, ops[j]? = some g → g.dst = some d → ∀ v, (S i).tm.get d = some v → ∃ V, conc e v = some V ∧ a.tmps[d]? = some V := by
    intro j b hg g d hgj hgd v hv
    refine hlook d ?_ v hv
    unfold Oper.looksAt
    rw [hg]
    simp [hgj, hgd]
  have hR : TmOK e (restT (S i).tm o.op.operands.toList) a.tmps := by
    intro t v hv
    obtain ⟨q1, q2⟩ := restT_some hv
    refine hlook t ?_ v q2
    unfold Oper.looksAt
    exact List.mem_append_left _ (List.mem_filterMap.2 ⟨_, q1, rfl⟩)
  have hcg : ∀ g, opDo P (S i).tm g o.op = opDo P (restT (S i).tm o.op.operands.toList) g o.op := fun g => opDo_congr o.op (fun x hx => ev_restT (Array.mem_toList_iff.2 hx))
  -- where the operation does not act
  have keep : ∀ {V : Value} {tm tm' : Tm}, ¬ IsX P ops S i → (∀ b, ¬ IsA P h0.next h0.asm ops S i b) → conc e (val i) = some V → putD tm sz o.dst (val i) = some tm' → K (a.put o.dst V) w := by
    intro V tm tm' hnX hnA hV hp
    refine hK _ _ ⟨e, c, G, i1, fun x hx => ?_, ⟨i3, i3a⟩, i4, ?_, ?_, i7, fun j b hA hD => i8 j b hA (fun h => hD (.inl h)), has_step hO hcl hL hni (Env.le_refl e) hV i10 hp i9, ?_, ?_⟩
    · rw [i2 x hx]
      constructor
      · exact .inl
      · rintro (h | rfl)
        · exact h
        · exact absurd hx hnX
    · intro j b hA hD hun
      rcases hD with h | rfl
      · exact i5 j b hA h hun
      · exact absurd hA (hnA b)
    · intro id hid
      exact i6 id (fun j b hA hD hun => hid j b hA (.inl hD) hun)
    · cases o.dst <;> simp [Act.put, i10]
    · cases o.dst <;> exact i11
  unfold wpOp
  simp only [hLa]
  have hf := R.fact i o hL
  generalize hvv : val i = vv at hf
  cases hf with
  | skip hw hp hg hpe hx hl =>
    have hww := wantedD_ok hguard hw
    simp only [hww, Bool.false_eq_true, if_false]
    exact keep (V := undef) (fun ⟨o', h1, h2, h3⟩ => by rw [hL] at h1; cases h1; rw [hw] at h2; cases h2) (fun b ⟨o', v', g', h1, h2, _⟩ => by rw [hL] at h1; cases h1; rw [hw] at h2; cases h2) (by rw [hvv]; rfl) (by rw [hvv]; exact hp)
  | p hw hc _ g hv hp hg hpe hx hl =>
    have hww := wantedD_ok hguard hw
    simp only [hww, if_true]
    have h1 := pure_indep o.op hc _ _ _ (valD_some hv) ⟨(S c).g.next, (S c).g.m, h0.asm⟩ rfl
    simp only at h1
    rw [hcg] at h1
    obtain ⟨_, V, h2, h3⟩ := read_ok (.inl hc) hR hrel0 h1
    refine .inl ?_
    unfold Oper.wp; rw [h3]
    exact keep (fun ⟨o', h1, h2, h3⟩ => by rw [hL] at h1; cases h1; rw [hc] at h3; cases h3) (fun b ⟨o', v', g', h1, h2, h3, _⟩ => by rw [hL] at h1; cases h1; rw [hc] at h3; cases h3) (by rw [hvv]; exact h2) (by rw [hvv]; exact hp)
  | l hw hc _ g hv hp hg hpe hx hl =>
    have hww := wantedD_ok hguard hw
    simp only [hww, if_true]
    have key : ∃ g', valD P (S i).tm (S c).g o.op = some (vv, g') := by
      by_cases hnil : (S ops.toList.length).xs = []
      · have hnX : ∀ x, ¬ IsX P ops S x := by
          intro x hX
          have := (R.xs ops.toList.length (Nat.le_refl _) _).2 ⟨x, hX.lt, hX, rfl⟩
          rw [hnil] at this; cases this
        have e1 := R.still (Nat.zero_le i) (by omega) (fun x _ _ => hnX x)
        have e2 := R.still (Nat.zero_le c) i1 (fun x _ _ => hnX x)
        exact ⟨g, by rw [e2, ← e1]; exact hv⟩
      · have hrs := allReads_mem (hall hnil) _ (R.reads ops.toList.length (Nat.le_refl _) i o hi hL hw hc)
        have stands : ∀ c', (∀ x, IsX P ops S x → (x < c' ↔ x < c)) → mayStand (S ops.toList.length).xs ⟨i, msk ops.toList i, (S i).tm, o.op, val i⟩ c' = true := by
          intro c' hcc
          refine mayStand_true (fun y hy => ?_)
          obtain ⟨j, h1, h2, rfl⟩ := (R.xs ops.toList.length (Nat.le_refl _) y).1 hy
          constructor
          · intro hlt
            cases hb : bit (msk ops.toList j) i with
            | false => rfl
            | true => exact absurd (hcl j ((i2 j h2).1 ((hcc j h2).1 hlt)) i hb) hni
          · intro hlt
            cases hb : bit (msk ops.toList i) j with
            | false => rfl
            | true => exact absurd ((hcc j h2).2 ((i2 j h2).2 (hrd j hb))) hlt
        by_cases hex : ∃ x, IsX P ops S x ∧ x < c
        · -- the last act that is done
          have hmax : ∃ x, IsX P ops S x ∧ x < c ∧ ∀ y, IsX P ops S y → y < c → y ≤ x := by
            have : ∀ k, (∃ x, IsX P ops S x ∧ x < c ∧ c - x ≤ k) → ∃ x, IsX P ops S x ∧ x < c ∧ ∀ y, IsX P ops S y → y < c → y ≤ x := by
              intro k
              induction k with
              | zero => rintro ⟨x, h1, h2, h3⟩; omega
              | succ k ih =>
                rintro ⟨x, h1, h2, h3⟩
                by_cases hy : ∃ y, IsX P ops S y ∧ y < c ∧ x < y
                · obtain ⟨y, h4, h5, h6⟩ := hy
                  exact ih ⟨y, h4, h5, by omega⟩
                · exact ⟨x, h1, h2, fun y h4 h5 => by
                    rcases Nat.lt_or_ge x y with h | h
                    · exact absurd ⟨y, h4, h5, h⟩ hy
                    · exact h⟩
            obtain ⟨x, h1, h2⟩ := hex
            exact this (c - x) ⟨x, h1, h2, Nat.le_refl _⟩
          obtain ⟨x, h1, h2, h3⟩ := hmax
          have h4 := hrs.2 _ ((R.xs ops.toList.length (Nat.le_refl _) _).2 ⟨x, h1.lt, h1, rfl⟩)
          have e1 := R.still (i := x + 1) (j := c) (by omega) i1 (fun y q1 q2 hX => by have := h3 y hX q2; omega)
          obtain ⟨g', h5⟩ := readsSame_some h4 (stands (x + 1) (fun y hy => ⟨fun q => by omega, fun q => by have := h3 y hy q; omega⟩))
          exact ⟨g', by rw [e1, ← hvv]; exact h5⟩
        · have e1 := R.still (Nat.zero_le c) i1 (fun x _ q hX => hex ⟨x, hX, q⟩)
          obtain ⟨g', h5⟩ := readsSame_some hrs.1 (stands 0 (fun y hy => ⟨fun q => by omega, fun q => absurd ⟨y, hy, q⟩ hex⟩))
          refine ⟨g', ?_⟩
          rw [e1, R.start, ← hvv]
          exact h5
    obtain ⟨g', h1⟩ := key
    have h1' := valD_some h1
    simp only at h1'
    rw [hcg] at h1'
    obtain ⟨_, V, h2, h3⟩ := read_ok (.inr hc) hR hrel h1'
    refine .inl ?_
    unfold Oper.wp; rw [h3]
    exact keep (fun ⟨o', h1, h2, h3⟩ => by rw [hL] at h1; cases h1; rw [hc] at h3; cases h3) (fun b ⟨o', v', g', h1, h2, h3, _⟩ => by rw [hL] at h1; cases h1; rw [hc] at h3; cases h3) (by rw [hvv]; exact h2) (by rw [hvv]; exact hp)
  | a hw hc _ g b hv hb hp hg hpe hx hl =>
    have hww := wantedD_ok hguard hw
    simp only [hww, if_true]
    have hA : IsA P h0.next h0.asm ops S i b := ⟨_, _, _, hL, hw, hc, hv, hb⟩
    have h1 := valD_some hv
    simp only at h1
    rw [hcg] at h1
    obtain ⟨b', h2, hrw, cf, V, w', obj, h3, h4, h5, h6, h7, h8⟩ := alloc_ok (h := ⟨h0.next + i, .nil, h0.asm⟩) hc hR i7.rel hasm0 h1
    have hbb : b' = b := by
      rw [h2] at hb
      have : (H.new ⟨h0.next + i, .nil, h0.asm⟩ b').m.get (h0.next + i) = some b' := by
        show ((T.nil : T Blk).put (h0.next + i) b').get (h0.next + i) = some b'
        rw [get_put, if_pos rfl]
      rw [this] at hb
      exact Option.some.inj hb
    subst hbb
    have hnone : e (h0.next + i) = none := i8 i b' hA hni
    have hle : e.le (upd e (h0.next + i) (w.heap.size, cf)) := by
      refine ⟨?_, rfl, rfl⟩
      intro j q hq
      simp only [upd]
      split
      · rename_i he; rw [he, hnone] at hq; cases hq
      · exact hq
    obtain ⟨h9, h10⟩ := h8 (upd e (h0.next + i) (w.heap.size, cf)) hle (upd_at _ _)
    refine .inl ?_
    unfold Oper.wp; rw [h3]
    have hun : ∀ y, y < c → IsX P ops S y → bit (msk ops.toList y) i = false := by
      intro y hy hX
      cases hbt : bit (msk ops.toList y) i with
      | false => rfl
      | true => exact absurd (hcl y ((i2 y hX).1 hy) i hbt) hni
    have hgc : (S c).g.m.get (h0.next + i) = none := by
      cases hq : (S c).g.m.get (h0.next + i) with
      | none => rfl
      | some x =>
        obtain ⟨p, hp, _⟩ := hrel.blk _ x hq
        rw [hnone] at hp; cases hp
    have hput : ∀ id, (G.put (h0.next + i) b').m.get id = if id = h0.next + i then some b' else G.m.get id := fun id => get_put _ _ _ _
    refine hK _ _ ⟨upd e (h0.next + i) (w.heap.size, cf), c, G.put (h0.next + i) b', i1, fun x hXx => ?_, ⟨i3, i3a⟩, i4, ?_, ?_, ?_, ?_, ?_, ?_, ?_⟩
    · rw [i2 x hXx]
      constructor
      · exact .inl
      · rintro (h | h)
        · exact h
        · rw [h] at hXx; exact absurd hXx hA.not_X
    · intro j bj hAj hD hunj
      rw [hput]
      by_cases hji : j = i
      · subst hji
        rw [if_pos rfl, hAj.fn hA]
        exact ⟨rfl, hgc⟩
      · rw [if_neg (by omega)]
        rcases hD with h | h
        · exact i5 j bj hAj h hunj
        · exact absurd h hji
    · intro id hid
      rw [hput, if_neg (hid i b' hA (.inr rfl) hun)]
      exact i6 id (fun j bj hAj hD hunj => hid j bj hAj (.inl hD) hunj)
    · exact Step.then_new i7 (by omega) (by omega) hnone hrw h4 h5 h6 h7 h10 rfl rfl hput
    · intro j bj hAj hD
      have hji : j ≠ i := fun he => hD (.inr he)
      have : upd e (h0.next + i) (w.heap.size, cf) (h0.next + j) = e (h0.next + j) := by
        simp only [upd]
        rw [if_neg (by omega)]
      rw [this]
      exact i8 j bj hAj (fun h => hD (.inl h))
    · exact has_step hO hcl hL hni hle (by rw [hvv]; exact h9) i10 (by rw [hvv]; exact hp) i9
    · cases o.dst <;> simp [Act.put, i10]
    · cases o.dst <;> exact i11
  | x hw hc _ hb hv hp hpe hx hl =>
    have hww := wantedD_ok hguard hw
    simp only [hww, if_true]
    have hX : IsX P ops S i := ⟨_, hL, hw, hc⟩
    have hm := R.mask hL
    rw [hm] at hv
    have hdoes := actD_some hv
    simp only at hdoes
    have hdoes' : Does P call (restT (S i).tm o.op.operands.toList) (matH h0.next (msk ops.toList i) (S i).pend (S i).g) o.op vv (S (i + 1)).g := by
      rcases hdoes with hd | ⟨f, args, hd, hcall⟩
      · exact .inl (by rw [← hcg]; exact hd)
      · exact .inr ⟨f, args, by rw [← hcg]; exact hd, hcall⟩
    -- the acts that are done are those before i
    have hbefore : ∀ x, IsX P ops S x → (x < c ↔ x < i) := by
      intro x hx
      constructor
      · intro hlt
        have hD := (i2 x hx).1 hlt
        rcases Nat.lt_trichotomy x i with h | h | h
        · exact h
        · subst h; exact absurd hD hni
        · exact absurd (hcl x hD i (R.order hX hx h)) hni
      · intro hlt
        exact (i2 x hx).2 (hrd x (R.order hx hX hlt))
    have hstage : (S c).g = (S i).g := by
      rcases Nat.le_total c i with h | h
      · exact (R.still h (by omega) (fun x q1 q2 hx => by have := (hbefore x hx).2 q2; omega)).symm
      · exact R.still h i1 (fun x q1 q2 hx => by have := (hbefore x hx).1 q2; omega)
    have hpn : ∀ p q, p ∈ (S i).pend → q ∈ (S i).pend → p.1 = q.1 → p = q := by
      rintro ⟨j, b⟩ ⟨j', b'⟩ h1 h2 he
      simp only at he
      subst he
      have q1 := ((R.pend hO i (by omega) j b).1 h1).2.1
      have q2 := ((R.pend hO i (by omega) j b').1 h2).2.1
      rw [q1.fn q2]
    obtain ⟨m1, m2⟩ := matH_get (g := (S i).g) (N := h0.next) (m := msk ops.toList i) (S i).pend hpn
    have hgsub : ∀ id b, (matH h0.next (msk ops.toList i) (S i).pend (S i).g).m.get id = some b → G.m.get id = some b := by
      intro id b hb
      by_cases hp : ∃ p, p ∈ (S i).pend ∧ bit (msk ops.toList i) p.1 = true ∧ id = h0.next + p.1
      · obtain ⟨⟨j, bj⟩, q1, q2, rfl⟩ := hp
        rw [m1 _ q1 q2] at hb
        cases hb
        obtain ⟨q3, q4, q5⟩ := (R.pend hO i (by omega) j bj).1 q1
        exact (i5 j bj q4 (hrd j q2) (fun y hy hXy => q5 y ((hbefore y hXy).1 hy) hXy)).1
      · rw [m2 id (fun p q1 q2 he => hp ⟨p, q1, q2, he⟩), ← hstage] at hb
        exact hsub id b hb
    have hgn : (matH h0.next (msk ops.toList i) (S i).pend (S i).g).next = G.next := by rw [matH_next, ← hstage, i3]
    have hga : (matH h0.next (msk ops.toList i) (S i).pend (S i).g).asm = G.asm := by rw [matH_asm, ← hstage, i3a]
    have hgrel : Rel P e (matH h0.next (msk ops.toList i) (S i).pend (S i).g) w := i7.rel.sub hgn hga hgsub
    refine .inl (oper_wp hs hR hgrel hdoes' (fun V w' e' hst hcv => ?_))
    -- memory behind the act
    obtain ⟨G', g1, g1a, g2, g3⟩ := exists_heap (S (i + 1)).g h0.next (fun j b => IsA P h0.next h0.asm ops S j b ∧ D j ∧ ∀ y, y < i + 1 → IsX P ops S y → bit (msk ops.toList y) j = false) (fun j b b' h h' => h.1.fn h'.1) ops.toList.length
    have haside : ∀ j b, IsA P h0.next h0.asm ops S j b → D j → (∀ y, y < i + 1 → IsX P ops S y → bit (msk ops.toList y) j = false) → (matH h0.next (msk ops.toList i) (S i).pend (S i).g).m.get (h0.next + j) = none ∧ G.m.get (h0.next + j) = some b := by
      intro j b hAj hDj hunj
      have hunc : ∀ y, y < c → IsX P ops S y → bit (msk ops.toList y) j = false := fun y hy hXy => hunj y (by have := (hbefore y hXy).1 hy; omega) hXy
      obtain ⟨q1, q2⟩ := i5 j b hAj hDj hunc
      refine ⟨?_, q1⟩
      rw [m2 _ (fun p h1 h2 he => ?_), ← hstage]
      · exact q2
      · have : p.1 = j := by omega
        rw [this, hunj i (by omega) hX] at h2
        cases h2
    have hfr : Step P e G w e' G' w' := by
      refine Step.frame i7.rel hgn hgsub hst g1 g1a (fun id b hb => ?_)
      by_cases hp : ∃ j bj, j < ops.toList.length ∧ (IsA P h0.next h0.asm ops S j bj ∧ D j ∧ ∀ y, y < i + 1 → IsX P ops S y → bit (msk ops.toList y) j = false) ∧ id = h0.next + j
      · obtain ⟨j, bj, q1, q2, rfl⟩ := hp
        rw [g2 j bj q1 q2] at hb
        cases hb
        exact .inr (haside j b q2.1 q2.2.1 q2.2.2)
      · rw [g3 id (fun j bj q1 q2 he => hp ⟨j, bj, q1, q2, he⟩)] at hb
        exact .inl hb
    refine hK _ _ ⟨e', i + 1, G', by omega, fun x hx => ?_, ⟨g1, g1a⟩, ?_, ?_, ?_, i7.trans hfr, ?_, ?_, ?_, ?_⟩
    · constructor
      · intro hlt
        rcases Nat.lt_or_ge x i with h | h
        · exact .inl ((i2 x hx).1 ((hbefore x hx).2 h))
        · exact .inr (by omega)
      · rintro (h | rfl)
        · have := (hbefore x hx).1 ((i2 x hx).2 h); omega
        · omega
    · exact Nat.le_trans i4 hfr.next
    · intro j b hAj hD hunj
      have hDj : D j := by
        rcases hD with h | rfl
        · exact h
        · exact absurd hX hAj.not_X
      obtain ⟨q1, q2⟩ := haside j b hAj hDj hunj
      exact ⟨g2 j b hAj.lt ⟨hAj, hDj, hunj⟩, Step.apart i7.rel hgsub hst q1 q2⟩
    · intro id hid
      exact g3 id (fun j b hj hRj => hid j b hRj.1 (.inl hRj.2.1) hRj.2.2)
    · intro j b hAj hD
      have hnD : ¬ D j := fun h => hD (.inl h)
      rw [hst.keep (h0.next + j) (by rw [hgn]; have := hAj.lt; omega)]
      exact i8 j b hAj hnD
    · exact has_step hO hcl hL hni hst.le (by rw [hvv]; exact hcv) i10 (by rw [hvv]; exact hp) i9
    · cases o.dst <;> simp [Act.put, i10]
    · cases o.dst <;> exact i11
end
end Go.Den

/- D22 -/
set_option linter.unusedVariables false
set_option linter.unusedSimpArgs false
set_option linter.unusedSectionVars false
namespace Go.Den
variable [Interp]
/-- how many are not listed yet -/
def left (l : Array Bool) : Nat → Nat
  | 0 => 0
  | k + 1 => left l k + (if l.getD k false then 0 else 1)
theorem left_set {l : Array Bool} {i : Nat} (hi : i < l.size) (hl : l.getD i false = false) : ∀ k, left (l.setIfInBounds i true) k + (if i < k then 1 else 0) = left l k
  | 0 => by simp [left]
  | k + 1 => by
    have ih := left_set hi hl k
    simp only [left]
    by_cases hik : i = k
    · subst hik
      have h1 : (l.setIfInBounds i true).getD i false = true := by simp [hi]
      rw [h1, hl]
      simp at ih ⊢
      omega
    · rw [getD_set_ne false hik]
      by_cases hlt : i < k
      · have e1 : (if i < k then 1 else 0) = 1 := if_pos hlt
        have e2 : (if i < k + 1 then 1 else 0) = 1 := if_pos (by omega)
        rw [e1] at ih
        rw [e2, ← ih]
        omega
      · have e1 : (if i < k then 1 else 0) = 0 := if_neg hlt
        have e2 : (if i < k + 1 then 1 else 0) = 0 := if_neg (by omega)
        rw [e1] at ih
        rw [e2, ← ih]
        omega
theorem left_zero {l : Array Bool} : ∀ {k}, left l k = 0 → ∀ j, j < k → l.getD j false = true
  | 0, _, j, hj => by omega
  | k + 1, h, j, hj => by
    simp only [left] at h
    cases hk : l.getD k false with
    | false => rw [hk] at h; simp at h
    | true =>
      rw [hk] at h
      rcases Nat.lt_or_ge j k with hh | hh
      · exact left_zero (by simpa using h) j hh
      · have : j = k := by omega
        rw [this]; exact hk
theorem rep_getD (n j : Nat) : (Array.replicate n false).getD j false = false := by
  rw [Array.getD_eq_getD_getElem?, Array.getElem?_replicate]
  split <;> rfl
theorem left_replicate (n : Nat) : ∀ k, k ≤ n → left (Array.replicate n false) k = k
  | 0, _ => rfl
  | k + 1, h => by
    simp only [left]
    rw [left_replicate n k (by omega)]
    rw [rep_getD]; rfl
section
variable {P : Program} {call : CallFn} {sz : Nat} {ops : Array Oper} {Q : Exit → Act → World → Prop}

theorem has_congr {val : Nat → IV} {tm0 : Tm} {D D' : Nat → Prop} (hd : ∀ j, D j ↔ D' j) {t : Nat} {v : IV} (h : Has ops val tm0 D t v) : Has ops val tm0 D' t v := by
  have : D = D' := funext fun j => propext (hd j)
  rw [← this]; exact h
theorem Inv.congr {S : Nat → DS} {val : Nat → IV} {tm0 : Tm} {e0 : Env} {h0 : H} {w0 : World} {d0 : List Deferred} {D D' : Nat → Prop} (hd : ∀ j, D j ↔ D' j) {a : Act} {w : World} (h : Inv P sz ops S val tm0 e0 h0 w0 d0 D a w) : Inv P sz ops S val tm0 e0 h0 w0 d0 D' a w := by
  have : D = D' := funext fun j => propext (hd j)
  rw [← this]; exact h
theorem drawn_any (hs : Sound P call) (hO : DrawnOK ops) {S : Nat → DS} {val : Nat → IV} {tm0 : Tm} {e0 : Env} {h0 : H} {w0 : World} {d0 : List Deferred}
    (hA0 : AsmOK h0.asm e0.ρ) (R : TextRun P call sz h0.next h0.asm ops S val tm0 ⟨h0.next + ops.toList.length, h0.m, h0.asm⟩)
    (hall : (S ops.toList.length).xs ≠ [] → allReads P (S ops.toList.length).xs ⟨h0.next + ops.toList.length, h0.m, h0.asm⟩ (S ops.toList.length).ls = true)
    (hQ : ∀ a w, Inv P sz ops S val tm0 e0 h0 w0 d0 (fun j => j < ops.toList.length) a w → Q .normal a w) :
    ∀ (fuel : Nat) (listed : Array Bool) (a : Act) (w : World), listed.size = ops.size → left listed ops.size = fuel →
      (∀ j o, ops[j]? = some o → listed.getD j false = true → ∀ e ∈ o.after, Region.binds .any e = true → listed.getD e.on false = true) →
      Inv P sz ops S val tm0 e0 h0 w0 d0 (fun j => listed.getD j false = true) a w → wpAny P .any ops Q fuel listed a w := by
  have hlen : ops.toList.length = ops.size := Array.length_toList
  -- nobody may come next: all have come
  have done : ∀ (listed : Array Bool) (a : Act) (w : World), listed.size = ops.size → Region.ready .any ops listed = [] → Inv P sz ops S val tm0 e0 h0 w0 d0 (fun j => listed.getD j false = true) a w → Q .normal a w := by
    intro listed a w hsz hr hI
    have hallj : ∀ n j, j < n → j < ops.size → listed.getD j false = true := by
      intro n
      induction n with
      | zero => intro j hj; omega
      | succ n ih =>
        intro j hj hjs
        cases hb : listed.getD j false with
        | true => rfl
        | false =>
          exfalso
          have hmem : j ∈ Region.ready .any ops listed := by
            rw [mem_ready]
            refine ⟨?_, ops[j], by simp [hjs], fun e he hbd => ?_⟩
            · rw [Array.getD_eq_getD_getElem?, Array.getElem?_eq_getElem (by omega)] at hb ⊢
              exact hb
            · have := hO.edges j ops[j] (by simp [hjs]) e he hbd
              exact ih e.on (by omega) (by omega)
          rw [hr] at hmem; cases hmem
    refine hQ a w (hI.congr (fun j => ?_))
    constructor
    · intro h
      rcases Nat.lt_or_ge j ops.size with hh | hh
      · omega
      · rw [Array.getD_eq_getD_getElem?, Array.getElem?_eq_none (by omega)] at h; cases h
    · intro h; exact hallj (j + 1) j (by omega) (by omega)
  intro fuel
  induction fuel with
  | zero =>
    intro listed a w hsz hleft hcl hI
    have hr : Region.ready .any ops listed = [] := by
      cases hr : Region.ready .any ops listed with
      | nil => rfl
      | cons j l =>
        have hm : j ∈ Region.ready .any ops listed := by rw [hr]; simp
        obtain ⟨h1, o, h2, _⟩ := mem_ready.1 hm
        have hj := (Array.getElem?_eq_some_iff.1 h2).1
        have := left_zero hleft j hj
        rw [Array.getD_eq_getD_getElem?, Array.getElem?_eq_getElem (by omega)] at h1 this
        simp at h1 this
        rw [h1] at this; cases this
    exact ⟨hr, done listed a w hsz hr hI⟩
  | succ fuel ih =>
    intro listed a w hsz hleft hcl hI
    refine ⟨fun hr => done listed a w hsz hr hI, fun i hm => ?_⟩
    obtain ⟨h1, o, h2, h3⟩ := mem_ready.1 hm
    have hi := (Array.getElem?_eq_some_iff.1 h2).1
    have hnf : listed.getD i false = false := by
      rw [Array.getD_eq_getD_getElem?, Array.getElem?_eq_getElem (by omega)] at h1 ⊢
      exact h1
    have hDL : ∀ j o, ops.toList[j]? = some o → listed.getD j false = true → ∀ e ∈ o.after, Region.binds .any e = true → listed.getD e.on false = true := fun j o hj => hcl j o (by simpa using hj)
    have hcl' : ∀ j, listed.getD j false = true → ∀ k, bit (msk ops.toList j) k = true → listed.getD k false = true := by
      intro j hj k hb
      exact mask_closed (L := ops.toList) (D := fun k => listed.getD k false = true) hDL (j + 1) j (by omega) (fun o' ho' => hDL j o' ho' hj) k hb
    have hrd : ∀ k, bit (msk ops.toList i) k = true → listed.getD k false = true := by
      intro k hb
      refine mask_closed (L := ops.toList) (D := fun k => listed.getD k false = true) hDL (i + 1) i (by omega) (fun o' ho' => ?_) k hb
      have : o' = o := by
        have h4 : ops[i]? = some o' := by simpa using ho'
        rw [h2] at h4; exact (Option.some.inj h4).symm
      subst this
      exact h3
    refine drawn_step hs hO hA0 R hall (D := fun j => listed.getD j false = true) (fun j hj => ?_) hcl' (by simpa using h2) (by simp only [hnf]; decide) hrd hI (fun a' w' hI' => ?_)
    · rcases Nat.lt_or_ge j ops.size with hh | hh
      · omega
      · rw [Array.getD_eq_getD_getElem?, Array.getElem?_eq_none (by omega)] at hj; cases hj
    · have hset : ∀ j, (listed.setIfInBounds i true).getD j false = true ↔ (listed.getD j false = true ∨ j = i) := by
        intro j
        by_cases hji : i = j
        · subst hji
          simp [show i < listed.size by omega]
        · rw [getD_set_ne false hji]
          constructor
          · exact .inl
          · rintro (h | h)
            · exact h
            · exact absurd h.symm hji
      refine ih _ a' w' (by simp [hsz]) ?_ ?_ (hI'.congr (fun j => (hset j).symm))
      · have := left_set (by omega) hnf ops.size
        rw [if_pos hi] at this
        omega
      · intro j oj hj hlj e he hbd
        rw [hset] at hlj ⊢
        rcases hlj with h | h
        · exact .inl (hcl j oj hj h e he hbd)
        · subst h
          have : oj = o := by rw [h2] at hj; exact (Option.some.inj hj).symm
          subst this
          exact .inl (h3 e he hbd)
/-- A region whose order is drawn. -/
theorem drawD_ok (hm : P.follows .mixedOrders = true) (hs : Sound P call) (hO : DrawnOK ops) {id : Nat} {tm : Tm} {h : H} {r : Tm × H} {e : Env} {a : Act} {w : World} (hd : drawD P call sz ops tm h = some r) (k : TmOK e tm a.tmps) (hr : Rel P e h w) (hsz : a.tmps.size = sz)
    (hQ : ∀ e' a' w', Step P e h w e' r.2 w' → TmOK e' r.1 a'.tmps → a'.tmps.size = sz → a'.defers = a.defers → Q .normal a' w') : (Code.region id ops true).wp P Q a w := by
  obtain ⟨s, h1, h2⟩ := ob_some hd
  have hck : (s.xs ≠ [] → allReads P s.xs ⟨h.next + ops.toList.length, h.m, h.asm⟩ s.ls = true) ∧ r = (s.tm, allH h.next s.pend s.g) := by
    cases hx : s.xs with
    | nil =>
      rw [hx] at h2
      cases h2
      exact ⟨fun hh => absurd rfl hh, rfl⟩
    | cons x l =>
      rw [hx] at h2
      have h2' : @Bool.rec (fun _ => Option (Tm × H)) none (some (s.tm, allH h.next s.pend s.g)) (allReads P (x :: l) ⟨h.next + ops.toList.length, h.m, h.asm⟩ s.ls) = some r := h2
      cases hb : allReads P (x :: l) ⟨h.next + ops.toList.length, h.m, h.asm⟩ s.ls with
      | false => rw [hb] at h2'; cases h2'
      | true => rw [hb] at h2'; cases h2'; exact ⟨fun _ => rfl, rfl⟩
  obtain ⟨hall, hreq⟩ := hck
  obtain ⟨S, q1, q2, q3⟩ := drawList_states ops.toList 0 _ s h1
  simp only [Nat.zero_add] at q2 q3
  have hfact : ∀ i o, ops.toList[i]? = some o → ∃ v, StepFact P call sz h.next h.asm ops i o (S i) (S (i + 1)) v := fun i o hi => (drawStep_some (q3 i o hi)).2
  have hval : ∃ val : Nat → IV, ∀ i o, ops.toList[i]? = some o → StepFact P call sz h.next h.asm ops i o (S i) (S (i + 1)) (val i) := by
    have : ∀ i, ∃ v, ∀ o, ops.toList[i]? = some o → StepFact P call sz h.next h.asm ops i o (S i) (S (i + 1)) v := by
      intro i
      cases hL : ops.toList[i]? with
      | none => exact ⟨.nilPtr, fun o ho => by cases ho⟩
      | some o =>
        obtain ⟨v, hv⟩ := hfact i o hL
        exact ⟨v, fun o' ho' => by cases ho'; exact hv⟩
    exact ⟨fun i => Classical.choose (this i), fun i => Classical.choose_spec (this i)⟩
  obtain ⟨val, hval⟩ := hval
  have R : TextRun P call sz h.next h.asm ops S val tm ⟨h.next + ops.toList.length, h.m, h.asm⟩ := ⟨q1, fun i o hi => (drawStep_some (q3 i o hi)).1, hval⟩
  have hlen : ops.toList.length = ops.size := Array.length_toList
  have hreq1 : r.1 = s.tm := by rw [hreq]
  have hreq2 : r.2 = allH h.next s.pend s.g := by rw [hreq]
  refine wp_region_any hm (drawn_any (w0 := w) (e0 := e) (d0 := a.defers) hs hO hr.asm R (by rw [q2]; exact hall) (fun a' w' hI => ?_) ops.size (Array.replicate ops.size false) a _ (by simp) (left_replicate _ _ (Nat.le_refl _)) ?_ ?_)
  · obtain ⟨e', c, G, i1, i2, ⟨i3, i3a⟩, i4, i5, i6, i7, i8, i9, i10, i11⟩ := hI
    have hstage : (S c).g = s.g := by
      rw [← q2]
      exact (R.still i1 (Nat.le_refl _) (fun x h3 h4 hX => by have := (i2 x hX).2 hX.lt; omega)).symm
    have hun : ∀ (j : Nat), (∀ y, y < c → IsX P ops S y → bit (msk ops.toList y) j = false) ↔ (∀ y, y < ops.toList.length → IsX P ops S y → bit (msk ops.toList y) j = false) := by
      intro j
      constructor
      · intro h5 y hy hX; exact h5 y ((i2 y hX).2 hy) hX
      · intro h5 y hy hX; exact h5 y hX.lt hX
    have hpn : ∀ p q, p ∈ s.pend → q ∈ s.pend → p.1 = q.1 → p = q := by
      rw [← q2]
      rintro ⟨j, b⟩ ⟨j', b'⟩ h3 h4 he
      simp only at he
      subst he
      have a1 := ((R.pend hO _ (Nat.le_refl _) j b).1 h3).2.1
      have a2 := ((R.pend hO _ (Nat.le_refl _) j b').1 h4).2.1
      rw [a1.fn a2]
    obtain ⟨m1, m2⟩ := allH_get (g := s.g) (N := h.next) s.pend hpn
    refine hQ e' a' w' (Step.ext i7 ?_ (by rw [hreq2, allH_asm, i3a, hstage]) (fun id => ?_)) (fun t v hv => ?_) i10 i11
    · rw [hreq2, allH_next, i3, hstage]
    · rw [hreq2]
      by_cases hp : ∃ p ∈ s.pend, id = h.next + p.1
      · obtain ⟨⟨j, b⟩, h3, rfl⟩ := hp
        rw [m1 _ h3]
        rw [← q2] at h3
        obtain ⟨a1, a2, a3⟩ := (R.pend hO _ (Nat.le_refl _) j b).1 h3
        exact ((i5 j b a2 a1 ((hun j).2 a3)).1).symm
      · rw [m2 id (fun p h3 he => hp ⟨p, h3, he⟩), ← hstage]
        refine (i6 id (fun j b hA hD hunj he => hp ⟨(j, b), ?_, he⟩)).symm
        rw [← q2]
        exact (R.pend hO _ (Nat.le_refl _) j b).2 ⟨hD, hA, (hun j).1 hunj⟩
    · rw [hreq1] at hv
      refine i9 t v (R.has _ (Nat.le_refl _) t v (by rw [q2]; exact hv))
  · intro j o hj hl
    rw [rep_getD] at hl; cases hl
  · have hno : ∀ j, ¬ ((Array.replicate ops.size false).getD j false = true) := by
      intro j hl
      rw [rep_getD] at hl; cases hl
    refine ⟨e, 0, ⟨h.next + ops.toList.length, h.m, h.asm⟩, Nat.zero_le _, fun x _ => ⟨fun hh => by omega, fun hh => absurd hh (hno x)⟩, ⟨by rw [q1], by rw [q1]⟩, Nat.le_refl _, fun j b _ hD => absurd hD (hno j), fun id _ => by rw [q1], Step.bump (w' := { w with drawn := w.drawn + 1 }) hr rfl rfl rfl rfl (Nat.le_add_right _ _), fun j b hA _ => hr.dom _ (Nat.le_add_right _ _), ?_, hsz, rfl⟩
    intro t v hh
    rcases hh with ⟨i, o, _, hD, _⟩ | ⟨_, h3⟩
    · exact absurd hD (hno i)
    · exact k t v h3
end
end Go.Den

/- D23 -/
set_option linter.unusedVariables false
set_option linter.unusedSimpArgs false
set_option linter.unusedSectionVars false
namespace Go.Den
variable [Interp]
/-- Every region of the code whose order is drawn is fit. -/
def CodeOK : Code → Prop
  | .region _ ops draw => draw = true → DrawnOK ops
  | .seq a b => CodeOK a ∧ CodeOK b
  | .cond _ a b => CodeOK a ∧ CodeOK b
  | .block _ b => CodeOK b
  | .loop b => CodeOK b
  | _ => True
structure Static (P : Program) : Prop where
  mixed : P.follows .mixedOrders = true
  code : ∀ (f : FuncId) (fn : Func) (c : Code), P.funcs[f]? = some fn → fn.body = some c → CodeOK c
  name : ∀ (f : FuncId) (fn : Func) (c : Code), P.funcs[f]? = some fn → fn.body = some c → (fn.name == "runtime.NumGoroutine") = false
def exOf : Ex → Exit
  | .normal => .normal
  | .exit i => .exit i
  | .ret => .ret
section
variable {P : Program} {call : CallFn} {sz fuel : Nat}
/-- what a piece of code is held to -/
def Runs (P : Program) (sz : Nat) (run : Run) (c : Code) : Prop := ∀ (tm : Tm) (h : H) (ex : Ex) (tm' : Tm) (h' : H), run tm h = .to ex tm' h' → ∀ (e : Env) (a : Act) (w : World) (Q : Exit → Act → World → Prop),
  TmOK e tm a.tmps → Rel P e h w → a.tmps.size = sz → (∀ e' a' w', Step P e h w e' h' w' → TmOK e' tm' a'.tmps → a'.tmps.size = sz → a'.defers = a.defers → Q (exOf ex) a' w') → c.wp P Q a w
theorem loop_ok {body : Run} {c : Code} (hb : Runs P sz body c) : ∀ (n : Nat) (tm : Tm) (h : H) (ex : Ex) (tm' : Tm) (h' : H), loopD body n tm h = .to ex tm' h' → ∀ (e : Env) (a : Act) (w : World) (Q : Exit → Act → World → Prop),
    TmOK e tm a.tmps → Rel P e h w → a.tmps.size = sz → (∀ e' a' w', Step P e h w e' h' w' → TmOK e' tm' a'.tmps → a'.tmps.size = sz → a'.defers = a.defers → Q (exOf ex) a' w') → Code.rounds P c Q n a w
  | 0, tm, h, ex, tm', h', hr, e, a, w, Q, k, r, hsz, hQ => by cases hr
  | n + 1, tm, h, ex, tm', h', hr, e, a, w, Q, k, r, hsz, hQ => by
    have hr' : @Res.rec (fun _ => Res) .bad (fun e tm h => @Ex.rec (fun _ => Res) (loopD body n tm h) (fun i => .to (.exit i) tm h) (.to .ret tm h) e) (body tm h) = .to ex tm' h' := hr
    rw [rounds_succ]
    cases hbd : body tm h with
    | bad => rw [hbd] at hr'; cases hr'
    | to ex1 tm1 h1 =>
      rw [hbd] at hr'
      refine hb tm h ex1 tm1 h1 hbd e a w _ k r hsz (fun e1 a1 w1 s1 k1 z1 d1 => ?_)
      cases ex1 with
      | normal =>
        exact loop_ok hb n tm1 h1 ex tm' h' hr' e1 a1 w1 Q k1 s1.rel z1 (fun e2 a2 w2 s2 k2 z2 d2 => hQ e2 a2 w2 (s1.trans s2) k2 z2 (d2.trans d1))
      | exit i => cases hr'; exact hQ e1 a1 w1 s1 k1 z1 d1
      | ret => cases hr'; exact hQ e1 a1 w1 s1 k1 z1 d1
theorem execD_ok (hm : P.follows .mixedOrders = true) (hs : Sound P call) : ∀ (c : Code), CodeOK c → Runs P sz (execD P call sz fuel c) c
  | .skip, _ => fun tm h ex tm' h' hr e a w Q k r hsz hQ => by
    cases hr; exact wp_skip (hQ e a w (Step.refl r) k hsz rfl)
  | .region id ops draw, hc => fun tm h ex tm' h' hr e a w Q k r hsz hQ => by
    have hr' : @Option.rec (Tm × H) (fun _ => Res) .bad (fun r => .to .normal r.1 r.2) (@Bool.rec (fun _ => Option (Tm × H)) (opsD P call sz ops ops.toList tm h) (drawD P call sz ops tm h) draw) = .to ex tm' h' := hr
    cases draw with
    | false =>
      cases ho : opsD P call sz ops ops.toList tm h with
      | none => rw [ho] at hr'; cases hr'
      | some x => rw [ho] at hr'; cases hr'; exact regionD_ok hs ho k r hsz hQ
    | true =>
      cases ho : drawD P call sz ops tm h with
      | none => rw [ho] at hr'; cases hr'
      | some x => rw [ho] at hr'; cases hr'; exact drawD_ok hm hs (hc rfl) ho k r hsz hQ
  | .seq x y, hc => fun tm h ex tm' h' hr e a w Q k r hsz hQ => by
    have hr' : @Res.rec (fun _ => Res) .bad (fun e tm h => @Ex.rec (fun _ => Res) (execD P call sz fuel y tm h) (fun i => .to (.exit i) tm h) (.to .ret tm h) e) (execD P call sz fuel x tm h) = .to ex tm' h' := hr
    refine wp_seq ?_
    cases hbd : execD P call sz fuel x tm h with
    | bad => rw [hbd] at hr'; cases hr'
    | to ex1 tm1 h1 =>
      rw [hbd] at hr'
      refine execD_ok hm hs x hc.1 tm h ex1 tm1 h1 hbd e a w _ k r hsz (fun e1 a1 w1 s1 k1 z1 d1 => ?_)
      cases ex1 with
      | normal => exact execD_ok hm hs y hc.2 tm1 h1 ex tm' h' hr' e1 a1 w1 Q k1 s1.rel z1 (fun e2 a2 w2 s2 k2 z2 d2 => hQ e2 a2 w2 (s1.trans s2) k2 z2 (d2.trans d1))
      | exit i => cases hr'; exact hQ e1 a1 w1 s1 k1 z1 d1
      | ret => cases hr'; exact hQ e1 a1 w1 s1 k1 z1 d1
  | .cond x y z, hc => fun tm h ex tm' h' hr e a w Q k r hsz hQ => by
    have hr' : condD P x (execD P call sz fuel y) (execD P call sz fuel z) tm h = .to ex tm' h' := hr
    unfold condD at hr'
    split at hr'
    · rename_i b hb
      have hev := ev_ok (a := a) k r hb
      simp only [conc] at hev
      have hev' := (Option.some.inj hev).symm
      cases b with
      | true => exact wp_cond hev' (execD_ok hm hs y hc.1 tm h ex tm' h' hr' e a w Q k r hsz hQ)
      | false => exact wp_cond hev' (execD_ok hm hs z hc.2 tm h ex tm' h' hr' e a w Q k r hsz hQ)
    · cases hr'
  | .block id b, hc => fun tm h ex tm' h' hr e a w Q k r hsz hQ => by
    have hr' : @Res.rec (fun _ => Res) .bad (fun e tm h => @Ex.rec (fun _ => Res) (.to .normal tm h) (fun i => @Bool.rec (fun _ => Res) (.to (.exit i) tm h) (.to .normal tm h) (Nat.beq i id)) (.to .ret tm h) e) (execD P call sz fuel b tm h) = .to ex tm' h' := hr
    refine wp_block ?_
    cases hbd : execD P call sz fuel b tm h with
    | bad => rw [hbd] at hr'; cases hr'
    | to ex1 tm1 h1 =>
      rw [hbd] at hr'
      refine execD_ok hm hs b hc tm h ex1 tm1 h1 hbd e a w _ k r hsz (fun e1 a1 w1 s1 k1 z1 d1 => ?_)
      cases ex1 with
      | normal => cases hr'; exact hQ e1 a1 w1 s1 k1 z1 d1
      | exit i =>
        show (if i = id then Q .normal a1 w1 else Q (.exit i) a1 w1)
        cases hb : Nat.beq i id with
        | true =>
          rw [if_pos (Nat.eq_of_beq_eq_true hb)]
          have hr2 : @Bool.rec (fun _ => Res) (.to (.exit i) tm1 h1) (.to .normal tm1 h1) (Nat.beq i id) = .to ex tm' h' := hr'
          rw [hb] at hr2; cases hr2
          exact hQ e1 a1 w1 s1 k1 z1 d1
        | false =>
          rw [if_neg (fun he => by subst he; simp at hb)]
          have hr2 : @Bool.rec (fun _ => Res) (.to (.exit i) tm1 h1) (.to .normal tm1 h1) (Nat.beq i id) = .to ex tm' h' := hr'
          rw [hb] at hr2; cases hr2
          exact hQ e1 a1 w1 s1 k1 z1 d1
      | ret => cases hr'; exact hQ e1 a1 w1 s1 k1 z1 d1
  | .loop b, hc => fun tm h ex tm' h' hr e a w Q k r hsz hQ =>
    wp_loop_rounds fuel (loop_ok (execD_ok hm hs b hc) fuel tm h ex tm' h' hr e a w Q k r hsz hQ)
  | .rangeFunc .., _ => fun tm h ex tm' h' hr => by cases hr
  | .exit i, _ => fun tm h ex tm' h' hr e a w Q k r hsz hQ => by
    cases hr; exact wp_exit (hQ e a w (Step.refl r) k hsz rfl)
  | .scope .., _ => fun tm h ex tm' h' hr => by cases hr
  | .label .., _ => fun tm h ex tm' h' hr => by cases hr
  | .goto .., _ => fun tm h ex tm' h' hr => by cases hr
  | .ret, _ => fun tm h ex tm' h' hr e a w Q k r hsz hQ => by
    cases hr; exact wp_ret (hQ e a w (Step.refl r) k hsz rfl)
  | .refuse .., _ => fun tm h ex tm' h' hr => by cases hr
theorem enterD_ok {n : Nat} {e : Env} : ∀ (l : List IV) (i : Nat) (t t' : Tm) {L : List Value} {A : Array Value}, enterD l n i t = some t' → concL e l = some L → TmOK e t A → (∀ j V, L[j]? = some V → A[i + j]? = some V) → TmOK e t' A ∧ i + l.length ≤ max i n
  | [], i, t, t', L, A, hd, hc, k, hA => by cases hd; exact ⟨k, by simp; omega⟩
  | v :: l, i, t, t', L, A, hd, hc, k, hA => by
    have hd' : @Bool.rec (fun _ => Option Tm) none (enterD l n (i + 1) (t.put i v)) (Nat.blt i n) = some t' := hd
    cases hb : Nat.blt i n with
    | false => rw [hb] at hd'; cases hd'
    | true =>
      rw [hb] at hd'
      obtain ⟨V, R, h1, h2, rfl⟩ := concL_cons hc
      have hlt := Nat.blt_eq.mp hb
      have k' : TmOK e (t.put i v) A := by
        intro x u hu
        rw [get_put] at hu
        by_cases hx : x = i
        · subst hx; rw [if_pos rfl] at hu; cases hu
          exact ⟨V, h1, by simpa using hA 0 V rfl⟩
        · rw [if_neg hx] at hu; exact k x u hu
      obtain ⟨q1, q2⟩ := enterD_ok l (i + 1) (t.put i v) t' hd' h2 k' (fun j U hj => by
        have := hA (j + 1) U (by simpa using hj)
        rwa [show i + (j + 1) = i + 1 + j by omega] at this)
      exact ⟨q1, by simp; omega⟩
theorem bodyD_ok (hS : Static P) (hs : Sound P call) : Sound P (bodyD P call) := by
  intro f args h v h' hd e w A r hA
  obtain ⟨fn, h1, h2⟩ := ob_some hd
  obtain ⟨c, h3, h4⟩ := ob_some h2
  obtain ⟨tm, h5, h6⟩ := ob_some h4
  have hcall : (callFunc f A.toArray).run P w = .ok (.enter f A.toArray) w := by
    have hn := hS.name f fn c h1 h3
    simp only [callFunc, Sem.run_bind, run_program, Result.andThen_ok, h1]
    simp [hn, h3]
  refine .inr ⟨hcall, calls_of_wp h1 h3 ?_⟩
  have hsize : A.length ≤ fn.ntmps := by
    have := (enterD_ok (A := A.toArray) args 0 .nil tm h5 hA (TmOK.nil e _) (fun j V hj => by simpa using hj)).2
    rw [concL_length hA]
    omega
  obtain ⟨k, _⟩ := enterD_ok (A := A.toArray ++ Array.replicate (fn.ntmps - A.toArray.size) undef) args 0 .nil tm h5 hA (TmOK.nil e _) (fun j V hj => by
    have hlt := (List.getElem?_eq_some_iff.1 hj).1
    rw [Nat.zero_add, Array.getElem?_append_left (by simpa using hlt)]
    simpa using hj)
  have h6' : endD P fn (execD P call fn.ntmps 100000 c tm h) = some (v, h') := h6
  cases hx : execD P call fn.ntmps 100000 c tm h with
  | bad => rw [hx] at h6'; cases h6'
  | to ex tm1 h1' =>
    rw [hx] at h6'
    refine execD_ok hS.mixed hs c (hS.code f fn c h1 h3) tm h ex tm1 h1' hx e _ w _ k r (by simp; omega) (fun e1 a1 w1 s1 k1 z1 d1 => ?_)
    have fin : (ob (resultsD P fn tm1 h1') fun v => some (v, h1')) = some (v, h') → a1.defers = [] ∧ ∃ V, (results fn a1.tmps).run P w1 = .ok V w1 ∧ ∃ e', Step P e h w e' h' w1 ∧ conc e' v = some V := by
      intro hf
      obtain ⟨u, q1, q2⟩ := ob_some hf
      cases q2
      obtain ⟨V, q3, q4⟩ := resultsD_ok k1 s1.rel q1
      exact ⟨d1, V, q4, e1, s1, q3⟩
    cases ex with
    | normal => exact fin h6'
    | exit i => cases h6'
    | ret => exact fin h6'
/-- What is said of some calls is so. -/
def KnownOK (P : Program) (known : Known) : Prop := ∀ (f : FuncId) (g : List IV → H → Option (IV × H)), known f = some g → ∀ (args : List IV) (h : H) (v : IV) (h' : H), g args h = some (v, h') →
  ∀ (e : Env) (w : World) (A : List Value), Rel P e h w → concL e args = some A → Answers P f A.toArray w (fun V w' => ∃ e', Step P e h w e' h' w' ∧ conc e' v = some V)
/-- THE EVALUATOR IS RIGHT. -/
theorem runD_ok (hS : Static P) {known : Known} (hk : KnownOK P known) : ∀ n, Sound P (runD P known n)
  | 0 => fun f args h v h' hd => by cases hd
  | n + 1 => fun f args h v h' hd e w A r hA => by
    have hd' : @Option.rec (List IV → H → Option (IV × H)) (fun _ => Option (IV × H)) (bodyD P (runD P known n) f args h) (fun g => g args h) (known f) = some (v, h') := hd
    cases hf : known f with
    | some g => rw [hf] at hd'; exact hk f g hf args h v h' hd' e w A r hA
    | none => rw [hf] at hd'; exact bodyD_ok hS (runD_ok hS hk n) f args h v h' hd' e w A r hA
end
end Go.Den

/- D24 -/
set_option linter.unusedVariables false
set_option linter.unusedSimpArgs false
set_option linter.unusedSectionVars false
noncomputable section
namespace Go.Den
variable [Interp]
/-! ### The program, looked at once -/
def edgesB (j : Nat) (l : List Edge) : Bool := @List.rec Edge (fun _ => Bool) true (fun e _ ih => @Bool.rec (fun _ => Bool) ih (@Bool.rec (fun _ => Bool) false ih (Nat.blt e.on j)) (Region.binds .any e)) l
def apartB (ops : Array Oper) (m : Nat) (o : Oper) (l : List (Nat × Oper)) : Bool := @List.rec (Nat × Oper) (fun _ => Bool) true (fun p _ ih => @Bool.rec (fun _ => Bool) (@Bool.rec (fun _ => Bool) false ih (p.2.apart ops o)) ih (bit m p.1)) l
def drawnGo (ops : Array Oper) (l : List Oper) : Nat → T Nat → List (Nat × Oper) → Bool :=
  @List.rec Oper (fun _ => Nat → T Nat → List (Nat × Oper) → Bool) (fun _ _ _ => true) (fun o _ ih j acc el =>
    @Bool.rec (fun _ => Bool) false (@Bool.rec (fun _ => Bool) false (ih (j + 1) (acc.put j (maskL acc o.after.toList)) ((j, o) :: el)) (apartB ops (maskL acc o.after.toList) o el)) (edgesB j o.after.toList)) l
def drawnB (ops : Array Oper) : Bool := drawnGo ops ops.toList 0 .nil []
def codeB (c : Code) : Bool := @Code.rec (fun _ => Bool) true (fun _ ops draw => @Bool.rec (fun _ => Bool) true (drawnB ops) draw) (fun _ _ a b => @Bool.rec (fun _ => Bool) false b a) (fun _ _ _ a b => @Bool.rec (fun _ => Bool) false b a)
  (fun _ _ b => b) (fun _ b => b) (fun _ _ _ _ _ _ => true) (fun _ => true) (fun _ _ => true) (fun _ => true) (fun _ => true) true (fun _ => true) c
def funcB (fn : Func) : Bool := @Option.rec Code (fun _ => Bool) true (fun c => @Bool.rec (fun _ => Bool) false (codeB c) (!(fn.name == "runtime.NumGoroutine"))) fn.body
def funcsB (l : List Func) : Bool := @List.rec Func (fun _ => Bool) true (fun fn _ ih => @Bool.rec (fun _ => Bool) false ih (funcB fn)) l
theorem edgesB_mem {j : Nat} : ∀ {l : List Edge}, edgesB j l = true → ∀ e ∈ l, Region.binds .any e = true → e.on < j
  | [], _, e, he, _ => by cases he
  | x :: l, h, e, he, hb => by
    have h' : @Bool.rec (fun _ => Bool) (edgesB j l) (@Bool.rec (fun _ => Bool) false (edgesB j l) (Nat.blt x.on j)) (Region.binds .any x) = true := h
    cases hx : Region.binds .any x with
    | false =>
      rw [hx] at h'
      rcases List.mem_cons.1 he with rfl | he
      · rw [hx] at hb; cases hb
      · exact edgesB_mem h' e he hb
    | true =>
      rw [hx] at h'
      cases hl : Nat.blt x.on j with
      | false => rw [hl] at h'; cases h'
      | true =>
        rw [hl] at h'
        rcases List.mem_cons.1 he with rfl | he
        · exact Nat.blt_eq.mp hl
        · exact edgesB_mem h' e he hb
theorem apartB_mem {ops : Array Oper} {m : Nat} {o : Oper} : ∀ {l : List (Nat × Oper)}, apartB ops m o l = true → ∀ p ∈ l, bit m p.1 = true ∨ p.2.apart ops o = true
  | [], _, p, hp => by cases hp
  | x :: l, h, p, hp => by
    have h' : @Bool.rec (fun _ => Bool) (@Bool.rec (fun _ => Bool) false (apartB ops m o l) (x.2.apart ops o)) (apartB ops m o l) (bit m x.1) = true := h
    cases hb : bit m x.1 with
    | true =>
      rw [hb] at h'
      rcases List.mem_cons.1 hp with rfl | hp
      · exact .inl hb
      · exact apartB_mem h' p hp
    | false =>
      rw [hb] at h'
      cases ha : x.2.apart ops o with
      | false => rw [ha] at h'; cases h'
      | true =>
        rw [ha] at h'
        rcases List.mem_cons.1 hp with rfl | hp
        · exact .inr ha
        · exact apartB_mem h' p hp
theorem drawnGo_ok {ops : Array Oper} : ∀ (l : List Oper) (j : Nat) (el : List (Nat × Oper)), drawnGo ops l j (accN ops.toList j) el = true → (∀ k o, l[k]? = some o → ops.toList[j + k]? = some o) →
    (∀ i o, i < j → ops.toList[i]? = some o → (i, o) ∈ el) → ∀ k o, l[k]? = some o → edgesB (j + k) o.after.toList = true ∧ ∀ i oi, i < j + k → ops.toList[i]? = some oi → bit (msk ops.toList (j + k)) i = true ∨ oi.apart ops o = true
  | [], j, el, h, hL, hel, k, o, hk => by simp at hk
  | x :: l, j, el, h, hL, hel, k, o, hk => by
    have hx : ops.toList[j]? = some x := hL 0 x rfl
    have hm : maskL (accN ops.toList j) x.after.toList = msk ops.toList j := by simp only [msk, hx]
    have ha : (accN ops.toList j).put j (maskL (accN ops.toList j) x.after.toList) = accN ops.toList (j + 1) := by simp only [accN, hx]
    have h' : @Bool.rec (fun _ => Bool) false (@Bool.rec (fun _ => Bool) false (drawnGo ops l (j + 1) ((accN ops.toList j).put j (maskL (accN ops.toList j) x.after.toList)) ((j, x) :: el)) (apartB ops (maskL (accN ops.toList j) x.after.toList) x el)) (edgesB j x.after.toList) = true := h
    rw [ha, hm] at h'
    cases he : edgesB j x.after.toList with
    | false => rw [he] at h'; cases h'
    | true =>
      rw [he] at h'
      cases hap : apartB ops (msk ops.toList j) x el with
      | false => rw [hap] at h'; cases h'
      | true =>
        rw [hap] at h'
        cases k with
        | zero =>
          simp at hk; subst hk
          exact ⟨he, fun i oi hi hoi => apartB_mem hap _ (hel i oi (by omega) hoi)⟩
        | succ k =>
          have := drawnGo_ok l (j + 1) ((j, x) :: el) h' (fun k o hk => by have := hL (k + 1) o (by simpa using hk); rwa [show j + (k + 1) = j + 1 + k by omega] at this) (fun i oi hi hoi => by
            rcases Nat.lt_or_ge i j with hh | hh
            · exact List.mem_cons_of_mem _ (hel i oi hh hoi)
            · have : i = j := by omega
              subst this
              rw [hx] at hoi; cases hoi
              exact List.mem_cons_self) k o (by simpa using hk)
          rw [show j + (k + 1) = j + 1 + k by omega]
          exact this
theorem drawnB_ok {ops : Array Oper} (h : drawnB ops = true) : DrawnOK ops := by
  have key := drawnGo_ok (ops := ops) ops.toList 0 [] h (fun k o hk => by simpa using hk) (fun i o hi => by omega)
  refine ⟨fun j o hj e he hb => ?_, fun i j oi oj hij hi hj => ?_⟩
  · have := (key j o hj).1
    rw [Nat.zero_add] at this
    exact edgesB_mem this e (Array.mem_toList_iff.2 he) hb
  · have := (key j oj hj).2 i oi (by omega) hi
    rw [Nat.zero_add] at this
    exact this
theorem codeB_ok : ∀ (c : Code), codeB c = true → CodeOK c
  | .skip, _ => trivial
  | .region id ops draw, h => fun hd => by
    subst hd
    exact drawnB_ok h
  | .seq a b, h => by
    have h' : @Bool.rec (fun _ => Bool) false (codeB b) (codeB a) = true := h
    cases ha : codeB a with
    | false => rw [ha] at h'; cases h'
    | true => rw [ha] at h'; exact ⟨codeB_ok a ha, codeB_ok b h'⟩
  | .cond _ a b, h => by
    have h' : @Bool.rec (fun _ => Bool) false (codeB b) (codeB a) = true := h
    cases ha : codeB a with
    | false => rw [ha] at h'; cases h'
    | true => rw [ha] at h'; exact ⟨codeB_ok a ha, codeB_ok b h'⟩
  | .block _ b, h => codeB_ok b h
  | .loop b, h => codeB_ok b h
  | .rangeFunc .., _ => trivial
  | .exit _, _ => trivial
  | .scope _, _ => trivial
  | .label _, _ => trivial
  | .goto _, _ => trivial
  | .ret, _ => trivial
  | .refuse _, _ => trivial
theorem funcsB_mem : ∀ {l : List Func}, funcsB l = true → ∀ fn ∈ l, funcB fn = true
  | [], _, fn, hf => by cases hf
  | x :: l, h, fn, hf => by
    have h' : @Bool.rec (fun _ => Bool) false (funcsB l) (funcB x) = true := h
    cases hx : funcB x with
    | false => rw [hx] at h'; cases h'
    | true =>
      rw [hx] at h'
      rcases List.mem_cons.1 hf with rfl | hf
      · exact hx
      · exact funcsB_mem h' fn hf
theorem static_of {P : Program} (hm : P.follows .mixedOrders = true) (h : funcsB P.funcs.toList = true) : Static P := by
  have key : ∀ (f : FuncId) (fn : Func) (c : Code), P.funcs[f]? = some fn → fn.body = some c → CodeOK c ∧ (fn.name == "runtime.NumGoroutine") = false := by
    intro f fn c hf hb
    have hx := funcsB_mem h fn (Array.mem_toList_iff.2 (Array.mem_of_getElem? hf))
    unfold funcB at hx
    rw [hb] at hx
    have hx' : @Bool.rec (fun _ => Bool) false (codeB c) (!(fn.name == "runtime.NumGoroutine")) = true := hx
    cases hn : (fn.name == "runtime.NumGoroutine") with
    | true => rw [hn] at hx'; cases hx'
    | false => rw [hn] at hx'; exact ⟨codeB_ok c hx', rfl⟩
  exact ⟨hm, fun f fn c hf hb => (key f fn c hf hb).1, fun f fn c hf hb => (key f fn c hf hb).2⟩
end Go.Den

/- D25 -/
set_option linter.unusedVariables false
set_option linter.unusedSimpArgs false
set_option linter.unusedSectionVars false
namespace Go.Den
variable [Interp]
open Go.Lib
/-! ### What is said of some calls -/
abbrev Gn := List IV → H → Option (IV × H)
/-- What is said of this call is so. -/
def GoodAt (P : Program) (f : FuncId) (g : Gn) : Prop := ∀ (args : List IV) (h : H) (v : IV) (h' : H), g args h = some (v, h') →
  ∀ (e : Env) (w : World) (A : List Value), Rel P e h w → concL e args = some A → Answers P f A.toArray w (fun V w' => ∃ e', Step P e h w e' h' w' ∧ conc e' v = some V)
noncomputable def knL (l : List (Nat × Gn)) : Known := fun f => @List.rec (Nat × Gn) (fun _ => Option Gn) none (fun p _ ih => @Bool.rec (fun _ => Option Gn) ih (some p.2) (Nat.beq p.1 f)) l
theorem knL_ok {P : Program} : ∀ {l : List (Nat × Gn)}, (∀ p ∈ l, GoodAt P p.1 p.2) → KnownOK P (knL l)
  | [], _ => fun f g hf => by cases hf
  | p :: l, hp => fun f g hf => by
    have hf' : @Bool.rec (fun _ => Option Gn) (knL l f) (some p.2) (Nat.beq p.1 f) = some g := hf
    cases hb : Nat.beq p.1 f with
    | true =>
      rw [hb] at hf'; cases hf'
      have := Nat.eq_of_beq_eq_true hb
      subst this
      exact hp p (by simp)
    | false =>
      rw [hb] at hf'
      exact knL_ok (fun q hq => hp q (by simp [hq])) f g hf'
section
variable {P : Program}
/-- an entry of the model's that reads at most -/
theorem good_extern {f : FuncId} {fn : Func} {x : Array Value → Sem Value} (hf : P.funcs[f]? = some fn) (hname : (fn.name == "runtime.NumGoroutine") = false) (hb : fn.body.isNone = true) (hn : Extern.findNext fn = none) (he : Extern.find fn = some x) {g : Gn}
    (hg : ∀ (args : List IV) (h : H) (v : IV) (h' : H), g args h = some (v, h') → ∀ (e : Env) (w : World) (A : List Value), Rel P e h w → concL e args = some A → h' = h ∧ ∃ V, (x A.toArray).run P w = .ok V w ∧ conc e v = some V) : GoodAt P f g := by
  intro args h v h' hd e w A r hA
  obtain ⟨rfl, V, h1, h2⟩ := hg args h v h' hd e w A r hA
  refine .inl ⟨V, w, ?_, e, Step.refl r, h2⟩
  rw [run_callFunc_extern hf hname hb hn he, h1]
  rfl
noncomputable def idxL (c : Nat) (s : List UInt8) : Nat → IV := @List.rec UInt8 (fun _ => Nat → IV) (fun _ => .int .i64 (-1)) (fun b _ ih i => @Bool.rec (fun _ => IV) (ih (i + 1)) (.int .i64 (Int.ofNat i)) (Nat.beq b.toNat c)) s
/-- internal/bytealg.IndexByteString -/
noncomputable def gIdx : Gn := fun args h => match args with
  | [.str s, .int .u8 (.ofNat c)] => match Nat.blt c 256 with
    | true => some (idxL c s 0, h)
    | false => none
  | _ => none
theorem idxL_ok {e : Env} {c : Nat} (hc : c < 256) : ∀ (s : List UInt8) (i : Nat), conc e (idxL c s i) = some (.int .i64 (if indexByte s (UInt8.ofNat c) = -1 then -1 else indexByte s (UInt8.ofNat c) + i))
  | [], i => rfl
  | b :: s, i => by
    have h1 : idxL c (b :: s) i = @Bool.rec (fun _ => IV) (idxL c s (i + 1)) (.int .i64 (Int.ofNat i)) (Nat.beq b.toNat c) := rfl
    have hge := indexByte_ge s (UInt8.ofNat c)
    have hcn : (UInt8.ofNat c).toNat = c := by simp [Nat.mod_eq_of_lt hc]
    rw [h1]
    cases hb : Nat.beq b.toNat c with
    | true =>
      have hbc : b = UInt8.ofNat c := by
        apply UInt8.toNat_inj.1
        rw [hcn]; exact Nat.eq_of_beq_eq_true hb
      subst hbc
      simp [conc, indexByte]
    | false =>
      have hne : ¬ b = UInt8.ofNat c := by
        intro he
        subst he
        rw [hcn] at hb
        simp at hb
      show conc e (idxL c s (i + 1)) = _
      rw [idxL_ok hc s (i + 1)]
      have h2 : indexByte (b :: s) (UInt8.ofNat c) = if indexByte s (UInt8.ofNat c) == -1 then -1 else indexByte s (UInt8.ofNat c) + 1 := by
        simp [indexByte, hne]
      rw [h2]
      by_cases hm : indexByte s (UInt8.ofNat c) = -1
      · rw [if_pos hm, hm]; simp
      · have hbq : (indexByte s (UInt8.ofNat c) == -1) = false := by simpa using hm
        have hne1 : indexByte s (UInt8.ofNat c) + 1 ≠ -1 := by omega
        rw [if_neg hm, hbq]
        simp only [Bool.false_eq_true, if_false, if_neg hne1]
        congr 2
        push_cast
        omega
theorem good_idx {f : FuncId} {fn : Func} (hf : P.funcs[f]? = some fn) (hname : (fn.name == "runtime.NumGoroutine") = false) (hb : fn.body.isNone = true) (hn : Extern.findNext fn = none) (he : Extern.find fn = some Extern.BytealgIndexByte.indexByte) : GoodAt P f gIdx := by
  refine good_extern hf hname hb hn he (fun args h v h' hd e w A r hA => ?_)
  unfold gIdx at hd
  split at hd
  · rename_i s c
    split at hd
    · rename_i hlt
      cases hd
      obtain ⟨X, Y, h1, h2, rfl⟩ := args2 hA
      simp only [conc] at h1 h2; cases h1; cases h2
      refine ⟨rfl, _, run_indexByteString ⟨s.toArray⟩ (Int.ofNat c) w, ?_⟩
      rw [idxL_ok (Nat.blt_eq.mp hlt)]
      have e1 : (Int.ofNat c).toNat.toUInt8 = UInt8.ofNat c := rfl
      rw [e1]
      by_cases hm : indexByte s (UInt8.ofNat c) = -1
      · rw [if_pos hm]; simp [hm]
      · rw [if_neg hm]; simp
    · cases hd
  · cases hd
/-- reflectlite.TypeOf, at one type -/
noncomputable def gTypeOf (hb rt t0 : Nat) : Gn := fun args h => match args with
  | [.iface t _] => match Nat.beq t t0 with
    | true => some (.iface rt (.agg [.ptr hb t0]), h)
    | false => none
  | _ => none
theorem good_typeOf {f : FuncId} {fn : Func} {x : Array Value → Sem Value} {rt t0 : Nat} (hf : P.funcs[f]? = some fn) (hname : (fn.name == "runtime.NumGoroutine") = false) (hb : fn.body.isNone = true) (hn : Extern.findNext fn = none) (he : Extern.find fn = some x)
    (hx : ∀ (v : Value) (w : World), (x #[.iface t0 v]).run P w = .ok (.iface rt (.agg #[.pointer (some ⟨P.globals.size, t0, none⟩)])) w) : GoodAt P f (gTypeOf P.globals.size rt t0) := by
  refine good_extern hf hname hb hn he (fun args h v h' hd e w A r hA => ?_)
  unfold gTypeOf at hd
  split at hd
  · rename_i t u
    split at hd
    · rename_i ht
      have := Nat.eq_of_beq_eq_true ht
      subst this
      cases hd
      obtain ⟨X, h1, rfl⟩ := args1 hA
      obtain ⟨U, h2, rfl⟩ := conc_iface h1
      refine ⟨rfl, _, hx U w, ?_⟩
      obtain ⟨p, hp, hp1⟩ := r.glob P.globals.size (Nat.le_refl _)
      simp [conc, concL, hp, hp1]
    · cases hd
  · cases hd
/-- a method of reflectlite's rtype that says yes, at one type -/
noncomputable def gYes (hb t0 : Nat) : Gn := fun args h => match args with
  | [.agg [.ptr b t]] => match Nat.beq b hb, Nat.beq t t0 with
    | true, true => some (.bool true, h)
    | _, _ => none
  | _ => none
theorem good_yes {f : FuncId} {fn : Func} {x : Array Value → Sem Value} {t0 : Nat} (hf : P.funcs[f]? = some fn) (hname : (fn.name == "runtime.NumGoroutine") = false) (hb : fn.body.isNone = true) (hn : Extern.findNext fn = none) (he : Extern.find fn = some x)
    (hx : ∀ (w : World), (x #[.agg #[.pointer (some ⟨P.globals.size, t0, none⟩)]]).run P w = .ok (.bool true) w) : GoodAt P f (gYes P.globals.size t0) := by
  refine good_extern hf hname hb hn he (fun args h v h' hd e w A r hA => ?_)
  unfold gYes at hd
  split at hd
  · rename_i b t
    split at hd
    · rename_i hb ht
      have := Nat.eq_of_beq_eq_true ht
      subst this
      have := Nat.eq_of_beq_eq_true hb
      subst this
      cases hd
      obtain ⟨X, h1, rfl⟩ := args1 hA
      obtain ⟨C, h2, rfl⟩ := conc_agg h1
      obtain ⟨Y, h3, rfl⟩ := args1 h2
      obtain ⟨p, hp, rfl⟩ := conc_ptr h3
      obtain ⟨q, hq, hq1⟩ := r.glob P.globals.size (Nat.le_refl _)
      rw [hp] at hq; cases hq
      refine ⟨rfl, _, ?_, rfl⟩
      have := hx w
      rw [← hq1] at this
      exact this
    · cases hd
  · cases hd
end
end Go.Den

/- D26 -/
set_option linter.unusedVariables false
set_option linter.unusedSimpArgs false
set_option linter.unusedSectionVars false
namespace Go.Den
variable [Interp]
open Go.RowKit
section
variable {P : Program} {e : Env} {h h' : H} {w w' : World}
/-- Nothing that was there has turned. -/
theorem Step.below (r : Rel P e h w) (hb : Below w.heap.size w w') : Step P e h w e h w' :=
  ⟨Env.le_refl e, fun _ _ => rfl, Nat.le_refl _, ⟨r.dom, r.inj, fun id b hx => by obtain ⟨p, hp, k⟩ := r.blk id b hx; exact ⟨p, hp, k.mono (Env.le_refl e) (hb.block _ k.lt)⟩, r.glob, r.asm⟩,
    hb.os, hb.tape, hb.output, hb.size, fun k hk _ => hb.block k hk, fun _ _ h _ => h, fun id b p h1 h2 h3 => .inr ⟨id, b, p, h1, h2, h3, rfl⟩⟩
theorem answers_of_calls {f : FuncId} {fn : Func} (hf : P.funcs[f]? = some fn) (hname : (fn.name == "runtime.NumGoroutine") = false) (hb : fn.body.isSome = true) {A : Array Value} {K : Value → World → Prop}
    (hc : Calls P f A w (fun x w' => match x with | .returned V => K V w' | _ => False)) : Answers P f A w K := by
  refine .inr ⟨?_, hc⟩
  cases hbd : fn.body with
  | none => rw [hbd] at hb; cases hb
  | some c =>
    simp only [callFunc, Sem.run_bind, run_program, Result.andThen_ok, hf]
    simp [hname, hbd]
/-- internal/stringslite.Clone -/
noncomputable def gClone : Gn := fun args h => match args with
  | [.str s] => match Nat.ble s.length 281474976710656 with
    | true => some (.str s, h)
    | false => none
  | [.sstr t] => match less h.asm (tLen t) (.n 1000000) with
    | true => some (.sstr t, h)
    | false => none
  | _ => none
theorem good_clone {f : FuncId} {fn : Func} (hf : P.funcs[f]? = some fn) (hname : (fn.name == "runtime.NumGoroutine") = false) (hb : fn.body.isSome = true)
    (hc : ∀ (s : ByteArray) (w : World), s.size ≤ 281474976710656 → Calls P f #[.string s] w fun e w' => e = .returned (.string s) ∧ Below w.heap.size w w') : GoodAt P f gClone := by
  intro args h v h' hd e w A r hA
  unfold gClone at hd
  split at hd
  · rename_i s
    split at hd
    · rename_i hlt
      cases hd
      obtain ⟨X, h1, rfl⟩ := args1 hA
      simp only [conc] at h1; cases h1
      refine answers_of_calls hf hname hb ((hc ⟨s.toArray⟩ w (by rw [size_ba]; exact Nat.ble_eq.mp hlt)).mono fun x w' hx => ?_)
      obtain ⟨rfl, hbl⟩ := hx
      exact ⟨e, Step.below r hbl, rfl⟩
    · cases hd
  · rename_i t
    split at hd
    · rename_i hless
      cases hd
      obtain ⟨X, h1, rfl⟩ := args1 hA
      simp only [conc] at h1; cases h1
      have hlt := less_ok r.asm hless
      rw [den_n] at hlt
      have hlen : (tLen t).den e.ρ = ((t.str e.ρ).length : Int) := by
        unfold tLen
        split <;> rfl
      rw [hlen] at hlt
      refine answers_of_calls hf hname hb ((hc ⟨(t.str e.ρ).toArray⟩ w (by rw [size_ba]; omega)).mono fun x w' hx => ?_)
      obtain ⟨rfl, hbl⟩ := hx
      exact ⟨e, Step.below r hbl, rfl⟩
    · cases hd
  · cases hd
/-- errors.As at a target **T: nil; an error of *T itself -/
noncomputable def gAs (g0 hb rt te tf tp : Nat) : Gn := fun args h => match args with
  | [.nilIface, _] => some (.bool false, h)
  | [.iface t v, .iface u (.ptr b o)] => match Nat.beq t tf, Nat.beq u tp, v with
    | true, true, .ptr _ _ => ob (h.m.get g0) fun x => ob (x.cell 0) fun y => match y with
      | .iface r (.agg [.ptr c z]) => match Nat.beq r rt, Nat.beq c hb, Nat.beq z te with
        | true, true, true => ob (h.store b o [v]) fun h => some (.bool true, h)
        | _, _, _ => none
      | _ => none
    | _, _, _ => none
  | _ => none
theorem good_as {f : FuncId} {fn : Func} {g0 rt te tf tp : Nat} (hg0 : g0 ≤ P.globals.size) (hf : P.funcs[f]? = some fn) (hname : (fn.name == "runtime.NumGoroutine") = false) (hb : fn.body.isSome = true)
    (hnil : ∀ (t : Value) (w : World), Calls P f #[.nilIface, t] w fun e w' => e = .returned (.bool false) ∧ w' = w)
    (hhit : ∀ (ea t : Addr) (old : Value) (w : World), w.cell? ⟨g0, 0, none⟩ = some (.iface rt (.agg #[.pointer (some ⟨P.globals.size, te, none⟩)])) → w.cell? t = some old → w.frozen? t = false →
      Calls P f #[.iface tf (.pointer (some ea)), .iface tp (.pointer (some t))] w fun ev w' => ev = .returned (.bool true) ∧ ∃ w1, Below w.heap.size w w1 ∧ w' = w1.setCell t (.pointer (some ea))) :
    GoodAt P f (gAs g0 P.globals.size rt te tf tp) := by
  intro args h v h' hd e w A r hA
  unfold gAs at hd
  split at hd
  · rename_i t
    cases hd
    obtain ⟨X, Y, h1, h2, rfl⟩ := args2 hA
    simp only [conc] at h1; cases h1
    refine answers_of_calls hf hname hb ((hnil Y w).mono fun x w' hx => ?_)
    obtain ⟨rfl, rfl⟩ := hx
    exact ⟨e, Step.refl r, rfl⟩
  · rename_i t u tu b o
    split at hd
    · rename_i b1 o1 ht hu
      have := Nat.eq_of_beq_eq_true ht
      subst this
      have := Nat.eq_of_beq_eq_true hu
      subst this
      obtain ⟨blk, q1, q2⟩ := ob_some hd
      obtain ⟨y, q3, q4⟩ := ob_some q2
      split at q4
      · rename_i r0 c z
        split at q4
        · rename_i a1 a2 a3
          have := Nat.eq_of_beq_eq_true a1
          subst this
          have := Nat.eq_of_beq_eq_true a2
          subst this
          have := Nat.eq_of_beq_eq_true a3
          subst this
          obtain ⟨h2', q5, q6⟩ := ob_some q4
          cases q6
          obtain ⟨X, Y, p1, p2, rfl⟩ := args2 hA
          obtain ⟨U, p3, rfl⟩ := conc_iface p1
          obtain ⟨U2, p4, rfl⟩ := conc_iface p2
          obtain ⟨pe, hpe, rfl⟩ := conc_ptr p3
          obtain ⟨pt, hpt, rfl⟩ := conc_ptr p4
          -- the package's variable
          obtain ⟨pg, hpg, hpg1⟩ := r.glob g0 hg0
          obtain ⟨V, c1, c2⟩ := cell_ok (r.at q1 hpg) q3
          obtain ⟨V2, c3, rfl⟩ := conc_iface c1
          obtain ⟨C, c4, rfl⟩ := conc_agg c3
          obtain ⟨V4, c5, rfl⟩ := args1 c4
          obtain ⟨ph, hph, rfl⟩ := conc_ptr c5
          obtain ⟨ph', hph', hph1⟩ := r.glob P.globals.size (Nat.le_refl _)
          rw [hph] at hph'; cases hph'
          rw [hpg1, hph1] at c2
          -- the target
          obtain ⟨tt, n, zz, tr, md, tr', s1, s2, s3, s4⟩ := H.store_some q5
          obtain ⟨cur, t', fr, k0, kt, k1, k2, k3, k4⟩ := r.at s1 hpt
          obtain ⟨_, q8, _⟩ := storeT_ok _ s3
          have hle := q8 (by simp)
          simp only [List.length_cons, List.length_nil] at hle
          have hcell : w.cell? ⟨pt.1, o, none⟩ = some cur[o] := by simp [World.cell?, k0, show o < cur.size by omega]
          have hfro : w.frozen? ⟨pt.1, o, none⟩ = false := by
            have := k2 s2 o (by omega)
            simp only [World.frozen?, k0]
            simp only [Bool.and_eq_false_iff, decide_eq_false_iff_not]
            by_cases hh : fr.1 ≤ o
            · right; intro hc; exact this ⟨hh, hc⟩
            · left; exact hh
          refine answers_of_calls hf hname hb ((hhit ⟨pe.1, o1, none⟩ ⟨pt.1, o, none⟩ _ w c2 hcell hfro).mono fun x w' hx => ?_)
          obtain ⟨rfl, w1, hbl, rfl⟩ := hx
          have st := Step.below r hbl
          obtain ⟨_, st2⟩ := store_ok (P := P) st.rel (L := [.pointer (some ⟨pe.1, o1, none⟩)]) hpt (concL_mk p3 rfl) q5 (by simp)
          exact ⟨e, st.trans st2, rfl⟩
        · cases q4
      · cases q4
    · cases hd
  · cases hd
end
end Go.Den

/- D27 -/
set_option linter.unusedVariables false
set_option linter.unusedSimpArgs false
set_option linter.unusedSectionVars false
noncomputable section
namespace Go.Den
variable [Interp]
/-! ### The memory that a law begins with -/
/-- a block that may not be written -/
def ro (l : List IV) : Blk := .cells 0 l.length [] (listT l 0 .nil) 2
def putL (l : List (Nat × Blk)) : T Blk := @List.rec (Nat × Blk) (fun _ => T Blk) .nil (fun p _ ih => ih.put p.1 p.2) l
def baseE (gs : Nat) (ρ : Nat → Dy) (ω : Nat → Addr) : Env := ⟨fun g => if g ≤ gs then some (g, fun _ => 0) else none, ρ, ω⟩
theorem putL_get : ∀ {l : List (Nat × Blk)} {i : Nat} {b : Blk}, (putL l).get i = some b → (i, b) ∈ l
  | [], i, b, h => by rw [show putL [] = T.nil from rfl, get_nil] at h; cases h
  | p :: l, i, b, h => by
    have h' : ((putL l).put p.1 p.2).get i = some b := h
    rw [get_put] at h'
    by_cases hi : i = p.1
    · rw [if_pos hi] at h'; cases h'; subst hi; exact List.mem_cons_self
    · rw [if_neg hi] at h'; exact List.mem_cons_of_mem _ (putL_get h')
theorem baseE_at {gs g : Nat} {ρ : Nat → Dy} {ω : Nat → Addr} (hg : g ≤ gs) : (baseE gs ρ ω) g = some (g, fun _ => 0) := if_pos hg
theorem rel_base {P : Program} {w : World} {ρ : Nat → Dy} {ω : Nat → Addr} {asm : Asm} (l : List (Nat × Blk)) (ha : AsmOK asm ρ)
    (hl : ∀ p ∈ l, p.1 < P.globals.size ∧ BlkOK P (baseE P.globals.size ρ ω) p.2 (p.1, fun _ => 0) w) : Rel P (baseE P.globals.size ρ ω) ⟨P.globals.size + 1, putL l, asm⟩ w := by
  refine ⟨fun id hid => ?_, fun i j a b p q hi hj hp hq hpq => ?_, fun id b hb => ?_, fun g hg => ⟨_, baseE_at hg, rfl⟩, ha⟩
  · have hid' : P.globals.size + 1 ≤ id := hid
    exact if_neg (by omega)
  · have h1 := (hl _ (putL_get hi)).1
    have h2 := (hl _ (putL_get hj)).1
    rw [baseE_at (by omega)] at hp hq
    cases hp; cases hq
    exact hpq
  · have h1 := hl _ (putL_get hb)
    exact ⟨_, baseE_at (by omega), h1.2⟩
theorem ro_ok {P : Program} {e : Env} {w : World} {g : Nat} {l : List IV} {L : List Value} (hc : concL e l = some L) (hw : ∃ (cur : Array Value) (t : TypeId) (fr : Nat × Nat), w.heap[g]? = some (.cells cur t fr) ∧ ∀ (i : Nat) (V : Value), L[i]? = some V → cur[i]? = some V) :
    BlkOK P e (ro l) (g, fun _ => 0) w := by
  obtain ⟨cur, t, fr, h1, h2⟩ := hw
  have hlen := concL_length hc
  refine ⟨cur, t, fr, h1, fun h => absurd rfl h, ?_, fun h => absurd rfl h, fun o v hv => ?_, fun h => by cases h⟩
  · rcases Nat.lt_or_ge cur.size l.length with hlt | hge
    · exfalso
      have hx : cur.size < L.length := by omega
      have := h2 cur.size L[cur.size] (List.getElem?_eq_getElem hx)
      simp at this
    · exact hge
  · have := cell_listT hv
    obtain ⟨V, h3, h4⟩ := concL_get hc o v this
    exact ⟨V, h3, h2 o V h4⟩
theorem cells_of_var {P : Program} {w : World} {n : String} {g : Nat} {cs : Array Value} (hg : P.globalNamed n = some g) (h : w.var? P n = some cs) : ∃ t fr, w.heap[g]? = some (.cells cs t fr) := by
  simp only [World.var?, hg, Option.bind_some] at h
  split at h
  · rename_i c t fr hb
    cases h
    exact ⟨t, fr, hb⟩
  · cases h
end Go.Den

/- D28 -/
set_option linter.unusedVariables false
set_option linter.unusedSimpArgs false
set_option linter.unusedSectionVars false
noncomputable section
namespace Go.Den
variable [Interp]
open Go.RowKit
def cmpN (c : Cmp) : Nat := @Cmp.rec (fun _ => Nat) 0 1 2 3 4 c
theorem cmpN_inj {c d : Cmp} (h : Nat.beq (cmpN c) (cmpN d) = true) : c = d := by cases c <;> cases d <;> first | rfl | (exact absurd h (by decide))
def asmL (l : List (Cmp × SE × SE × Bool)) (c : Cmp) (a b : SE) : Option Bool := @List.rec (Cmp × SE × SE × Bool) (fun _ => Option Bool) none (fun p _ ih => @Bool.rec (fun _ => Option Bool) ih (@Bool.rec (fun _ => Option Bool) ih (@Bool.rec (fun _ => Option Bool) ih (some p.2.2.2) (eqSE p.2.2.1 b)) (eqSE p.2.1 a)) (Nat.beq (cmpN p.1) (cmpN c))) l
theorem asmL_mem : ∀ {l : List (Cmp × SE × SE × Bool)} {c : Cmp} {a b : SE} {r : Bool}, asmL l c a b = some r → (c, a, b, r) ∈ l
  | [], c, a, b, r, h => by cases h
  | p :: l, c, a, b, r, h => by
    have h' : @Bool.rec (fun _ => Option Bool) (asmL l c a b) (@Bool.rec (fun _ => Option Bool) (asmL l c a b) (@Bool.rec (fun _ => Option Bool) (asmL l c a b) (some p.2.2.2) (eqSE p.2.2.1 b)) (eqSE p.2.1 a)) (Nat.beq (cmpN p.1) (cmpN c)) = some r := h
    cases h1 : Nat.beq (cmpN p.1) (cmpN c) with
    | false => rw [h1] at h'; exact List.mem_cons_of_mem _ (asmL_mem h')
    | true =>
      rw [h1] at h'
      cases h2 : eqSE p.2.1 a with
      | false => rw [h2] at h'; exact List.mem_cons_of_mem _ (asmL_mem h')
      | true =>
        rw [h2] at h'
        cases h3 : eqSE p.2.2.1 b with
        | false => rw [h3] at h'; exact List.mem_cons_of_mem _ (asmL_mem h')
        | true =>
          rw [h3] at h'
          have e1 := cmpN_inj h1
          have e2 := eqSE_eq _ _ h2
          have e3 := eqSE_eq _ _ h3
          have h'' : some p.2.2.2 = some r := h'
          have e4 := Option.some.inj h''
          rw [← e1, ← e2, ← e3, ← e4]
          exact List.mem_cons_self
theorem asmL_ok {l : List (Cmp × SE × SE × Bool)} {ρ : Nat → Dy} (h : ∀ p ∈ l, cmpV p.1 (p.2.1.D ρ) (p.2.2.1.D ρ) = p.2.2.2) : AsmOK (asmL l) ρ :=
  fun c a b r hr => h _ (asmL_mem hr)
def saysYes (r : Option (IV × H)) : Bool := match r with
  | some (.bool true, _) => true
  | _ => false
theorem saysYes_ok {r : Option (IV × H)} (h : saysYes r = true) : ∃ h', r = some (.bool true, h') := by
  unfold saysYes at h
  split at h
  · exact ⟨_, rfl⟩
  · cases h
theorem calls_of_answers {P : Program} {f : FuncId} {fn : Func} {w : World} (hf : P.funcs[f]? = some fn) (hname : (fn.name == "runtime.NumGoroutine") = false) (hb : fn.body.isSome = true) {A : Array Value} {K : Value → World → Prop}
    (ha : Answers P f A w K) : Calls P f A w (fun x w' => match x with | .returned V => K V w' | _ => False) := by
  rcases ha with ⟨V, w', h1, _⟩ | ⟨_, h2⟩
  · exfalso
    cases hbd : fn.body with
    | none => rw [hbd] at hb; cases hb
    | some c =>
      simp only [callFunc, Sem.run_bind, run_program, Result.andThen_ok, hf] at h1
      simp [hname, hbd] at h1
  · exact h2
/-- A law that the evaluator has run. -/
theorem law_calls {P : Program} (hS : Static P) {known : Known} (hk : KnownOK P known) {n : Nat} {f : FuncId} {fn : Func} (hf : P.funcs[f]? = some fn) (hname : (fn.name == "runtime.NumGoroutine") = false) (hb : fn.body.isSome = true)
    {args : List IV} {h : H} (hrun : saysYes (runD P known n f args h) = true) (hro : ∀ id b, h.m.get id = some b → b.rw = false) {e : Env} {W : World} (r : Rel P e h W) {A : List Value} (hA : concL e args = some A) :
    Calls P f A.toArray W fun x W' => x = .returned (.bool true) ∧ Below W.heap.size W W' := by
  obtain ⟨h', hr⟩ := saysYes_ok hrun
  refine (calls_of_answers hf hname hb (runD_ok hS hk n f args h _ h' hr e W A r hA)).mono fun x W' hx => ?_
  cases x with
  | returned V =>
    obtain ⟨e', st, hV⟩ := hx
    simp only [conc] at hV; cases hV
    exact ⟨rfl, st.os, st.tape, st.output, st.size, fun k hk => st.old k hk (fun id b p hb' hrw _ => by rw [hro id b hb'] at hrw; cases hrw)⟩
  | panicked c => exact hx.elim
  | outgrown => exact hx.elim
theorem putL_ro {l : List (Nat × Blk)} (h : ∀ p ∈ l, p.2.rw = false) : ∀ id b, (putL l).get id = some b → b.rw = false := fun id b hb => h _ (putL_get hb)
end Go.Den

/- D29 -/
set_option linter.unusedVariables false
set_option linter.unusedSimpArgs false
set_option linter.unusedSectionVars false
namespace Go.Den
variable [Interp]
/-! ### What is kept -/
/-- What was there and is not the call's to write is as it was. -/
structure Keeps (own : Nat → Prop) (w0 w : World) : Prop where
  os : w.os = w0.os
  tape : w.tape = w0.tape
  output : w.output = w0.output
  size : w0.heap.size ≤ w.heap.size
  old : ∀ k, k < w0.heap.size → ¬ own k → w.heap[k]? = w0.heap[k]?
theorem Keeps.refl (own : Nat → Prop) (w : World) : Keeps own w w := ⟨rfl, rfl, rfl, Nat.le_refl _, fun _ _ _ => rfl⟩
theorem Keeps.trans {own : Nat → Prop} {a b c : World} (h : Keeps own a b) (k : Keeps own b c) : Keeps own a c :=
  ⟨k.os.trans h.os, k.tape.trans h.tape, k.output.trans h.output, Nat.le_trans h.size k.size, fun i hi hn => (k.old i (Nat.lt_of_lt_of_le hi h.size) hn).trans (h.old i hi hn)⟩
section
variable {P : Program} {own : Nat → Prop} {w0 : World} {sz : Nat}
structure St (P : Program) (own : Nat → Prop) (w0 : World) (e : Env) (h : H) (w : World) : Prop where
  rel : Rel P e h w
  keeps : Keeps own w0 w
  owns : ∀ id b p, h.m.get id = some b → b.rw = true → e id = some p → w0.heap.size ≤ p.1 ∨ own p.1
theorem St.step {e e' : Env} {h h' : H} {w w' : World} (st : St P own w0 e h w) (s : Step P e h w e' h' w') : St P own w0 e' h' w' := by
  refine ⟨s.rel, ⟨s.os.trans st.keeps.os, s.tape.trans st.keeps.tape, s.output.trans st.keeps.output, Nat.le_trans st.keeps.size s.size, fun k hk hn => ?_⟩, fun id b p hb hr hp => ?_⟩
  · have hk' := Nat.lt_of_lt_of_le hk st.keeps.size
    rw [s.old k hk' (fun id b p hb hr hp he => ?_), st.keeps.old k hk hn]
    rcases st.owns id b p hb hr hp with hl | ho
    · omega
    · rw [he] at ho; exact hn ho
  · rcases s.own id b p hb hr hp with hl | ⟨id0, b0, p0, q1, q2, q3, q4⟩
    · exact .inl (Nat.le_trans st.keeps.size hl)
    · rw [← q4]; exact st.owns id0 b0 p0 q1 q2 q3
/-- Where a run stands. -/
structure Stt (P : Program) (own : Nat → Prop) (w0 : World) (sz : Nat) (e : Env) (tm : Tm) (h : H) (a : Act) (w : World) : Prop where
  st : St P own w0 e h w
  tm : TmOK e tm a.tmps
  sz : a.tmps.size = sz
  df : a.defers = []
end
/-! ### Code, up to a loop -/
inductive Fr where
  | seq (y : Code)
  | blk (id : Nat)
  | mark (n : Nat)
inductive SRes where
  | bad
  | fin (e : Ex) (tm : Tm) (h : H)
  | stop (id : Nat) (b : Code) (K : List Fr) (tm : Tm) (h : H)
  | again (n : Nat) (tm : Tm) (h : H)
noncomputable section
abbrev Kont := Ex → Tm → H → SRes
def catchE (id : Nat) (e : Ex) : Ex := @Ex.rec (fun _ => Ex) .normal (fun i => @Bool.rec (fun _ => Ex) (.exit i) .normal (Nat.beq i id)) .ret e
def thenK (n : Tm → H → SRes) (k : Kont) : Kont := fun e tm h => @Ex.rec (fun _ => SRes) (n tm h) (fun i => k (.exit i) tm h) (k .ret tm h) e
def ofRes (k : Kont) (r : Res) : SRes := @Res.rec (fun _ => SRes) .bad (fun e tm h => k e tm h) r
section
variable (P : Program) (call : CallFn) (sz fuel : Nat) (stp : Nat → Bool)
def execS (c : Code) : Kont → List Fr → Tm → H → SRes :=
  @Code.rec (fun _ => Kont → List Fr → Tm → H → SRes)
    (fun k _ tm h => k .normal tm h)
    (fun _ ops draw k _ tm h => ofRes k (regionD P call sz ops draw tm h))
    (fun _ y ea eb k K tm h => ea (thenK (eb k K) k) (.seq y :: K) tm h)
    (fun c _ _ ea eb k K tm h => match ev P tm c with
      | some (.bool x) => @Bool.rec (fun _ => SRes) (eb k K tm h) (ea k K tm h) x
      | _ => .bad)
    (fun id b eb k K tm h => @Bool.rec (fun _ => SRes) (eb (fun e => k (catchE id e)) (.blk id :: K) tm h) (.stop id b K tm h) (stp id))
    (fun b _ k _ tm h => ofRes k (loopD (execD P call sz fuel b) fuel tm h))
    (fun _ _ _ _ _ _ _ _ _ _ => .bad)
    (fun i k _ tm h => k (.exit i) tm h)
    (fun _ _ _ _ _ _ => .bad)
    (fun _ _ _ _ _ => .bad)
    (fun _ _ _ _ _ => .bad)
    (fun k _ tm h => k .ret tm h)
    (fun _ _ _ _ _ => .bad) c
def finK : Kont := fun e tm h => .fin e tm h
def resume (K : List Fr) : Kont :=
  @List.rec Fr (fun _ => Kont) finK (fun f K ih => @Fr.rec (fun _ => Kont) (fun y => thenK (execS P call sz fuel stp y ih K) ih) (fun id e => ih (catchE id e)) (fun n => thenK (fun tm h => .again n tm h) ih) f) K
end
/-- What is still to be shown behind a piece of code. -/
def wpK (P : Program) (R : Nat → Act → World → Prop) (Q : Exit → Act → World → Prop) : List Fr → Exit → Act → World → Prop
  | [] => Q
  | .seq y :: K => Exit.then (y.wp P (wpK P R Q K)) (wpK P R Q K)
  | .blk id :: K => Exit.inBlock id (wpK P R Q K)
  | .mark n :: K => Exit.then (R n) (wpK P R Q K)
section
variable {P : Program} {call : CallFn} {sz fuel : Nat} {stp : Nat → Bool} {own : Nat → Prop} {w0 : World} {R : Nat → Act → World → Prop} {Q : Exit → Act → World → Prop}
def PostS (P : Program) (own : Nat → Prop) (w0 : World) (sz : Nat) (R : Nat → Act → World → Prop) (Q : Exit → Act → World → Prop) (e : Env) : SRes → Prop
  | .bad => False
  | .fin ex tm h => ∀ e' a w, e.le e' → Stt P own w0 sz e' tm h a w → Q (exOf ex) a w
  | .stop id b K tm h => ∀ e' a w, e.le e' → Stt P own w0 sz e' tm h a w → (Code.block id b).wp P (wpK P R Q K) a w
  | .again n tm h => ∀ e' a w, e.le e' → Stt P own w0 sz e' tm h a w → R n a w
theorem PostS.mono {e e1 : Env} (hle : e.le e1) : ∀ {r : SRes}, PostS P own w0 sz R Q e r → PostS P own w0 sz R Q e1 r
  | .bad, h => h
  | .fin _ _ _, h => fun e' a w hl s => h e' a w (Env.le_trans hle hl) s
  | .stop _ _ _ _ _, h => fun e' a w hl s => h e' a w (Env.le_trans hle hl) s
  | .again _ _ _, h => fun e' a w hl s => h e' a w (Env.le_trans hle hl) s
/-- The continuation is right. -/
def KontOK (P : Program) (own : Nat → Prop) (w0 : World) (sz : Nat) (R : Nat → Act → World → Prop) (Q : Exit → Act → World → Prop) (k : Kont) (K : List Fr) : Prop :=
  ∀ (ex : Ex) (tm : Tm) (h : H) (e : Env) (a : Act) (w : World), Stt P own w0 sz e tm h a w → PostS P own w0 sz R Q e (k ex tm h) → wpK P R Q K (exOf ex) a w
theorem catchE_inBlock {id : Nat} {ex : Ex} {F : Exit → Act → World → Prop} {a : Act} {w : World} (h : F (exOf (catchE id ex)) a w) : Exit.inBlock id F (exOf ex) a w := by
  cases ex with
  | normal => exact h
  | ret => exact h
  | exit i =>
    show (if i = id then F .normal a w else F (.exit i) a w)
    have h' : F (exOf (@Bool.rec (fun _ => Ex) (.exit i) .normal (Nat.beq i id))) a w := h
    cases hb : Nat.beq i id with
    | true => rw [hb] at h'; rw [if_pos (Nat.eq_of_beq_eq_true hb)]; exact h'
    | false => rw [hb] at h'; rw [if_neg (fun he => by subst he; simp at hb)]; exact h'
theorem thenK_ok {y : Code} {k : Kont} {K : List Fr} {f : Tm → H → SRes} (hy : ∀ tm h e a w, Stt P own w0 sz e tm h a w → PostS P own w0 sz R Q e (f tm h) → y.wp P (wpK P R Q K) a w) (hk : KontOK P own w0 sz R Q k K) : KontOK P own w0 sz R Q (thenK f k) (.seq y :: K) := by
  intro ex tm h e a w s hp
  cases ex with
  | normal => exact hy tm h e a w s hp
  | exit i => exact hk (.exit i) tm h e a w s hp
  | ret => exact hk .ret tm h e a w s hp
theorem ofRes_ok {k : Kont} {K : List Fr} {r : Run} {c : Code} (hr : Runs P sz r c) (hk : KontOK P own w0 sz R Q k K) {tm : Tm} {h : H} {e : Env} {a : Act} {w : World} (s : Stt P own w0 sz e tm h a w) (hp : PostS P own w0 sz R Q e (ofRes k (r tm h))) : c.wp P (wpK P R Q K) a w := by
  cases hx : r tm h with
  | bad => rw [hx] at hp; exact hp.elim
  | to ex tm' h' =>
    rw [hx] at hp
    exact hr tm h ex tm' h' hx e a w _ s.tm s.st.rel s.sz (fun e' a' w' st k' z d => hk ex tm' h' e' a' w' ⟨s.st.step st, k', z, d.trans s.df⟩ (hp.mono st.le))
theorem execS_ok (hm : P.follows .mixedOrders = true) (hs : Sound P call) : ∀ (c : Code), CodeOK c → ∀ (k : Kont) (K : List Fr), KontOK P own w0 sz R Q k K → ∀ (tm : Tm) (h : H) (e : Env) (a : Act) (w : World), Stt P own w0 sz e tm h a w →
    PostS P own w0 sz R Q e (execS P call sz fuel stp c k K tm h) → c.wp P (wpK P R Q K) a w
  | .skip, _, k, K, hk, tm, h, e, a, w, s, hp => wp_skip (hk .normal tm h e a w s hp)
  | .region id ops draw, hc, k, K, hk, tm, h, e, a, w, s, hp => ofRes_ok (execD_ok (fuel := fuel) hm hs (.region id ops draw) hc) hk s hp
  | .seq x y, hc, k, K, hk, tm, h, e, a, w, s, hp =>
    wp_seq (execS_ok hm hs x hc.1 _ (.seq y :: K) (thenK_ok (fun tm h e a w s hp => execS_ok hm hs y hc.2 k K hk tm h e a w s hp) hk) tm h e a w s hp)
  | .cond c x y, hc, k, K, hk, tm, h, e, a, w, s, hp => by
    have hp' : PostS P own w0 sz R Q e (match ev P tm c with
      | some (.bool x') => @Bool.rec (fun _ => SRes) (execS P call sz fuel stp y k K tm h) (execS P call sz fuel stp x k K tm h) x'
      | _ => .bad) := hp
    split at hp'
    · rename_i b hb
      have hev := ev_ok (a := a) s.tm s.st.rel hb
      simp only [conc] at hev
      have hev' := (Option.some.inj hev).symm
      cases b with
      | true => exact wp_cond hev' (execS_ok hm hs x hc.1 k K hk tm h e a w s hp')
      | false => exact wp_cond hev' (execS_ok hm hs y hc.2 k K hk tm h e a w s hp')
    · exact hp'.elim
  | .block id b, hc, k, K, hk, tm, h, e, a, w, s, hp => by
    have hp' : PostS P own w0 sz R Q e (@Bool.rec (fun _ => SRes) (execS P call sz fuel stp b (fun e => k (catchE id e)) (.blk id :: K) tm h) (.stop id b K tm h) (stp id)) := hp
    cases hst : stp id with
    | true => rw [hst] at hp'; exact hp' e a w (Env.le_refl e) s
    | false =>
      rw [hst] at hp'
      exact wp_block (execS_ok hm hs b hc _ (.blk id :: K) (fun ex tm h e a w s hp => catchE_inBlock (hk _ tm h e a w s hp)) tm h e a w s hp')
  | .loop b, hc, k, K, hk, tm, h, e, a, w, s, hp => ofRes_ok (execD_ok (fuel := fuel) hm hs (.loop b) hc) hk s hp
  | .rangeFunc .., _, _, _, _, _, _, _, _, _, _, hp => hp.elim
  | .exit i, _, k, K, hk, tm, h, e, a, w, s, hp => wp_exit (hk (.exit i) tm h e a w s hp)
  | .scope .., _, _, _, _, _, _, _, _, _, _, hp => hp.elim
  | .label .., _, _, _, _, _, _, _, _, _, _, hp => hp.elim
  | .goto .., _, _, _, _, _, _, _, _, _, _, hp => hp.elim
  | .ret, _, k, K, hk, tm, h, e, a, w, s, hp => wp_ret (hk .ret tm h e a w s hp)
  | .refuse .., _, _, _, _, _, _, _, _, _, _, hp => hp.elim
theorem finK_ok : KontOK P own w0 sz R Q finK [] := fun ex tm h e a w s hp => hp e a w (Env.le_refl e) s
/-- Every piece of code of the frames is fit. -/
def FrsOK : List Fr → Prop
  | [] => True
  | .seq y :: K => CodeOK y ∧ FrsOK K
  | _ :: K => FrsOK K
theorem resume_ok (hm : P.follows .mixedOrders = true) (hs : Sound P call) : ∀ (K : List Fr), FrsOK K → KontOK P own w0 sz R Q (resume P call sz fuel stp K) K
  | [], _ => finK_ok
  | .seq y :: K, hK => thenK_ok (fun tm h e a w s hp => execS_ok hm hs y hK.1 _ K (resume_ok hm hs K hK.2) tm h e a w s hp) (resume_ok hm hs K hK.2)
  | .blk id :: K, hK => fun ex tm h e a w s hp => catchE_inBlock (resume_ok hm hs K hK _ tm h e a w s hp)
  | .mark n :: K, hK => fun ex tm h e a w s hp => by
    cases ex with
    | normal => exact hp e a w (Env.le_refl e) s
    | exit i => exact resume_ok hm hs K hK (.exit i) tm h e a w s hp
    | ret => exact resume_ok hm hs K hK .ret tm h e a w s hp
/-- A loop: what holds at its head, and a number that every round lowers. -/
theorem loop_wp {b : Code} {Q' : Exit → Act → World → Prop} (I : Nat → Act → World → Prop) (hstep : ∀ n a w, I n a w → b.wp P (Exit.then (fun a w => ∃ m, m < n ∧ I m a w) Q') a w) {n : Nat} {a : Act} {w : World} (hI : I n a w) : (Code.loop b).wp P Q' a w := by
  have key : ∀ N n a w, n < N → I n a w → Code.rounds P b Q' N a w := by
    intro N
    induction N with
    | zero => intro n a w hn; omega
    | succ N ih =>
      intro n a w hn hI
      rw [rounds_succ]
      refine wp_mono (hstep n a w hI) (fun ex a' w' hq => ?_)
      cases ex with
      | normal => obtain ⟨m, hm, hI'⟩ := hq; exact ih m a' w' (by omega) hI'
      | _ => exact hq
  exact wp_loop_rounds (n + 1) (key (n + 1) n a w (by omega) hI)
end
end
end Go.Den

/- D30 -/
set_option linter.unusedVariables false
set_option linter.unusedSimpArgs false
set_option linter.unusedSectionVars false
noncomputable section
namespace Go.Den
variable [Interp]
/-! ### Facts -/
abbrev Fact := Cmp × SE × SE × Bool
def Fact.holds (ρ : Nat → Dy) (f : Fact) : Prop := cmpV f.1 (f.2.1.D ρ) (f.2.2.1.D ρ) = f.2.2.2
/-- what holds of all numbers -/
def asmK (c : Cmp) (a b : SE) : Option Bool := match c, b with
  | .lt, .n z => match a with
    | .n y => some (!leZ z y)
    | .app f _ _ _ => @Bool.rec (fun _ => Option Bool) (@Bool.rec (fun _ => Option Bool) none (some false) (natT a && leZ z 0)) (some true) (Nat.beq f 1 && leZ 256 z)
    | _ => none
  | .le, .n z => match a with
    | .n y => some (leZ y z)
    | .app _ _ _ _ => @Bool.rec (fun _ => Option Bool) none (some false) (natT a && !leZ 0 z)
    | _ => none
  | .eq, .n z => match a with
    | .n y => some (eqZ y z)
    | .app _ _ _ _ => @Bool.rec (fun _ => Option Bool) none (some false) (natT a && !leZ 0 z)
    | _ => none
  | .seq, .lit s => match a with
    | .lit r => some (eqU r s)
    | _ => none
  | _, _ => none
theorem asmK_ok (ρ : Nat → Dy) : AsmOK asmK ρ := by
  intro c a b r h
  unfold asmK at h
  split at h
  · rename_i z
    show decide (a.den ρ < (SE.n z).den ρ) = r
    rw [den_n]
    split at h
    · cases h; rw [den_n, leZ_eq, Bool.eq_iff_iff]; simp
    · rename_i f x y u
      cases hb : (Nat.beq f 1 && leZ 256 z) with
      | true =>
        rw [hb] at h; cases h
        simp only [Bool.and_eq_true, leZ_eq, decide_eq_true_eq] at hb
        have := Nat.eq_of_beq_eq_true hb.1
        subst this
        have h2 : (SE.app 1 x y u).den ρ = (((x.str ρ)[(y.den ρ).toNat]?).getD 0).toNat := rfl
        have h3 := (((x.str ρ)[(y.den ρ).toNat]?).getD 0).toNat_lt
        rw [h2]; simp; omega
      | false =>
        rw [hb] at h
        dsimp only at h
        cases hn : (natT (SE.app f x y u) && leZ z 0) with
        | false => rw [hn] at h; cases h
        | true =>
          rw [hn] at h; cases h
          simp only [Bool.and_eq_true, leZ_eq, decide_eq_true_eq] at hn
          have := natT_ok (ρ := ρ) hn.1
          simp; omega
    · cases h
  · rename_i z
    show decide (a.den ρ ≤ (SE.n z).den ρ) = r
    rw [den_n]
    split at h
    · cases h; rw [den_n, leZ_eq]
    · rename_i f x y u
      cases hn : (natT (SE.app f x y u) && !leZ 0 z) with
      | false => rw [hn] at h; cases h
      | true =>
        rw [hn] at h; cases h
        simp only [Bool.and_eq_true, leZ_eq, Bool.not_eq_true', decide_eq_false_iff_not] at hn
        have := natT_ok (ρ := ρ) hn.1
        simp; omega
    · cases h
  · rename_i z
    show (a.den ρ == (SE.n z).den ρ) = r
    rw [den_n]
    split at h
    · cases h; rw [den_n, eqZ_eq]
    · rename_i f x y u
      cases hn : (natT (SE.app f x y u) && !leZ 0 z) with
      | false => rw [hn] at h; cases h
      | true =>
        rw [hn] at h; cases h
        simp only [Bool.and_eq_true, leZ_eq, Bool.not_eq_true', decide_eq_false_iff_not] at hn
        have := natT_ok (ρ := ρ) hn.1
        simp; omega
    · cases h
  · rename_i s
    show (a.str ρ == (SE.lit s).str ρ) = r
    rw [str_lit]
    split at h
    · cases h; rw [str_lit, eqU_eq]
    · cases h
  · cases h
/-- the value of a term out of terms of which the value is granted -/
def eqL (F : List Fact) (t : SE) : Option Int := @List.rec Fact (fun _ => Option Int) none (fun f _ ih => @Bool.rec (fun _ => Option Int) ih (@Bool.rec (fun _ => Option Int) ih (@SE.rec (fun _ => Option Int) (fun _ => ih) (fun z => @Bool.rec (fun _ => Option Int) ih (some z) (eqSE f.2.1 t)) (fun _ _ _ => ih) (fun _ _ _ _ _ _ => ih) (fun _ => ih) (fun _ _ _ _ _ _ _ => ih) f.2.2.1) f.2.2.2) (Nat.beq (cmpN f.1) 0)) F
def orElse {α : Type} (x : Option α) (y : Option α) : Option α := @Option.rec α (fun _ => Option α) y (fun a => some a) x
def valT (F : List Fact) (t : SE) : Option Int := @SE.rec (fun _ => Option Int) (fun i => eqL F (.v i)) (fun z => some z) (fun k a ih => orElse (eqL F (.wrap k a)) (ob ih fun x => some (k.wrap x)))
  (fun o k a b iha ihb => orElse (eqL F (.bin o k a b)) (ob iha fun x => ob ihb fun y => some (binV o k x y))) (fun _ => none) (fun f a b c _ _ _ => eqL F (.app f a b c)) t
theorem eqL_ok {ρ : Nat → Dy} : ∀ {F : List Fact}, (∀ f ∈ F, f.holds ρ) → ∀ {t : SE} {z : Int}, eqL F t = some z → t.den ρ = z
  | [], _, t, z, h => by cases h
  | f :: F, hF, t, z, h => by
    have ih := fun h' => eqL_ok (F := F) (fun x hx => hF x (List.mem_cons_of_mem _ hx)) (t := t) (z := z) h'
    obtain ⟨c, a, b, r⟩ := f
    have h' : @Bool.rec (fun _ => Option Int) (eqL F t) (@Bool.rec (fun _ => Option Int) (eqL F t) (@SE.rec (fun _ => Option Int) (fun _ => eqL F t) (fun z => @Bool.rec (fun _ => Option Int) (eqL F t) (some z) (eqSE a t)) (fun _ _ _ => eqL F t) (fun _ _ _ _ _ _ => eqL F t) (fun _ => eqL F t) (fun _ _ _ _ _ _ _ => eqL F t) b) r) (Nat.beq (cmpN c) 0) = some z := h
    cases hc : Nat.beq (cmpN c) 0 with
    | false => rw [hc] at h'; exact ih h'
    | true =>
      rw [hc] at h'
      cases r with
      | false => exact ih h'
      | true =>
        cases b with
        | n y =>
          dsimp only at h'
          cases he : eqSE a t with
          | false => rw [he] at h'; exact ih h'
          | true =>
            rw [he] at h'; cases h'
            have := eqSE_eq _ _ he
            subst this
            have hcc : c = .eq := by cases c <;> first | rfl | (exact absurd hc (by decide))
            subst hcc
            have := hF _ List.mem_cons_self
            have h2 : (a.den ρ == z) = true := this
            simpa using h2
        | v _ => exact ih h'
        | wrap _ _ => exact ih h'
        | bin _ _ _ _ => exact ih h'
        | lit _ => exact ih h'
        | app _ _ _ _ => exact ih h'
theorem orElse_some {α : Type} {x y : Option α} {a : α} (h : orElse x y = some a) : x = some a ∨ y = some a := by
  cases x with
  | none => exact .inr h
  | some b => cases h; exact .inl rfl
theorem valT_ok {ρ : Nat → Dy} {F : List Fact} (hF : ∀ f ∈ F, f.holds ρ) : ∀ {t : SE} {z : Int}, valT F t = some z → t.den ρ = z
  | .v i, z, h => eqL_ok hF (show eqL F (.v i) = some z from h)
  | .n y, z, h => by cases h; rfl
  | .wrap k a, z, h => by
    rcases orElse_some (show orElse (eqL F (.wrap k a)) (ob (valT F a) fun x => some (k.wrap x)) = some z from h) with h | h
    · exact eqL_ok hF h
    · obtain ⟨x, h1, h2⟩ := ob_some h
      cases h2
      show k.wrap (a.den ρ) = _
      rw [valT_ok hF h1]
  | .bin o k a b, z, h => by
    rcases orElse_some (show orElse (eqL F (.bin o k a b)) (ob (valT F a) fun x => ob (valT F b) fun y => some (binV o k x y)) = some z from h) with h | h
    · exact eqL_ok hF h
    · obtain ⟨x, h1, h2⟩ := ob_some h
      obtain ⟨y, h3, h4⟩ := ob_some h2
      cases h4
      show binV o k (a.den ρ) (b.den ρ) = _
      rw [valT_ok hF h1, valT_ok hF h3]
  | .lit _, z, h => by cases h
  | .app f a b c, z, h => eqL_ok hF (show eqL F (.app f a b c) = some z from h)
def asmV (F : List Fact) (c : Cmp) (a b : SE) : Option Bool := ob (valT F a) fun x => ob (valT F b) fun y => @Cmp.rec (fun _ => Option Bool) (some (eqZ x y)) (some (@Bool.rec (fun _ => Bool) true false (leZ y x))) (some (leZ x y)) none none c
theorem asmV_ok {ρ : Nat → Dy} {F : List Fact} (hF : ∀ f ∈ F, f.holds ρ) : AsmOK (asmV F) ρ := by
  intro c a b r h
  obtain ⟨x, h1, h2⟩ := ob_some h
  obtain ⟨y, h3, h4⟩ := ob_some h2
  have e1 := valT_ok hF h1
  have e2 := valT_ok hF h3
  cases c with
  | eq => cases h4; show (a.den ρ == b.den ρ) = _; rw [e1, e2, eqZ_eq]
  | lt =>
    cases h4
    show decide (a.den ρ < b.den ρ) = _
    rw [e1, e2]
    cases hl : leZ y x with
    | true => simp [leZ_eq] at hl; simp; omega
    | false => simp [leZ_eq] at hl; simp; omega
  | le => cases h4; show decide (a.den ρ ≤ b.den ρ) = _; rw [e1, e2, leZ_eq]
  | seq => cases h4
  | slt => cases h4
def asmX (l : List Fact) : Asm := fun c a b => orElse (asmL l c a b) (orElse (asmV l c a b) (asmK c a b))
theorem asmX_ok {l : List Fact} {ρ : Nat → Dy} (h : ∀ f ∈ l, f.holds ρ) : AsmOK (asmX l) ρ := by
  intro c a b r hr
  rcases orElse_some (show orElse (asmL l c a b) (orElse (asmV l c a b) (asmK c a b)) = some r from hr) with h1 | h1
  · exact asmL_ok (ρ := ρ) h c a b r h1
  · rcases orElse_some h1 with h2 | h2
    · exact asmV_ok h c a b r h2
    · exact asmK_ok ρ c a b r h2

/-! ### Terms put in for numbers -/
def lookN {α : Type} (l : List (Nat × α)) (i : Nat) : Option α := @List.rec (Nat × α) (fun _ => Option α) none (fun p _ ih => @Bool.rec (fun _ => Option α) ih (some p.2) (Nat.beq p.1 i)) l
theorem lookN_mem {α : Type} : ∀ {l : List (Nat × α)} {i : Nat} {a : α}, lookN l i = some a → (i, a) ∈ l
  | [], i, a, h => by cases h
  | p :: l, i, a, h => by
    have h' : @Bool.rec (fun _ => Option α) (lookN l i) (some p.2) (Nat.beq p.1 i) = some a := h
    cases hb : Nat.beq p.1 i with
    | true =>
      rw [hb] at h'; cases h'
      have := Nat.eq_of_beq_eq_true hb
      subst this
      exact List.mem_cons_self
    | false => rw [hb] at h'; exact List.mem_cons_of_mem _ (lookN_mem h')
def subT (σ : List (Nat × SE)) (t : SE) : SE := @SE.rec (fun _ => SE) (fun i => @Option.rec SE (fun _ => SE) (.v i) (fun t => t) (lookN σ i)) (fun z => .n z) (fun k _ a => .wrap k a) (fun o k _ _ a b => .bin o k a b) (fun s => .lit s) (fun f _ _ _ a b c => .app f a b c) t
def subρ (σ : List (Nat × SE)) (ρ : Nat → Dy) : Nat → Dy := fun i => @Option.rec SE (fun _ => Dy) (ρ i) (fun t => t.D ρ) (lookN σ i)
theorem subT_D (σ : List (Nat × SE)) (ρ : Nat → Dy) : ∀ t : SE, (subT σ t).D ρ = t.D (subρ σ ρ)
  | .v i => by
    show SE.D ρ (@Option.rec SE (fun _ => SE) (.v i) (fun t => t) (lookN σ i)) = @Option.rec SE (fun _ => Dy) (ρ i) (fun t => t.D ρ) (lookN σ i)
    cases lookN σ i <;> rfl
  | .n z => rfl
  | .wrap k a => by show dyI (k.wrap ((subT σ a).D ρ).i) = dyI (k.wrap (a.D (subρ σ ρ)).i); rw [subT_D σ ρ a]
  | .bin o k a b => by show dyI (binV o k ((subT σ a).D ρ).i ((subT σ b).D ρ).i) = dyI (binV o k (a.D (subρ σ ρ)).i (b.D (subρ σ ρ)).i); rw [subT_D σ ρ a, subT_D σ ρ b]
  | .lit s => rfl
  | .app f a b c => by show phi f ((subT σ a).D ρ) ((subT σ b).D ρ) ((subT σ c).D ρ) = phi f (a.D (subρ σ ρ)) (b.D (subρ σ ρ)) (c.D (subρ σ ρ)); rw [subT_D σ ρ a, subT_D σ ρ b, subT_D σ ρ c]
theorem subT_den (σ : List (Nat × SE)) (ρ : Nat → Dy) (t : SE) : (subT σ t).den ρ = t.den (subρ σ ρ) := congrArg Dy.i (subT_D σ ρ t)
theorem subT_str (σ : List (Nat × SE)) (ρ : Nat → Dy) (t : SE) : (subT σ t).str ρ = t.str (subρ σ ρ) := congrArg Dy.s (subT_D σ ρ t)
theorem subT_row (σ : List (Nat × SE)) (ρ : Nat → Dy) (t : SE) : (subT σ t).row ρ = t.row (subρ σ ρ) := congrArg Dy.r (subT_D σ ρ t)
/-- how many rows a term of known rows has -/
def rowsN (t : SE) : Option Nat := @SE.rec (fun _ => Option Nat) (fun _ => none) (fun _ => none) (fun _ _ _ => none) (fun _ _ _ _ _ _ => none) (fun _ => none)
  (fun f _ _ _ a b _ => @Bool.rec (fun _ => Option Nat) (@Bool.rec (fun _ => Option Nat) (@Bool.rec (fun _ => Option Nat) (@Bool.rec (fun _ => Option Nat) none a (Nat.beq f 10)) (ob a fun x => ob b fun y => some (x + y)) (Nat.beq f 9)) (some 1) (Nat.beq f 11)) (some 0) (Nat.beq f 12)) t
theorem rowsN_ok {ρ : Nat → Dy} : ∀ {t : SE} {n : Nat}, rowsN t = some n → (t.row ρ).length = n
  | .v _, n, h => by cases h
  | .n _, n, h => by cases h
  | .wrap _ _, n, h => by cases h
  | .bin _ _ _ _, n, h => by cases h
  | .lit _, n, h => by cases h
  | .app f a b c, n, h => by
    have h' : @Bool.rec (fun _ => Option Nat) (@Bool.rec (fun _ => Option Nat) (@Bool.rec (fun _ => Option Nat) (@Bool.rec (fun _ => Option Nat) none (rowsN a) (Nat.beq f 10)) (ob (rowsN a) fun x => ob (rowsN b) fun y => some (x + y)) (Nat.beq f 9)) (some 1) (Nat.beq f 11)) (some 0) (Nat.beq f 12) = some n := h
    cases h12 : Nat.beq f 12 with
    | true =>
      rw [h12] at h'; cases h'
      have := Nat.eq_of_beq_eq_true h12; subst this; rfl
    | false =>
      rw [h12] at h'
      dsimp only at h'
      cases h11 : Nat.beq f 11 with
      | true =>
        rw [h11] at h'; cases h'
        have := Nat.eq_of_beq_eq_true h11; subst this; rfl
      | false =>
        rw [h11] at h'
        dsimp only at h'
        cases h9 : Nat.beq f 9 with
        | true =>
          rw [h9] at h'
          have := Nat.eq_of_beq_eq_true h9; subst this
          obtain ⟨x, q1, q2⟩ := ob_some h'
          obtain ⟨y, q3, q4⟩ := ob_some q2
          cases q4
          show ((a.row ρ) ++ (b.row ρ)).length = _
          rw [List.length_append, rowsN_ok q1, rowsN_ok q3]
        | false =>
          rw [h9] at h'
          dsimp only at h'
          cases h10 : Nat.beq f 10 with
          | true =>
            rw [h10] at h'
            have := Nat.eq_of_beq_eq_true h10; subst this
            show ((a.row ρ).map _).length = _
            rw [List.length_map, rowsN_ok h']
          | false => rw [h10] at h'; cases h'
def natOfT (t : SE) : Option Nat := match t with
  | .n (.ofNat z) => some z
  | .app f a _ _ => @Bool.rec (fun _ => Option Nat) none (rowsN a) (Nat.beq f 5)
  | _ => none
theorem natOfT_ok {ρ : Nat → Dy} {t : SE} {n : Nat} (h : natOfT t = some n) : t.den ρ = (n : Int) := by
  unfold natOfT at h
  split at h
  · cases h; rfl
  · rename_i f a b c
    cases h5 : Nat.beq f 5 with
    | false => rw [h5] at h; cases h
    | true =>
      rw [h5] at h
      have := Nat.eq_of_beq_eq_true h5; subst this
      show ((a.row ρ).length : Int) = _
      rw [rowsN_ok h]
  · cases h
end Go.Den
