import Derived.Test.YtcncmfefcbdnoaaDoorXaD1
set_option linter.unusedVariables false
set_option linter.unusedSimpArgs false
namespace Go.Den
/-! ### Memory: what of the model's a heap stands for -/
/-- May it be written? -/
def Blk.rw : Blk → Bool
  | .cells _ _ _ _ md => !(Nat.beq md 2)
  | _ => true
def BlkOK (P : Program) (e : Env) (b : Blk) (p : Nat × (Nat → Nat)) (w : World) : Prop := match b with
  | .cells t n z tr md => ∃ cur t' fr, w.heap[p.1]? = some (.cells cur t' fr) ∧ (md ≠ 2 → t' = t) ∧ n ≤ cur.size ∧ (md ≠ 2 → ∀ o, o < cur.size → ¬ (fr.1 ≤ o ∧ o < fr.2)) ∧
      (∀ o v, (Blk.cells t n z tr md).cell o = some v → ∃ V, conc e v = some V ∧ cur[o]? = some V) ∧
      (md = 1 → ∃ i C, P.info? t = some i ∧ 0 < i.size ∧ cur.size = C * i.size ∧ C ≤ maxLen ∧ ∀ o, p.2 o = C - o / i.size)
  | .map es => ∃ E clk, w.heap[p.1]? = some (.map E clk) ∧ E.toList.length = es.length ∧ ∀ (i : Nat) (k v : IV), es[i]? = some (k, v) → ∃ m : MapEntry, E[i]? = some m ∧ conc e k = some m.key ∧ conc e v = some m.val
  | .iter s k => w.heap[p.1]? = some (.stringIter ⟨s.toArray⟩ k)

structure Rel (P : Program) (e : Env) (h : H) (w : World) : Prop where
  dom : ∀ id, h.next ≤ id → e id = none
  inj : ∀ i j a b p q, h.m.get i = some a → h.m.get j = some b → e i = some p → e j = some q → p.1 = q.1 → i = j
  blk : ∀ id b, h.m.get id = some b → ∃ p, e id = some p ∧ BlkOK P e b p w
  glob : ∀ g, g ≤ P.globals.size → ∃ p, e g = some p ∧ p.1 = g
  asm : AsmOK h.asm e.ρ

structure Step (P : Program) (e : Env) (h : H) (w : World) (e' : Env) (h' : H) (w' : World) : Prop where
  le : e.le e'
  keep : ∀ id, id < h.next → e' id = e id
  next : h.next ≤ h'.next
  rel : Rel P e' h' w'
  os : w'.os = w.os
  tape : w'.tape = w.tape
  output : w'.output = w.output
  size : w.heap.size ≤ w'.heap.size
  old : ∀ k, k < w.heap.size → (∀ id b p, h.m.get id = some b → b.rw = true → e id = some p → p.1 ≠ k) → w'.heap[k]? = w.heap[k]?
  ro : ∀ id b, h'.m.get id = some b → b.rw = false → h.m.get id = some b
  own : ∀ id b p, h'.m.get id = some b → b.rw = true → e' id = some p → w.heap.size ≤ p.1 ∨ ∃ id0 b0 p0, h.m.get id0 = some b0 ∧ b0.rw = true ∧ e id0 = some p0 ∧ p0.1 = p.1

section
variable {P : Program} {e e1 e2 : Env} {h h1 h2 : H} {w w1 w2 : World}

theorem BlkOK.lt {b : Blk} {p : Nat × (Nat → Nat)} (k : BlkOK P e b p w) : p.1 < w.heap.size := by
  cases b with
  | cells t n z tr md => obtain ⟨cur, t', fr, hh, _⟩ := k; exact (Array.getElem?_eq_some_iff.1 hh).1
  | map es => obtain ⟨E, c, hh, _⟩ := k; exact (Array.getElem?_eq_some_iff.1 hh).1
  | iter s n => have k' : w.heap[p.1]? = some (.stringIter ⟨s.toArray⟩ n) := k; exact (Array.getElem?_eq_some_iff.1 k').1
theorem BlkOK.mono {b : Blk} {p : Nat × (Nat → Nat)} (k : BlkOK P e b p w) (hle : e.le e1) (hw : w1.heap[p.1]? = w.heap[p.1]?) : BlkOK P e1 b p w1 := by
  cases b with
  | cells t n z tr md =>
    obtain ⟨cur, t', fr, hh, h0, h1, h2, h3, h4⟩ := k
    exact ⟨cur, t', fr, hw.trans hh, h0, h1, h2, fun o v hv => by obtain ⟨V, a, b⟩ := h3 o v hv; exact ⟨V, conc_mono hle _ a, b⟩, h4⟩
  | map es =>
    obtain ⟨E, c, hh, h1, h2⟩ := k
    exact ⟨E, c, hw.trans hh, h1, fun i k v hv => by obtain ⟨m, a, b, c⟩ := h2 i k v hv; exact ⟨m, a, conc_mono hle _ b, conc_mono hle _ c⟩⟩
  | iter s n => exact hw.trans (show w.heap[p.1]? = some (.stringIter ⟨s.toArray⟩ n) from k)

theorem Step.refl (r : Rel P e h w) : Step P e h w e h w :=
  ⟨Env.le_refl e, fun _ _ => rfl, Nat.le_refl _, r, rfl, rfl, rfl, Nat.le_refl _, fun _ _ _ => rfl, fun _ _ h _ => h, fun id b p h1 h2 h3 => .inr ⟨id, b, p, h1, h2, h3, rfl⟩⟩
theorem Step.trans (s : Step P e h w e1 h1 w1) (t : Step P e1 h1 w1 e2 h2 w2) : Step P e h w e2 h2 w2 where
  le := Env.le_trans s.le t.le
  keep := fun id hid => (t.keep id (Nat.lt_of_lt_of_le hid s.next)).trans (s.keep id hid)
  next := Nat.le_trans s.next t.next
  rel := t.rel
  os := t.os.trans s.os
  tape := t.tape.trans s.tape
  output := t.output.trans s.output
  size := Nat.le_trans s.size t.size
  old := fun k hk hn => by
    rw [t.old k (Nat.lt_of_lt_of_le hk s.size) ?_, s.old k hk hn]
    intro id b p hb hr hp
    rcases s.own id b p hb hr hp with hl | ⟨id0, b0, p0, a, b, c, d⟩
    · omega
    · rw [← d]; exact hn id0 b0 p0 a b c
  ro := fun id b hb hr => s.ro id b (t.ro id b hb hr) hr
  own := fun id b p hb hr hp => by
    rcases t.own id b p hb hr hp with hl | ⟨id0, b0, p0, a, b, c, d⟩
    · exact .inl (Nat.le_trans s.size hl)
    · rcases s.own id0 b0 p0 a b c with hl | ⟨id1, b1, p1, a', b', c', d'⟩
      · exact .inl (by omega)
      · exact .inr ⟨id1, b1, p1, a', b', c', d'.trans d⟩
/-- The heap is the same: only draws, say. -/
theorem Rel.of_heap (r : Rel P e h w) (hh : w1.heap = w.heap) : Rel P e h w1 :=
  ⟨r.dom, r.inj, fun id b hb => by obtain ⟨p, hp, k⟩ := r.blk id b hb; exact ⟨p, hp, k.mono (Env.le_refl e) (by rw [hh])⟩, r.glob, r.asm⟩
theorem Step.same (r : Rel P e h w) (hh : w1.heap = w.heap) (ho : w1.os = w.os) (ht : w1.tape = w.tape) (hp : w1.output = w.output) : Step P e h w e h w1 :=
  ⟨Env.le_refl e, fun _ _ => rfl, Nat.le_refl _, r.of_heap hh, ho, ht, hp, by rw [hh]; exact Nat.le_refl _, fun k _ _ => by rw [hh], fun _ _ h _ => h, fun id b p h1 h2 h3 => .inr ⟨id, b, p, h1, h2, h3, rfl⟩⟩

def upd (e : Env) (id : Nat) (p : Nat × (Nat → Nat)) : Env := ⟨fun j => if j = id then some p else e j, e.ρ, e.ω⟩
theorem le_upd (hn : e h.next = none) (p : Nat × (Nat → Nat)) : e.le (upd e h.next p) := by
  refine ⟨?_, rfl, rfl⟩
  intro id q hq
  simp only [upd]
  split
  · rename_i he; rw [he, hn] at hq; cases hq
  · exact hq
theorem upd_at (id : Nat) (p : Nat × (Nat → Nat)) : upd e id p id = some p := by simp [upd]

/-- A new block. -/
theorem Step.new (r : Rel P e h w) {b : Blk} {o : Obj} {c : Nat → Nat} (hrw : b.rw = true) (hh : w1.heap = w.heap.push o) (ho : w1.os = w.os) (ht : w1.tape = w.tape) (hp : w1.output = w.output)
    (hok : BlkOK P (upd e h.next (w.heap.size, c)) b (w.heap.size, c) w1) : Step P e h w (upd e h.next (w.heap.size, c)) (h.new b) w1 := by
  have hn : e h.next = none := r.dom _ (Nat.le_refl _)
  have hle := le_upd (h := h) hn (w.heap.size, c)
  have hold : ∀ k, k < w.heap.size → w1.heap[k]? = w.heap[k]? := fun k hk => by rw [hh, Array.getElem?_push, if_neg (by omega)]
  have hget : ∀ id x, (h.new b).m.get id = some x → (id = h.next ∧ x = b) ∨ (id ≠ h.next ∧ h.m.get id = some x) := by
    intro id x hx
    unfold H.new at hx
    simp only at hx
    rw [get_put] at hx
    by_cases he : id = h.next
    · rw [if_pos he] at hx; exact .inl ⟨he, by simpa using hx.symm⟩
    · rw [if_neg he] at hx; exact .inr ⟨he, hx⟩
  have hup : ∀ id, id ≠ h.next → upd e h.next (w.heap.size, c) id = e id := fun id hid => by simp [upd, hid]
  refine ⟨hle, fun id hid => hup id (by omega), Nat.le_succ _, ⟨?_, ?_, ?_, ?_, r.asm⟩, ho, ht, hp, by rw [hh]; simp, fun k hk _ => hold k hk, fun id x hx hr => by
    rcases hget id x hx with ⟨_, rfl⟩ | ⟨_, h2⟩
    · rw [hrw] at hr; cases hr
    · exact h2, ?_⟩
  · intro id hid
    have hid' : h.next + 1 ≤ id := hid
    rw [hup id (by omega)]; exact r.dom id (by omega)
  · intro i j a a' p q hi hj hp hq hpq
    rcases hget i a hi with ⟨rfl, rfl⟩ | ⟨hi1, hi2⟩ <;> rcases hget j a' hj with ⟨hj1, hj2⟩ | ⟨hj1, hj2⟩
    · exact hj1.symm
    · rw [upd_at] at hp; rw [hup j hj1] at hq
      obtain ⟨q', hq', k⟩ := r.blk j a' hj2
      have := k.lt; rw [hq'] at hq; cases hq; cases hp; simp at hpq; omega
    · subst hj1; rw [upd_at] at hq; rw [hup i hi1] at hp
      obtain ⟨q', hq', k⟩ := r.blk i a hi2
      have := k.lt; rw [hq'] at hp; cases hp; cases hq; simp at hpq; omega
    · rw [hup i hi1] at hp; rw [hup j hj1] at hq
      exact r.inj i j a a' p q hi2 hj2 hp hq hpq
  · intro id x hx
    rcases hget id x hx with ⟨rfl, rfl⟩ | ⟨h1, h2⟩
    · exact ⟨_, upd_at _ _, hok⟩
    · obtain ⟨p, hp, k⟩ := r.blk id x h2
      exact ⟨p, (hup id h1).trans hp, k.mono hle (hold _ k.lt)⟩
  · intro g hg
    obtain ⟨p, hp, hpg⟩ := r.glob g hg
    exact ⟨p, hle _ _ hp, hpg⟩
  · intro id x p hx hr hp
    rcases hget id x hx with ⟨rfl, rfl⟩ | ⟨h1, h2⟩
    · rw [upd_at] at hp; cases hp; exact .inl (Nat.le_refl _)
    · exact .inr ⟨id, x, p, h2, hr, (hup id h1).symm.trans hp, rfl⟩

/-- One block is written. -/
theorem Step.write (r : Rel P e h w) {id : Nat} {b b' : Blk} {p : Nat × (Nat → Nat)} (hb : h.m.get id = some b) (hrw : b.rw = true) (hrw' : b'.rw = true) (hp : e id = some p)
    (hk : ∀ k, k ≠ p.1 → w1.heap[k]? = w.heap[k]?) (hs : w1.heap.size = w.heap.size) (ho : w1.os = w.os) (ht : w1.tape = w.tape) (hu : w1.output = w.output)
    (hok : BlkOK P e b' p w1) : Step P e h w e (h.put id b') w1 := by
  have hget : ∀ j x, (h.put id b').m.get j = some x → (j = id ∧ x = b') ∨ (j ≠ id ∧ h.m.get j = some x) := by
    intro j x hx
    unfold H.put at hx
    simp only at hx
    rw [get_put] at hx
    by_cases he : j = id
    · rw [if_pos he] at hx; exact .inl ⟨he, by simpa using hx.symm⟩
    · rw [if_neg he] at hx; exact .inr ⟨he, hx⟩
  have hne : ∀ j x q, j ≠ id → h.m.get j = some x → e j = some q → q.1 ≠ p.1 := fun j x q hj hx hq hqp => hj (r.inj j id x b q p hx hb hq hp hqp)
  refine ⟨Env.le_refl e, fun _ _ => rfl, Nat.le_refl _, ⟨fun j hj => r.dom j hj, ?_, ?_, r.glob, r.asm⟩, ho, ht, hu, by omega, ?_, fun j x hx hr => by
    rcases hget j x hx with ⟨_, rfl⟩ | ⟨_, h2⟩
    · rw [hrw'] at hr; cases hr
    · exact h2, ?_⟩
  · intro i j a a' q q' hi hj hq hq' hqq
    have hi' : ∃ x, h.m.get i = some x := by rcases hget i a hi with ⟨rfl, _⟩ | ⟨_, h2⟩ <;> exact ⟨_, ‹_›⟩
    have hj' : ∃ x, h.m.get j = some x := by rcases hget j a' hj with ⟨rfl, _⟩ | ⟨_, h2⟩ <;> exact ⟨_, ‹_›⟩
    obtain ⟨x, hx⟩ := hi'; obtain ⟨y, hy⟩ := hj'
    exact r.inj i j x y q q' hx hy hq hq' hqq
  · intro j x hx
    rcases hget j x hx with ⟨rfl, rfl⟩ | ⟨h1, h2⟩
    · exact ⟨p, hp, hok⟩
    · obtain ⟨q, hq, k⟩ := r.blk j x h2
      exact ⟨q, hq, k.mono (Env.le_refl e) (hk _ (hne j x q h1 h2 hq))⟩
  · intro k hk' hn
    exact hk k (fun he => hn id b p hb hrw hp he.symm)
  · intro j x q hx hr hq
    rcases hget j x hx with ⟨rfl, rfl⟩ | ⟨h1, h2⟩
    · rw [hp] at hq; cases hq; exact .inr ⟨j, b, p, hb, hrw, hp, rfl⟩
    · exact .inr ⟨j, x, q, h2, hr, hq, rfl⟩

/-- A block is given up: a new number for what it holds now (it lies where it lay, or elsewhere, in new memory). -/
theorem Step.moved (r : Rel P e h w) {id : Nat} {b b' : Blk} {p q : Nat × (Nat → Nat)} (hb : h.m.get id = some b) (hrw : b.rw = true) (hrw' : b'.rw = true) (hp : e id = some p)
    (hq : q.1 = p.1 ∨ w.heap.size ≤ q.1)
    (hk : ∀ k, k < w.heap.size → k ≠ q.1 → w1.heap[k]? = w.heap[k]?) (hs : w.heap.size ≤ w1.heap.size) (ho : w1.os = w.os) (ht : w1.tape = w.tape) (hu : w1.output = w.output)
    (hok : BlkOK P (upd e h.next q) b' q w1) : Step P e h w (upd e h.next q) ⟨h.next + 1, (h.m.del id).put h.next b', h.asm⟩ w1 := by
  have hn : e h.next = none := r.dom _ (Nat.le_refl _)
  have hle := le_upd (h := h) hn q
  have hup : ∀ j, j ≠ h.next → upd e h.next q j = e j := fun j hj => by simp [upd, hj]
  have hget : ∀ j x, ((h.m.del id).put h.next b').get j = some x → (j = h.next ∧ x = b') ∨ (j ≠ h.next ∧ j ≠ id ∧ h.m.get j = some x) := by
    intro j x hx
    rw [get_put] at hx
    by_cases he : j = h.next
    · rw [if_pos he] at hx; exact .inl ⟨he, by simpa using hx.symm⟩
    · rw [if_neg he, get_del] at hx
      by_cases hi : j = id
      · rw [if_pos hi] at hx; cases hx
      · rw [if_neg hi] at hx; exact .inr ⟨he, hi, hx⟩
  have hne : ∀ j x p', j ≠ id → h.m.get j = some x → e j = some p' → p'.1 ≠ q.1 := fun j x p' hj hx hp' he => by
    obtain ⟨p2, hp2, k⟩ := r.blk j x hx
    rw [hp'] at hp2; cases hp2
    have := k.lt
    rcases hq with hq | hq
    · exact hj (r.inj j id x b p' p hx hb hp' hp (he.trans hq))
    · omega
  refine ⟨hle, fun id hid => hup id (by omega), Nat.le_succ _, ⟨?_, ?_, ?_, ?_, r.asm⟩, ho, ht, hu, hs, ?_, fun j x hx hr => by
    rcases hget j x hx with ⟨_, rfl⟩ | ⟨_, _, h2⟩
    · rw [hrw'] at hr; cases hr
    · exact h2, ?_⟩
  · intro j hj
    have hj' : h.next + 1 ≤ j := hj
    rw [hup j (by omega)]; exact r.dom j (by omega)
  · intro i j a a' p1 p2 hi hj h1 h2 h12
    rcases hget i a hi with ⟨rfl, rfl⟩ | ⟨hi1, hi2, hi3⟩ <;> rcases hget j a' hj with ⟨hj1, hj2⟩ | ⟨hj1, hj2, hj3⟩
    · exact hj1.symm
    · rw [upd_at] at h1; cases h1; rw [hup j hj1] at h2; exact absurd h12.symm (hne j a' p2 hj2 hj3 h2)
    · subst hj1; rw [upd_at] at h2; cases h2; rw [hup i hi1] at h1; exact absurd h12 (hne i a p1 hi2 hi3 h1)
    · rw [hup i hi1] at h1; rw [hup j hj1] at h2; exact r.inj i j a a' p1 p2 hi3 hj3 h1 h2 h12
  · intro j x hx
    rcases hget j x hx with ⟨rfl, rfl⟩ | ⟨h1, h2, h3⟩
    · exact ⟨q, upd_at _ _, hok⟩
    · obtain ⟨p', hp', k⟩ := r.blk j x h3
      exact ⟨p', (hup j h1).trans hp', k.mono hle (hk _ k.lt (hne j x p' h2 h3 hp'))⟩
  · intro g hg
    obtain ⟨p', hp', hpg⟩ := r.glob g hg
    exact ⟨p', hle _ _ hp', hpg⟩
  · intro k hk' hn'
    refine hk k hk' (fun he => ?_)
    rcases hq with hq | hq
    · exact hn' id b p hb hrw hp (by rw [he, hq])
    · omega
  · intro j x p' hx hr hp'
    rcases hget j x hx with ⟨rfl, rfl⟩ | ⟨h1, h2, h3⟩
    · rw [upd_at] at hp'; cases hp'
      rcases hq with hq | hq
      · exact .inr ⟨id, b, p, hb, hrw, hp, hq.symm⟩
      · exact .inl hq
    · exact .inr ⟨j, x, p', h3, hr, (hup j h1).symm.trans hp', rfl⟩
end

/-! ### Frames -/
def TmOK (e : Env) (tm : Tm) (a : Array Value) : Prop := ∀ t v, tm.get t = some v → ∃ V, conc e v = some V ∧ a[t]? = some V
theorem TmOK.mono {e e1 : Env} {tm : Tm} {a : Array Value} (k : TmOK e tm a) (hle : e.le e1) : TmOK e1 tm a :=
  fun t v hv => by obtain ⟨V, h1, h2⟩ := k t v hv; exact ⟨V, conc_mono hle _ h1, h2⟩
theorem TmOK.put {e : Env} {tm : Tm} {a : Array Value} (k : TmOK e tm a) {d : Nat} {v : IV} {V : Value} (hd : d < a.size) (hv : conc e v = some V) : TmOK e (tm.put d v) (a.setIfInBounds d V) := by
  intro t u hu
  rw [get_put] at hu
  by_cases ht : t = d
  · subst ht; rw [if_pos rfl] at hu; cases hu; exact ⟨V, hv, by simp [hd]⟩
  · rw [if_neg ht] at hu
    obtain ⟨U, h1, h2⟩ := k t u hu
    exact ⟨U, h1, by rw [Array.getElem?_setIfInBounds]; simp [Ne.symm ht, h2]⟩
theorem TmOK.nil (e : Env) (a : Array Value) : TmOK e .nil a := fun t v hv => by rw [get_nil] at hv; cases hv
end Go.Den
