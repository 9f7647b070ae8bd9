import Derived.Test.YtcncmfefcbdnoaaDoorXaD17
set_option linter.unusedVariables false
set_option linter.unusedSimpArgs false
namespace Go.Den
section
variable {P : Program} {e e' e0 : Env} {h h0 h' G G' K0 K0' : H} {w w' w0 : World} {tm tm' : Tm} {a : Act} {o : Oper} {v : IV}

/-! ### Parts of memory -/
theorem Rel.sub (r : Rel P e G w) (hn : K0.next = G.next) (ha : K0.asm = G.asm) (hs : ∀ id b, K0.m.get id = some b → G.m.get id = some b) : Rel P e K0 w :=
  ⟨fun id hid => r.dom id (by omega), fun i j a b p q hi hj => r.inj i j a b p q (hs i a hi) (hs j b hj), fun id b hb => r.blk id b (hs id b hb), r.glob, by rw [ha]; exact r.asm⟩
theorem Step.ext (s : Step P e h w e' G w') (hn : G'.next = G.next) (ha : G'.asm = G.asm) (hg : ∀ id, G'.m.get id = G.m.get id) : Step P e h w e' G' w' :=
  ⟨s.le, s.keep, by rw [hn]; exact s.next, s.rel.sub hn ha (fun id b hb => by rw [← hg]; exact hb), s.os, s.tape, s.output, s.size, s.old, fun id b hb hr => s.ro id b (by rw [← hg]; exact hb) hr,
    fun id b p hb hr hp => s.own id b p (by rw [← hg]; exact hb) hr hp⟩
theorem Step.bump (r : Rel P e h w) (hw : w'.heap = w.heap) (ho : w'.os = w.os) (ht : w'.tape = w.tape) (hu : w'.output = w.output) {n : Nat} (hn : h.next ≤ n) : Step P e h w e ⟨n, h.m, h.asm⟩ w' := by
  have s := Step.same r hw ho ht hu
  exact ⟨s.le, s.keep, hn, ⟨fun id hid => s.rel.dom id (Nat.le_trans hn hid), s.rel.inj, s.rel.blk, s.rel.glob, s.rel.asm⟩, s.os, s.tape, s.output, s.size, s.old, s.ro, s.own⟩
/-- What stands aside is not made. -/
theorem Step.apart (r : Rel P e G w) (hs : ∀ id b, K0.m.get id = some b → G.m.get id = some b) (s : Step P e K0 w e' K0' w') {id : Nat} {b : Blk} (h1 : K0.m.get id = none) (h2 : G.m.get id = some b) : K0'.m.get id = none := by
  cases h3 : K0'.m.get id with
  | none => rfl
  | some b' =>
    exfalso
    obtain ⟨p, hp, kb⟩ := r.blk id b h2
    have hlt := kb.lt
    cases hr : b'.rw with
    | true =>
      rcases s.own id b' p h3 hr (s.le _ _ hp) with hl | ⟨id0, b0, p0, q1, q2, q3, q4⟩
      · omega
      · have := r.inj id0 id b0 b p0 p (hs _ _ q1) h2 q3 hp q4
        subst this
        rw [h1] at q1; cases q1
    | false =>
      have := s.ro id b' h3 hr
      rw [h1] at this; cases this
/-- A step on a part of memory is a step on all of it. -/
theorem Step.frame (r : Rel P e G w) (hn : K0.next = G.next) (hs : ∀ id b, K0.m.get id = some b → G.m.get id = some b) (s : Step P e K0 w e' K0' w') (hn' : G'.next = K0'.next) (ha' : G'.asm = K0'.asm)
    (hH : ∀ id b, G'.m.get id = some b → K0'.m.get id = some b ∨ (K0.m.get id = none ∧ G.m.get id = some b)) : Step P e G w e' G' w' := by
  have hno : ∀ (j : Nat) (b : Blk) (q : Nat × (Nat → Nat)), K0.m.get j = none → G.m.get j = some b → e j = some q → ∀ id b0 p0, K0.m.get id = some b0 → b0.rw = true → e id = some p0 → p0.1 ≠ q.1 := by
    intro j b q h1 h2 h3 id b0 p0 q1 q2 q3 q4
    have := r.inj id j b0 b p0 q (hs _ _ q1) h2 q3 h3 q4
    subst this
    rw [h1] at q1; cases q1
  have hkeep : ∀ (j : Nat) (b : Blk) (q : Nat × (Nat → Nat)), K0.m.get j = none → G.m.get j = some b → e j = some q → w'.heap[q.1]? = w.heap[q.1]? := by
    intro j b q h1 h2 h3
    obtain ⟨q', h4, kb⟩ := r.blk j b h2
    rw [h3] at h4; cases h4
    exact s.old q.1 kb.lt (hno j b q h1 h2 h3)
  have hsep : ∀ (i j : Nat) (b c : Blk) (p q : Nat × (Nat → Nat)), K0'.m.get i = some b → K0.m.get j = none → G.m.get j = some c → e' i = some p → e' j = some q → p.1 ≠ q.1 := by
    intro i j b c p q h1 h2 h3 h4 h5 h6
    obtain ⟨q', h7, kb⟩ := r.blk j c h3
    have := s.le _ _ h7
    rw [h5] at this; cases this
    have hlt := kb.lt
    cases hr : b.rw with
    | true =>
      rcases s.own i b p h1 hr h4 with hl | ⟨id0, b0, p0, q1, q2, q3, q4⟩
      · omega
      · exact hno j c q h2 h3 h7 id0 b0 p0 q1 q2 q3 (q4.trans h6)
    | false =>
      have h8 := s.ro i b h1 hr
      obtain ⟨p0, h9, _⟩ := r.blk i b (hs _ _ h8)
      have := s.le _ _ h9
      rw [h4] at this; cases this
      have := r.inj i j b c p q (hs _ _ h8) h3 h9 h7 h6
      subst this
      rw [h2] at h8; cases h8
  refine ⟨s.le, fun id hid => s.keep id (by omega), by rw [hn', ← hn]; exact s.next, ⟨fun id hid => s.rel.dom id (by omega), ?_, ?_, s.rel.glob, by rw [ha']; exact s.rel.asm⟩, s.os, s.tape, s.output, s.size, ?_, ?_, ?_⟩
  · intro i j b c p q hi hj hp hq hpq
    rcases hH i b hi with h1 | ⟨h1, h2⟩ <;> rcases hH j c hj with h3 | ⟨h3, h4⟩
    · exact s.rel.inj i j b c p q h1 h3 hp hq hpq
    · exact absurd hpq (hsep i j b c p q h1 h3 h4 hp hq)
    · exact absurd hpq.symm (hsep j i c b q p h3 h1 h2 hq hp)
    · obtain ⟨p', h5, _⟩ := r.blk i b h2
      obtain ⟨q', h6, _⟩ := r.blk j c h4
      have h7 := s.le _ _ h5
      have h8 := s.le _ _ h6
      rw [hp] at h7; cases h7
      rw [hq] at h8; cases h8
      exact r.inj i j b c p q h2 h4 h5 h6 hpq
  · intro id b hb
    rcases hH id b hb with h1 | ⟨h1, h2⟩
    · exact s.rel.blk id b h1
    · obtain ⟨p, h3, kb⟩ := r.blk id b h2
      exact ⟨p, s.le _ _ h3, kb.mono s.le (hkeep id b p h1 h2 h3)⟩
  · intro k hk hno'
    exact s.old k hk (fun id b p h1 h2 h3 => hno' id b p (hs _ _ h1) h2 h3)
  · intro id b hb hr
    rcases hH id b hb with h1 | ⟨h1, h2⟩
    · exact hs _ _ (s.ro id b h1 hr)
    · exact h2
  · intro id b p hb hr hp
    rcases hH id b hb with h1 | ⟨h1, h2⟩
    · rcases s.own id b p h1 hr hp with hl | ⟨id0, b0, p0, q1, q2, q3, q4⟩
      · exact .inl hl
      · exact .inr ⟨id0, b0, p0, hs _ _ q1, q2, q3, q4⟩
    · obtain ⟨p', h3, _⟩ := r.blk id b h2
      have := s.le _ _ h3
      rw [hp] at this; cases this
      exact .inr ⟨id, b, p, h2, hr, h3, rfl⟩
/-- A block under a number that was kept for it. -/
theorem Step.then_new (s : Step P e0 h0 w0 e G w) {id : Nat} {b : Blk} {obj : Obj} {c : Nat → Nat} (h1 : h0.next ≤ id) (h2 : id < G.next) (h3 : e id = none) (hrw : b.rw = true)
    (hh : w'.heap = w.heap.push obj) (ho : w'.os = w.os) (ht : w'.tape = w.tape) (hp : w'.output = w.output) (hok : BlkOK P (upd e id (w.heap.size, c)) b (w.heap.size, c) w')
    (hn : G'.next = G.next) (ha : G'.asm = G.asm) (hg : ∀ j, G'.m.get j = if j = id then some b else G.m.get j) : Step P e0 h0 w0 (upd e id (w.heap.size, c)) G' w' := by
  have hle : e.le (upd e id (w.heap.size, c)) := by
    refine ⟨?_, rfl, rfl⟩
    intro j q hq
    simp only [upd]
    split
    · rename_i he; rw [he, h3] at hq; cases hq
    · exact hq
  have hup : ∀ j, j ≠ id → upd e id (w.heap.size, c) j = e j := fun j hj => by simp [upd, hj]
  have hold : ∀ k, k < w.heap.size → w'.heap[k]? = w.heap[k]? := fun k hk => by rw [hh, Array.getElem?_push, if_neg (by omega)]
  have hget : ∀ j x, G'.m.get j = some x → (j = id ∧ x = b) ∨ (j ≠ id ∧ G.m.get j = some x) := by
    intro j x hx
    rw [hg j] at hx
    by_cases he : j = id
    · rw [if_pos he] at hx; exact .inl ⟨he, by simpa using hx.symm⟩
    · rw [if_neg he] at hx; exact .inr ⟨he, hx⟩
  refine ⟨Env.le_trans s.le hle, fun j hj => (hup j (by omega)).trans (s.keep j hj), by rw [hn]; exact s.next, ⟨?_, ?_, ?_, ?_, by rw [ha]; exact s.rel.asm⟩, ho.trans s.os, ht.trans s.tape, hp.trans s.output, by rw [hh]; simp; exact Nat.le_trans s.size (Nat.le_succ _), ?_, ?_, ?_⟩
  · intro j hj
    rw [hup j (by omega)]; exact s.rel.dom j (by omega)
  · intro i j x y p q hi hj hp hq hpq
    rcases hget i x hi with ⟨rfl, rfl⟩ | ⟨hi1, hi2⟩ <;> rcases hget j y hj with ⟨hj1, hj2⟩ | ⟨hj1, hj2⟩
    · exact hj1.symm
    · rw [upd_at] at hp; rw [hup j hj1] at hq
      obtain ⟨q', hq', k⟩ := s.rel.blk j y hj2
      have := k.lt; rw [hq'] at hq; cases hq; cases hp; simp at hpq; omega
    · subst hj1; rw [upd_at] at hq; rw [hup i hi1] at hp
      obtain ⟨q', hq', k⟩ := s.rel.blk i x hi2
      have := k.lt; rw [hq'] at hp; cases hp; cases hq; simp at hpq; omega
    · rw [hup i hi1] at hp; rw [hup j hj1] at hq
      exact s.rel.inj i j x y p q hi2 hj2 hp hq hpq
  · intro j x hx
    rcases hget j x hx with ⟨rfl, rfl⟩ | ⟨h4, h5⟩
    · exact ⟨_, upd_at _ _, hok⟩
    · obtain ⟨p, hp, k⟩ := s.rel.blk j x h5
      exact ⟨p, (hup j h4).trans hp, k.mono hle (hold _ k.lt)⟩
  · intro g hgl
    obtain ⟨p, hp, hpg⟩ := s.rel.glob g hgl
    exact ⟨p, hle _ _ hp, hpg⟩
  · intro k hk hno
    rw [hold k (Nat.lt_of_lt_of_le hk s.size)]
    exact s.old k hk hno
  · intro j x hx hr
    rcases hget j x hx with ⟨_, rfl⟩ | ⟨_, h5⟩
    · rw [hrw] at hr; cases hr
    · exact s.ro j x h5 hr
  · intro j x p hx hr hp
    rcases hget j x hx with ⟨rfl, rfl⟩ | ⟨h4, h5⟩
    · rw [upd_at] at hp; cases hp; exact .inl s.size
    · exact s.own j x p h5 hr ((hup j h4).symm.trans hp)
end

/-! ### What is before what -/
theorem bit_iff (m i : Nat) : bit m i = m.testBit i := by
  rw [Nat.testBit_eq_decide_div_mod_eq]
  unfold bit
  have h1 : Nat.land (Nat.shiftRight m i) 1 = (m >>> i) &&& 1 := rfl
  rw [h1, Nat.and_one_is_mod, Nat.shiftRight_eq_div_pow]
  cases hb : Nat.beq (m / 2 ^ i % 2) 1 with
  | true => simp [Nat.eq_of_beq_eq_true hb]
  | false =>
    symm
    rw [decide_eq_false_iff_not]
    intro hc
    rw [hc] at hb
    cases hb
theorem bit_edge {acc : T Nat} {e : Edge} {s i : Nat} (hb : bit (edgeM acc e s) i = true) : bit s i = true ∨ (Region.binds .any e = true ∧ (i = e.on ∨ ∃ m, acc.get e.on = some m ∧ bit m i = true)) := by
  have main : bit (Nat.lor s (Nat.lor (Nat.shiftLeft 1 e.on) (@Option.rec Nat (fun _ => Nat) 0 (fun m => m) (acc.get e.on)))) i = true → bit s i = true ∨ i = e.on ∨ ∃ m, acc.get e.on = some m ∧ bit m i = true := by
    intro hb
    rw [bit_iff] at hb
    have h1 : Nat.lor s (Nat.lor (Nat.shiftLeft 1 e.on) (@Option.rec Nat (fun _ => Nat) 0 (fun m => m) (acc.get e.on))) = s ||| (1 <<< e.on ||| (@Option.rec Nat (fun _ => Nat) 0 (fun m => m) (acc.get e.on))) := rfl
    rw [h1, Nat.testBit_or, Nat.testBit_or] at hb
    simp only [Bool.or_eq_true] at hb
    rcases hb with hb | hb | hb
    · exact .inl (by rw [bit_iff]; exact hb)
    · refine .inr (.inl ?_)
      rw [Nat.one_shiftLeft, Nat.testBit_two_pow] at hb
      have hb' : e.on = i := by simpa using hb
      exact hb'.symm
    · cases ha : acc.get e.on with
      | none => rw [ha] at hb; simp at hb
      | some m => rw [ha] at hb; exact .inr (.inr ⟨m, rfl, by rw [bit_iff]; exact hb⟩)
  unfold edgeM at hb
  split at hb
  · exact .inl hb
  · exact .inl hb
  · rename_i hn1 hn2
    rcases main hb with h | h
    · exact .inl h
    · refine .inr ⟨?_, h⟩
      unfold Region.binds
      split
      · rename_i r hr; exact (hn1 r hr).elim
      · rename_i r hr; exact (hn2 r hr).elim
      · rfl
theorem bit_maskL {acc : T Nat} {i : Nat} : ∀ {l : List Edge}, bit (maskL acc l) i = true → ∃ e ∈ l, Region.binds .any e = true ∧ (i = e.on ∨ ∃ m, acc.get e.on = some m ∧ bit m i = true)
  | [], hb => by
    have : maskL acc [] = 0 := rfl
    rw [this, bit_iff] at hb; simp at hb
  | e :: l, hb => by
    have h1 : maskL acc (e :: l) = edgeM acc e (maskL acc l) := rfl
    rw [h1] at hb
    rcases bit_edge hb with h | h
    · obtain ⟨e', h2, h3⟩ := bit_maskL h
      exact ⟨e', by simp [h2], h3⟩
    · exact ⟨e, by simp, h⟩
/-- the masks of the first i operations -/
noncomputable def accN (L : List Oper) : Nat → T Nat
  | 0 => .nil
  | i + 1 => match L[i]? with
    | some o => (accN L i).put i (maskL (accN L i) o.after.toList)
    | none => accN L i
noncomputable def msk (L : List Oper) (i : Nat) : Nat := match L[i]? with
  | some o => maskL (accN L i) o.after.toList
  | none => 0
theorem accN_get (L : List Oper) : ∀ (i j m : Nat), (accN L i).get j = some m → j < i ∧ m = msk L j
  | 0, j, m, h => by simp only [accN] at h; rw [get_nil] at h; cases h
  | i + 1, j, m, h => by
    simp only [accN] at h
    cases hL : L[i]? with
    | none => rw [hL] at h; have := accN_get L i j m h; exact ⟨by omega, this.2⟩
    | some o =>
      rw [hL] at h
      simp only at h
      rw [get_put] at h
      by_cases hj : j = i
      · subst hj
        rw [if_pos rfl] at h
        cases h
        exact ⟨by omega, by simp [msk, hL]⟩
      · rw [if_neg hj] at h
        have := accN_get L i j m h
        exact ⟨by omega, this.2⟩
/-- Whoever is there, or may come next: what is before it is there. -/
theorem mask_closed {L : List Oper} {D : Nat → Prop} (hD : ∀ j o, L[j]? = some o → D j → ∀ e ∈ o.after, Region.binds .any e = true → D e.on) :
    ∀ (n j : Nat), j < n → (∀ o, L[j]? = some o → ∀ e ∈ o.after, Region.binds .any e = true → D e.on) → ∀ i, bit (msk L j) i = true → D i
  | 0, j, hj, _, i, _ => by omega
  | n + 1, j, hj, hr, i, hb => by
    unfold msk at hb
    cases hL : L[j]? with
    | none => rw [hL] at hb; simp only at hb; rw [bit_iff] at hb; simp at hb
    | some o =>
      rw [hL] at hb
      obtain ⟨e, h1, h2, h3⟩ := bit_maskL hb
      have he := hr o hL e (Array.mem_toList_iff.1 h1) h2
      rcases h3 with rfl | ⟨m, h4, h5⟩
      · exact he
      · obtain ⟨h6, rfl⟩ := accN_get L _ _ _ h4
        exact mask_closed hD n e.on (by omega) (fun o' ho' => hD e.on o' ho' he) i h5
end Go.Den
