import Derived.Test.YtcncmfefcbdnoaaDoorXaD20
set_option linter.unusedVariables false
set_option linter.unusedSimpArgs false
namespace Go.Den
section
variable (P : Program) (call : CallFn) (sz : Nat) (ops : Array Oper) (S : Nat → DS) (val : Nat → IV) (tm0 : Tm)
/-- What holds where D has been done, in whatever order. -/
def Inv (e0 : Env) (h0 : H) (w0 : World) (d0 : List Deferred) (D : Nat → Prop) (a : Act) (w : World) : Prop :=
  ∃ (e : Env) (c : Nat) (G : H), c ≤ ops.toList.length ∧ (∀ x, IsX P ops S x → (x < c ↔ D x)) ∧ (G.next = (S c).g.next ∧ G.asm = (S c).g.asm) ∧ h0.next + ops.toList.length ≤ G.next ∧
    (∀ j b, IsA P h0.next h0.asm ops S j b → D j → (∀ y, y < c → IsX P ops S y → bit (msk ops.toList y) j = false) → G.m.get (h0.next + j) = some b ∧ (S c).g.m.get (h0.next + j) = none) ∧
    (∀ id, (∀ j b, IsA P h0.next h0.asm ops S j b → D j → (∀ y, y < c → IsX P ops S y → bit (msk ops.toList y) j = false) → id ≠ h0.next + j) → G.m.get id = (S c).g.m.get id) ∧
    Step P e0 h0 w0 e G w ∧ (∀ j b, IsA P h0.next h0.asm ops S j b → ¬ D j → e (h0.next + j) = none) ∧
    (∀ t v, Has ops val tm0 D t v → ∃ V, conc e v = some V ∧ a.tmps[t]? = some V) ∧ a.tmps.size = sz ∧ a.defers = d0
end
section
variable {P : Program} {call : CallFn} {sz : Nat} {ops : Array Oper} {S : Nat → DS} {val : Nat → IV} {tm0 : Tm} {g0 : H} {e0 : Env} {h0 : H} {w0 : World} {d0 : List Deferred} {Q : Exit → Act → World → Prop}

/-- the temporaries behind one operation more -/
theorem has_step (hO : DrawnOK ops) {D : Nat → Prop} (hcl : ∀ j, D j → ∀ i, bit (msk ops.toList j) i = true → D i) {i : Nat} {o : Oper} (hL : ops.toList[i]? = some o) (hni : ¬ D i) {e e' : Env} {a : Act} {V : Value} (hle : e.le e') (hV : conc e' (val i) = some V)
    (hsz : a.tmps.size = sz) {tm tm' : Tm} (hp : putD tm sz o.dst (val i) = some tm')
    (ht : ∀ t v, Has ops val tm0 D t v → ∃ V, conc e v = some V ∧ a.tmps[t]? = some V) :
    ∀ t v, Has ops val tm0 (fun j => D j ∨ j = i) t v → ∃ U, conc e' v = some U ∧ (a.put o.dst V).tmps[t]? = some U := by
  intro t v hh
  have hlt : ∀ d, o.dst = some d → d < sz := by
    intro d hd
    rw [hd] at hp
    have hp' : @Bool.rec (fun _ => Option Tm) none (some (tm.put d (val i))) (Nat.blt d sz) = some tm' := hp
    cases hb : Nat.blt d sz with
    | false => rw [hb] at hp'; cases hp'
    | true => exact Nat.blt_eq.mp hb
  -- nobody of D behind i writes what i writes
  have hno : ∀ j o', ops.toList[j]? = some o' → D j → o.dst = some t → o'.dst = some t → j < i := by
    intro j o' hj hD hd hd'
    rcases Nat.lt_trichotomy j i with h | h | h
    · exact h
    · subst h; exact absurd hD hni
    · rcases hO.apart i j o o' h hL hj with hb | hap
      · exact absurd (hcl j hD i hb) hni
      · exact absurd hd' ((Oper.apart_spec hap).2.1 t hd)
  have hset : o.dst = some t → (a.put o.dst V).tmps[t]? = some V := by
    intro hd
    rw [hd]
    have := hlt t hd
    simp [Act.put, hsz, this]
  have hother : o.dst ≠ some t → (a.put o.dst V).tmps[t]? = a.tmps[t]? := by
    intro hd
    cases ho : o.dst with
    | none => rfl
    | some d =>
      rw [ho] at hd
      simp only [Act.put]
      rw [Array.getElem?_setIfInBounds_ne (fun he => hd (by rw [he]))]
  rcases hh with ⟨k, ok, h1, h2, h3, h4, h5⟩ | ⟨h1, h2⟩
  · by_cases hk : k = i
    · subst hk
      rw [hL] at h1; cases h1
      exact ⟨V, by rw [h4]; exact hV, hset h3⟩
    · have hDk : D k := by
        rcases h2 with h | h
        · exact h
        · exact absurd h hk
      by_cases hd : o.dst = some t
      · have := h5 i o hL (.inr rfl) hd
        have := hno k ok h1 hDk hd h3
        omega
      · obtain ⟨U, h6, h7⟩ := ht t v (.inl ⟨k, ok, h1, hDk, h3, h4, fun j o' hj hD hjd => h5 j o' hj (.inl hD) hjd⟩)
        exact ⟨U, conc_mono hle _ h6, by rw [hother hd]; exact h7⟩
  · have hd : o.dst ≠ some t := h1 i o hL (.inr rfl)
    obtain ⟨U, h6, h7⟩ := ht t v (.inr ⟨fun j o' hj hD => h1 j o' hj (.inl hD), h2⟩)
    exact ⟨U, conc_mono hle _ h6, by rw [hother hd]; exact h7⟩
/-- what an operation that may come next looks at is what the text's run looked at -/
theorem has_look (hO : DrawnOK ops) (R : TextRun P call sz h0.next h0.asm ops S val tm0 g0) {D : Nat → Prop} (hDn : ∀ j, D j → j < ops.toList.length) (hcl : ∀ j, D j → ∀ i, bit (msk ops.toList j) i = true → D i) {i : Nat} {o : Oper} (hL : ops.toList[i]? = some o) (hni : ¬ D i)
    (hrd : ∀ j, bit (msk ops.toList i) j = true → D j) {t : Nat} {v : IV} (ht : t ∈ o.looksAt ops) (hv : (S i).tm.get t = some v) : Has ops val tm0 D t v := by
  have hi := (List.getElem?_eq_some_iff.1 hL).1
  have hin : ∀ j o', j < i → ops.toList[j]? = some o' → o'.dst = some t → D j := by
    intro j o' hji hj hd
    rcases hO.apart j i o' o hji hj hL with hb | hap
    · exact hrd j hb
    · exact absurd ht ((Oper.apart_spec hap).1 t hd)
  have hout : ∀ j o', ops.toList[j]? = some o' → D j → o'.dst = some t → j < i := by
    intro j o' hj hD hd
    rcases Nat.lt_trichotomy j i with h | h | h
    · exact h
    · subst h; exact absurd hD hni
    · rcases hO.apart i j o o' h hL hj with hb | hap
      · exact absurd (hcl j hD i hb) hni
      · exact absurd ht ((Oper.apart_spec hap).2.2 t hd)
  rcases R.has i (by omega) t v hv with ⟨k, ok, h1, h2, h3, h4, h5⟩ | ⟨h1, h2⟩
  · exact .inl ⟨k, ok, h1, hin k ok h2 h1 h3, h3, h4, fun j o' hj hD hd => h5 j o' hj (hout j o' hj hD hd) hd⟩
  · exact .inr ⟨fun j o' hj hD hd => h1 j o' hj (hout j o' hj hD hd) hd, h2⟩

theorem drawn_step (hs : Sound P call) (hO : DrawnOK ops) (hA0 : AsmOK h0.asm e0.ρ) (R : TextRun P call sz h0.next h0.asm ops S val tm0 ⟨h0.next + ops.toList.length, h0.m, h0.asm⟩)
    (hall : (S ops.toList.length).xs ≠ [] → allReads P (S ops.toList.length).xs ⟨h0.next + ops.toList.length, h0.m, h0.asm⟩ (S ops.toList.length).ls = true)
    {D : Nat → Prop} (hDn : ∀ j, D j → j < ops.toList.length) (hcl : ∀ j, D j → ∀ i, bit (msk ops.toList j) i = true → D i) {i : Nat} {o : Oper} (hL : ops.toList[i]? = some o) (hni : ¬ D i)
    (hrd : ∀ j, bit (msk ops.toList i) j = true → D j) {a : Act} {w : World} (hI : Inv P sz ops S val tm0 e0 h0 w0 d0 D a w) {K : Act → World → Prop}
    (hK : ∀ a' w', Inv P sz ops S val tm0 e0 h0 w0 d0 (fun j => D j ∨ j = i) a' w' → K a' w') : wpOp P ops Q i K a w := by
  obtain ⟨e, c, G, i1, i2, ⟨i3, i3a⟩, i4, i5, i6, i7, i8, i9, i10, i11⟩ := hI
  have hasm0 : AsmOK h0.asm e.ρ := by rw [i7.le.ρ]; exact hA0
  have hi := (List.getElem?_eq_some_iff.1 hL).1
  have hLa : ops[i]? = some o := by simpa using hL
  -- memory as the stage has it is a part of memory as it is
  have hsub : ∀ id b, (S c).g.m.get id = some b → G.m.get id = some b := by
    intro id b hb
    by_cases hp : ∃ j b', IsA P h0.next h0.asm ops S j b' ∧ D j ∧ (∀ y, y < c → IsX P ops S y → bit (msk ops.toList y) j = false) ∧ id = h0.next + j
    · obtain ⟨j, b', q1, q2, q3, rfl⟩ := hp
      have := (i5 j b' q1 q2 q3).2
      rw [this] at hb; cases hb
    · rw [i6 id (fun j b' q1 q2 q3 he => hp ⟨j, b', q1, q2, q3, he⟩)]; exact hb
  have hrel : Rel P e (S c).g w := i7.rel.sub i3.symm i3a.symm hsub
  have hrel0 : Rel P e ⟨(S c).g.next, (S c).g.m, h0.asm⟩ w := ⟨hrel.dom, hrel.inj, hrel.blk, hrel.glob, hasm0⟩
  -- the operands
  have hlook : ∀ t ∈ o.looksAt ops, ∀ v, (S i).tm.get t = some v → ∃ V, conc e v = some V ∧ a.tmps[t]? = some V := fun t ht v hv => i9 t v (has_look hO R hDn hcl hL hni hrd ht hv)
  have hguard : ∀ j b, o.guard = some (j, b) → ∀ g d, ops[j]? = some g → g.dst = some d → ∀ v, (S i).tm.get d = some v → ∃ V, conc e v = some V ∧ a.tmps[d]? = some V := by
    intro j b hg g d hgj hgd v hv
    refine hlook d ?_ v hv
    unfold Oper.looksAt
    rw [hg]
    simp [hgj, hgd]
  have hR : TmOK e (restT (S i).tm o.op.operands.toList) a.tmps := by
    intro t v hv
    obtain ⟨q1, q2⟩ := restT_some hv
    refine hlook t ?_ v q2
    unfold Oper.looksAt
    exact List.mem_append_left _ (List.mem_filterMap.2 ⟨_, q1, rfl⟩)
  have hcg : ∀ g, opDo P (S i).tm g o.op = opDo P (restT (S i).tm o.op.operands.toList) g o.op := fun g => opDo_congr o.op (fun x hx => ev_restT (Array.mem_toList_iff.2 hx))
  -- where the operation does not act
  have keep : ∀ {V : Value} {tm tm' : Tm}, ¬ IsX P ops S i → (∀ b, ¬ IsA P h0.next h0.asm ops S i b) → conc e (val i) = some V → putD tm sz o.dst (val i) = some tm' → K (a.put o.dst V) w := by
    intro V tm tm' hnX hnA hV hp
    refine hK _ _ ⟨e, c, G, i1, fun x hx => ?_, ⟨i3, i3a⟩, i4, ?_, ?_, i7, fun j b hA hD => i8 j b hA (fun h => hD (.inl h)), has_step hO hcl hL hni (Env.le_refl e) hV i10 hp i9, ?_, ?_⟩
    · rw [i2 x hx]
      constructor
      · exact .inl
      · rintro (h | rfl)
        · exact h
        · exact absurd hx hnX
    · intro j b hA hD hun
      rcases hD with h | rfl
      · exact i5 j b hA h hun
      · exact absurd hA (hnA b)
    · intro id hid
      exact i6 id (fun j b hA hD hun => hid j b hA (.inl hD) hun)
    · cases o.dst <;> simp [Act.put, i10]
    · cases o.dst <;> exact i11
  unfold wpOp
  simp only [hLa]
  have hf := R.fact i o hL
  generalize hvv : val i = vv at hf
  cases hf with
  | skip hw hp hg hpe hx hl =>
    have hww := wantedD_ok hguard hw
    simp only [hww, Bool.false_eq_true, if_false]
    exact keep (V := undef) (fun ⟨o', h1, h2, h3⟩ => by rw [hL] at h1; cases h1; rw [hw] at h2; cases h2) (fun b ⟨o', v', g', h1, h2, _⟩ => by rw [hL] at h1; cases h1; rw [hw] at h2; cases h2) (by rw [hvv]; rfl) (by rw [hvv]; exact hp)
  | p hw hc _ g hv hp hg hpe hx hl =>
    have hww := wantedD_ok hguard hw
    simp only [hww, if_true]
    have h1 := pure_indep o.op hc _ _ _ (valD_some hv) ⟨(S c).g.next, (S c).g.m, h0.asm⟩ rfl
    simp only at h1
    rw [hcg] at h1
    obtain ⟨_, V, h2, h3⟩ := read_ok (.inl hc) hR hrel0 h1
    refine .inl ?_
    unfold Oper.wp; rw [h3]
    exact keep (fun ⟨o', h1, h2, h3⟩ => by rw [hL] at h1; cases h1; rw [hc] at h3; cases h3) (fun b ⟨o', v', g', h1, h2, h3, _⟩ => by rw [hL] at h1; cases h1; rw [hc] at h3; cases h3) (by rw [hvv]; exact h2) (by rw [hvv]; exact hp)
  | l hw hc _ g hv hp hg hpe hx hl =>
    have hww := wantedD_ok hguard hw
    simp only [hww, if_true]
    have key : ∃ g', valD P (S i).tm (S c).g o.op = some (vv, g') := by
      by_cases hnil : (S ops.toList.length).xs = []
      · have hnX : ∀ x, ¬ IsX P ops S x := by
          intro x hX
          have := (R.xs ops.toList.length (Nat.le_refl _) _).2 ⟨x, hX.lt, hX, rfl⟩
          rw [hnil] at this; cases this
        have e1 := R.still (Nat.zero_le i) (by omega) (fun x _ _ => hnX x)
        have e2 := R.still (Nat.zero_le c) i1 (fun x _ _ => hnX x)
        exact ⟨g, by rw [e2, ← e1]; exact hv⟩
      · have hrs := allReads_mem (hall hnil) _ (R.reads ops.toList.length (Nat.le_refl _) i o hi hL hw hc)
        have stands : ∀ c', (∀ x, IsX P ops S x → (x < c' ↔ x < c)) → mayStand (S ops.toList.length).xs ⟨i, msk ops.toList i, (S i).tm, o.op, val i⟩ c' = true := by
          intro c' hcc
          refine mayStand_true (fun y hy => ?_)
          obtain ⟨j, h1, h2, rfl⟩ := (R.xs ops.toList.length (Nat.le_refl _) y).1 hy
          constructor
          · intro hlt
            cases hb : bit (msk ops.toList j) i with
            | false => rfl
            | true => exact absurd (hcl j ((i2 j h2).1 ((hcc j h2).1 hlt)) i hb) hni
          · intro hlt
            cases hb : bit (msk ops.toList i) j with
            | false => rfl
            | true => exact absurd ((hcc j h2).2 ((i2 j h2).2 (hrd j hb))) hlt
        by_cases hex : ∃ x, IsX P ops S x ∧ x < c
        · -- the last act that is done
          have hmax : ∃ x, IsX P ops S x ∧ x < c ∧ ∀ y, IsX P ops S y → y < c → y ≤ x := by
            have : ∀ k, (∃ x, IsX P ops S x ∧ x < c ∧ c - x ≤ k) → ∃ x, IsX P ops S x ∧ x < c ∧ ∀ y, IsX P ops S y → y < c → y ≤ x := by
              intro k
              induction k with
              | zero => rintro ⟨x, h1, h2, h3⟩; omega
              | succ k ih =>
                rintro ⟨x, h1, h2, h3⟩
                by_cases hy : ∃ y, IsX P ops S y ∧ y < c ∧ x < y
                · obtain ⟨y, h4, h5, h6⟩ := hy
                  exact ih ⟨y, h4, h5, by omega⟩
                · exact ⟨x, h1, h2, fun y h4 h5 => by
                    rcases Nat.lt_or_ge x y with h | h
                    · exact absurd ⟨y, h4, h5, h⟩ hy
                    · exact h⟩
            obtain ⟨x, h1, h2⟩ := hex
            exact this (c - x) ⟨x, h1, h2, Nat.le_refl _⟩
          obtain ⟨x, h1, h2, h3⟩ := hmax
          have h4 := hrs.2 _ ((R.xs ops.toList.length (Nat.le_refl _) _).2 ⟨x, h1.lt, h1, rfl⟩)
          have e1 := R.still (i := x + 1) (j := c) (by omega) i1 (fun y q1 q2 hX => by have := h3 y hX q2; omega)
          obtain ⟨g', h5⟩ := readsSame_some h4 (stands (x + 1) (fun y hy => ⟨fun q => by omega, fun q => by have := h3 y hy q; omega⟩))
          exact ⟨g', by rw [e1, ← hvv]; exact h5⟩
        · have e1 := R.still (Nat.zero_le c) i1 (fun x _ q hX => hex ⟨x, hX, q⟩)
          obtain ⟨g', h5⟩ := readsSame_some hrs.1 (stands 0 (fun y hy => ⟨fun q => by omega, fun q => absurd ⟨y, hy, q⟩ hex⟩))
          refine ⟨g', ?_⟩
          rw [e1, R.start, ← hvv]
          exact h5
    obtain ⟨g', h1⟩ := key
    have h1' := valD_some h1
    simp only at h1'
    rw [hcg] at h1'
    obtain ⟨_, V, h2, h3⟩ := read_ok (.inr hc) hR hrel h1'
    refine .inl ?_
    unfold Oper.wp; rw [h3]
    exact keep (fun ⟨o', h1, h2, h3⟩ => by rw [hL] at h1; cases h1; rw [hc] at h3; cases h3) (fun b ⟨o', v', g', h1, h2, h3, _⟩ => by rw [hL] at h1; cases h1; rw [hc] at h3; cases h3) (by rw [hvv]; exact h2) (by rw [hvv]; exact hp)
  | a hw hc _ g b hv hb hp hg hpe hx hl =>
    have hww := wantedD_ok hguard hw
    simp only [hww, if_true]
    have hA : IsA P h0.next h0.asm ops S i b := ⟨_, _, _, hL, hw, hc, hv, hb⟩
    have h1 := valD_some hv
    simp only at h1
    rw [hcg] at h1
    obtain ⟨b', h2, hrw, cf, V, w', obj, h3, h4, h5, h6, h7, h8⟩ := alloc_ok hc hR i7.rel h1
    have hbb : b' = b := by
      rw [h2] at hb
      have : (H.new ⟨h0.next + i, .nil, h0.asm⟩ b').m.get (h0.next + i) = some b' := by
        show ((T.nil : T Blk).put (h0.next + i) b').get (h0.next + i) = some b'
        rw [get_put, if_pos rfl]
      rw [this] at hb
      exact Option.some.inj hb
    subst hbb
    have hnone : e (h0.next + i) = none := i8 i b' hA hni
    have hle : e.le (upd e (h0.next + i) (w.heap.size, cf)) := by
      refine ⟨?_, rfl, rfl⟩
      intro j q hq
      simp only [upd]
      split
      · rename_i he; rw [he, hnone] at hq; cases hq
      · exact hq
    obtain ⟨h9, h10⟩ := h8 (upd e (h0.next + i) (w.heap.size, cf)) hle (upd_at _ _)
    refine .inl ?_
    unfold Oper.wp; rw [h3]
    have hun : ∀ y, y < c → IsX P ops S y → bit (msk ops.toList y) i = false := by
      intro y hy hX
      cases hbt : bit (msk ops.toList y) i with
      | false => rfl
      | true => exact absurd (hcl y ((i2 y hX).1 hy) i hbt) hni
    have hgc : (S c).g.m.get (h0.next + i) = none := by
      cases hq : (S c).g.m.get (h0.next + i) with
      | none => rfl
      | some x =>
        obtain ⟨p, hp, _⟩ := hrel.blk _ x hq
        rw [hnone] at hp; cases hp
    have hput : ∀ id, (G.put (h0.next + i) b').m.get id = if id = h0.next + i then some b' else G.m.get id := fun id => get_put _ _ _ _
    refine hK _ _ ⟨upd e (h0.next + i) (w.heap.size, cf), c, G.put (h0.next + i) b', i1, fun x hXx => ?_, ⟨i3, i3a⟩, i4, ?_, ?_, ?_, ?_, ?_, ?_, ?_⟩
    · rw [i2 x hXx]
      constructor
      · exact .inl
      · rintro (h | h)
        · exact h
        · rw [h] at hXx; exact absurd hXx hA.not_X
    · intro j bj hAj hD hunj
      rw [hput]
      by_cases hji : j = i
      · subst hji
        rw [if_pos rfl, hAj.fn hA]
        exact ⟨rfl, hgc⟩
      · rw [if_neg (by omega)]
        rcases hD with h | h
        · exact i5 j bj hAj h hunj
        · exact absurd h hji
    · intro id hid
      rw [hput, if_neg (hid i b' hA (.inr rfl) hun)]
      exact i6 id (fun j bj hAj hD hunj => hid j bj hAj (.inl hD) hunj)
    · exact Step.then_new i7 (by omega) (by omega) hnone hrw h4 h5 h6 h7 h10 rfl rfl hput
    · intro j bj hAj hD
      have hji : j ≠ i := fun he => hD (.inr he)
      have : upd e (h0.next + i) (w.heap.size, cf) (h0.next + j) = e (h0.next + j) := by
        simp only [upd]
        rw [if_neg (by omega)]
      rw [this]
      exact i8 j bj hAj (fun h => hD (.inl h))
    · exact has_step hO hcl hL hni hle (by rw [hvv]; exact h9) i10 (by rw [hvv]; exact hp) i9
    · cases o.dst <;> simp [Act.put, i10]
    · cases o.dst <;> exact i11
  | x hw hc _ hb hv hp hpe hx hl =>
    have hww := wantedD_ok hguard hw
    simp only [hww, if_true]
    have hX : IsX P ops S i := ⟨_, hL, hw, hc⟩
    have hm := R.mask hL
    rw [hm] at hv
    have hdoes := actD_some hv
    simp only at hdoes
    have hdoes' : Does P call (restT (S i).tm o.op.operands.toList) (matH h0.next (msk ops.toList i) (S i).pend (S i).g) o.op vv (S (i + 1)).g := by
      rcases hdoes with hd | ⟨f, args, hd, hcall⟩
      · exact .inl (by rw [← hcg]; exact hd)
      · exact .inr ⟨f, args, by rw [← hcg]; exact hd, hcall⟩
    -- the acts that are done are those before i
    have hbefore : ∀ x, IsX P ops S x → (x < c ↔ x < i) := by
      intro x hx
      constructor
      · intro hlt
        have hD := (i2 x hx).1 hlt
        rcases Nat.lt_trichotomy x i with h | h | h
        · exact h
        · subst h; exact absurd hD hni
        · exact absurd (hcl x hD i (R.order hX hx h)) hni
      · intro hlt
        exact (i2 x hx).2 (hrd x (R.order hx hX hlt))
    have hstage : (S c).g = (S i).g := by
      rcases Nat.le_total c i with h | h
      · exact (R.still h (by omega) (fun x q1 q2 hx => by have := (hbefore x hx).2 q2; omega)).symm
      · exact R.still h i1 (fun x q1 q2 hx => by have := (hbefore x hx).1 q2; omega)
    have hpn : ∀ p q, p ∈ (S i).pend → q ∈ (S i).pend → p.1 = q.1 → p = q := by
      rintro ⟨j, b⟩ ⟨j', b'⟩ h1 h2 he
      simp only at he
      subst he
      have q1 := ((R.pend hO i (by omega) j b).1 h1).2.1
      have q2 := ((R.pend hO i (by omega) j b').1 h2).2.1
      rw [q1.fn q2]
    obtain ⟨m1, m2⟩ := matH_get (g := (S i).g) (N := h0.next) (m := msk ops.toList i) (S i).pend hpn
    have hgsub : ∀ id b, (matH h0.next (msk ops.toList i) (S i).pend (S i).g).m.get id = some b → G.m.get id = some b := by
      intro id b hb
      by_cases hp : ∃ p, p ∈ (S i).pend ∧ bit (msk ops.toList i) p.1 = true ∧ id = h0.next + p.1
      · obtain ⟨⟨j, bj⟩, q1, q2, rfl⟩ := hp
        rw [m1 _ q1 q2] at hb
        cases hb
        obtain ⟨q3, q4, q5⟩ := (R.pend hO i (by omega) j bj).1 q1
        exact (i5 j bj q4 (hrd j q2) (fun y hy hXy => q5 y ((hbefore y hXy).1 hy) hXy)).1
      · rw [m2 id (fun p q1 q2 he => hp ⟨p, q1, q2, he⟩), ← hstage] at hb
        exact hsub id b hb
    have hgn : (matH h0.next (msk ops.toList i) (S i).pend (S i).g).next = G.next := by rw [matH_next, ← hstage, i3]
    have hga : (matH h0.next (msk ops.toList i) (S i).pend (S i).g).asm = G.asm := by rw [matH_asm, ← hstage, i3a]
    have hgrel : Rel P e (matH h0.next (msk ops.toList i) (S i).pend (S i).g) w := i7.rel.sub hgn hga hgsub
    refine .inl (oper_wp hs hR hgrel hdoes' (fun V w' e' hst hcv => ?_))
    -- memory behind the act
    obtain ⟨G', g1, g1a, g2, g3⟩ := exists_heap (S (i + 1)).g h0.next (fun j b => IsA P h0.next h0.asm ops S j b ∧ D j ∧ ∀ y, y < i + 1 → IsX P ops S y → bit (msk ops.toList y) j = false) (fun j b b' h h' => h.1.fn h'.1) ops.toList.length
    have haside : ∀ j b, IsA P h0.next h0.asm ops S j b → D j → (∀ y, y < i + 1 → IsX P ops S y → bit (msk ops.toList y) j = false) → (matH h0.next (msk ops.toList i) (S i).pend (S i).g).m.get (h0.next + j) = none ∧ G.m.get (h0.next + j) = some b := by
      intro j b hAj hDj hunj
      have hunc : ∀ y, y < c → IsX P ops S y → bit (msk ops.toList y) j = false := fun y hy hXy => hunj y (by have := (hbefore y hXy).1 hy; omega) hXy
      obtain ⟨q1, q2⟩ := i5 j b hAj hDj hunc
      refine ⟨?_, q1⟩
      rw [m2 _ (fun p h1 h2 he => ?_), ← hstage]
      · exact q2
      · have : p.1 = j := by omega
        rw [this, hunj i (by omega) hX] at h2
        cases h2
    have hfr : Step P e G w e' G' w' := by
      refine Step.frame i7.rel hgn hgsub hst g1 g1a (fun id b hb => ?_)
      by_cases hp : ∃ j bj, j < ops.toList.length ∧ (IsA P h0.next h0.asm ops S j bj ∧ D j ∧ ∀ y, y < i + 1 → IsX P ops S y → bit (msk ops.toList y) j = false) ∧ id = h0.next + j
      · obtain ⟨j, bj, q1, q2, rfl⟩ := hp
        rw [g2 j bj q1 q2] at hb
        cases hb
        exact .inr (haside j b q2.1 q2.2.1 q2.2.2)
      · rw [g3 id (fun j bj q1 q2 he => hp ⟨j, bj, q1, q2, he⟩)] at hb
        exact .inl hb
    refine hK _ _ ⟨e', i + 1, G', by omega, fun x hx => ?_, ⟨g1, g1a⟩, ?_, ?_, ?_, i7.trans hfr, ?_, ?_, ?_, ?_⟩
    · constructor
      · intro hlt
        rcases Nat.lt_or_ge x i with h | h
        · exact .inl ((i2 x hx).1 ((hbefore x hx).2 h))
        · exact .inr (by omega)
      · rintro (h | rfl)
        · have := (hbefore x hx).1 ((i2 x hx).2 h); omega
        · omega
    · exact Nat.le_trans i4 hfr.next
    · intro j b hAj hD hunj
      have hDj : D j := by
        rcases hD with h | rfl
        · exact h
        · exact absurd hX hAj.not_X
      obtain ⟨q1, q2⟩ := haside j b hAj hDj hunj
      exact ⟨g2 j b hAj.lt ⟨hAj, hDj, hunj⟩, Step.apart i7.rel hgsub hst q1 q2⟩
    · intro id hid
      exact g3 id (fun j b hj hRj => hid j b hRj.1 (.inl hRj.2.1) hRj.2.2)
    · intro j b hAj hD
      have hnD : ¬ D j := fun h => hD (.inl h)
      rw [hst.keep (h0.next + j) (by rw [hgn]; have := hAj.lt; omega)]
      exact i8 j b hAj hnD
    · exact has_step hO hcl hL hni hst.le (by rw [hvv]; exact hcv) i10 (by rw [hvv]; exact hp) i9
    · cases o.dst <;> simp [Act.put, i10]
    · cases o.dst <;> exact i11
end
end Go.Den
