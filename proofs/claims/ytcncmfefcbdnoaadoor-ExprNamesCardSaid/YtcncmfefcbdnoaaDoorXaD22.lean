import Derived.Test.YtcncmfefcbdnoaaDoorXaD21
set_option linter.unusedVariables false
set_option linter.unusedSimpArgs false
namespace Go.Den
/-- how many are not listed yet -/
def left (l : Array Bool) : Nat → Nat
  | 0 => 0
  | k + 1 => left l k + (if l.getD k false then 0 else 1)
theorem left_set {l : Array Bool} {i : Nat} (hi : i < l.size) (hl : l.getD i false = false) : ∀ k, left (l.setIfInBounds i true) k + (if i < k then 1 else 0) = left l k
  | 0 => by simp [left]
  | k + 1 => by
    have ih := left_set hi hl k
    simp only [left]
    by_cases hik : i = k
    · subst hik
      have h1 : (l.setIfInBounds i true).getD i false = true := by simp [hi]
      rw [h1, hl]
      simp at ih ⊢
      omega
    · rw [getD_set_ne false hik]
      by_cases hlt : i < k
      · have e1 : (if i < k then 1 else 0) = 1 := if_pos hlt
        have e2 : (if i < k + 1 then 1 else 0) = 1 := if_pos (by omega)
        rw [e1] at ih
        rw [e2, ← ih]
        omega
      · have e1 : (if i < k then 1 else 0) = 0 := if_neg hlt
        have e2 : (if i < k + 1 then 1 else 0) = 0 := if_neg (by omega)
        rw [e1] at ih
        rw [e2, ← ih]
        omega
theorem left_zero {l : Array Bool} : ∀ {k}, left l k = 0 → ∀ j, j < k → l.getD j false = true
  | 0, _, j, hj => by omega
  | k + 1, h, j, hj => by
    simp only [left] at h
    cases hk : l.getD k false with
    | false => rw [hk] at h; simp at h
    | true =>
      rw [hk] at h
      rcases Nat.lt_or_ge j k with hh | hh
      · exact left_zero (by simpa using h) j hh
      · have : j = k := by omega
        rw [this]; exact hk
theorem rep_getD (n j : Nat) : (Array.replicate n false).getD j false = false := by
  rw [Array.getD_eq_getD_getElem?, Array.getElem?_replicate]
  split <;> rfl
theorem left_replicate (n : Nat) : ∀ k, k ≤ n → left (Array.replicate n false) k = k
  | 0, _ => rfl
  | k + 1, h => by
    simp only [left]
    rw [left_replicate n k (by omega)]
    rw [rep_getD]; rfl
section
variable {P : Program} {call : CallFn} {sz : Nat} {ops : Array Oper} {Q : Exit → Act → World → Prop}

theorem has_congr {val : Nat → IV} {tm0 : Tm} {D D' : Nat → Prop} (hd : ∀ j, D j ↔ D' j) {t : Nat} {v : IV} (h : Has ops val tm0 D t v) : Has ops val tm0 D' t v := by
  have : D = D' := funext fun j => propext (hd j)
  rw [← this]; exact h
theorem Inv.congr {S : Nat → DS} {val : Nat → IV} {tm0 : Tm} {e0 : Env} {h0 : H} {w0 : World} {d0 : List Deferred} {D D' : Nat → Prop} (hd : ∀ j, D j ↔ D' j) {a : Act} {w : World} (h : Inv P sz ops S val tm0 e0 h0 w0 d0 D a w) : Inv P sz ops S val tm0 e0 h0 w0 d0 D' a w := by
  have : D = D' := funext fun j => propext (hd j)
  rw [← this]; exact h
theorem drawn_any (hs : Sound P call) (hO : DrawnOK ops) {S : Nat → DS} {val : Nat → IV} {tm0 : Tm} {e0 : Env} {h0 : H} {w0 : World} {d0 : List Deferred}
    (hA0 : AsmOK h0.asm e0.ρ) (R : TextRun P call sz h0.next h0.asm ops S val tm0 ⟨h0.next + ops.toList.length, h0.m, h0.asm⟩)
    (hall : (S ops.toList.length).xs ≠ [] → allReads P (S ops.toList.length).xs ⟨h0.next + ops.toList.length, h0.m, h0.asm⟩ (S ops.toList.length).ls = true)
    (hQ : ∀ a w, Inv P sz ops S val tm0 e0 h0 w0 d0 (fun j => j < ops.toList.length) a w → Q .normal a w) :
    ∀ (fuel : Nat) (listed : Array Bool) (a : Act) (w : World), listed.size = ops.size → left listed ops.size = fuel →
      (∀ j o, ops[j]? = some o → listed.getD j false = true → ∀ e ∈ o.after, Region.binds .any e = true → listed.getD e.on false = true) →
      Inv P sz ops S val tm0 e0 h0 w0 d0 (fun j => listed.getD j false = true) a w → wpAny P .any ops Q fuel listed a w := by
  have hlen : ops.toList.length = ops.size := Array.length_toList
  -- nobody may come next: all have come
  have done : ∀ (listed : Array Bool) (a : Act) (w : World), listed.size = ops.size → Region.ready .any ops listed = [] → Inv P sz ops S val tm0 e0 h0 w0 d0 (fun j => listed.getD j false = true) a w → Q .normal a w := by
    intro listed a w hsz hr hI
    have hallj : ∀ n j, j < n → j < ops.size → listed.getD j false = true := by
      intro n
      induction n with
      | zero => intro j hj; omega
      | succ n ih =>
        intro j hj hjs
        cases hb : listed.getD j false with
        | true => rfl
        | false =>
          exfalso
          have hmem : j ∈ Region.ready .any ops listed := by
            rw [mem_ready]
            refine ⟨?_, ops[j], by simp [hjs], fun e he hbd => ?_⟩
            · rw [Array.getD_eq_getD_getElem?, Array.getElem?_eq_getElem (by omega)] at hb ⊢
              exact hb
            · have := hO.edges j ops[j] (by simp [hjs]) e he hbd
              exact ih e.on (by omega) (by omega)
          rw [hr] at hmem; cases hmem
    refine hQ a w (hI.congr (fun j => ?_))
    constructor
    · intro h
      rcases Nat.lt_or_ge j ops.size with hh | hh
      · omega
      · rw [Array.getD_eq_getD_getElem?, Array.getElem?_eq_none (by omega)] at h; cases h
    · intro h; exact hallj (j + 1) j (by omega) (by omega)
  intro fuel
  induction fuel with
  | zero =>
    intro listed a w hsz hleft hcl hI
    have hr : Region.ready .any ops listed = [] := by
      cases hr : Region.ready .any ops listed with
      | nil => rfl
      | cons j l =>
        have hm : j ∈ Region.ready .any ops listed := by rw [hr]; simp
        obtain ⟨h1, o, h2, _⟩ := mem_ready.1 hm
        have hj := (Array.getElem?_eq_some_iff.1 h2).1
        have := left_zero hleft j hj
        rw [Array.getD_eq_getD_getElem?, Array.getElem?_eq_getElem (by omega)] at h1 this
        simp at h1 this
        rw [h1] at this; cases this
    exact ⟨hr, done listed a w hsz hr hI⟩
  | succ fuel ih =>
    intro listed a w hsz hleft hcl hI
    refine ⟨fun hr => done listed a w hsz hr hI, fun i hm => ?_⟩
    obtain ⟨h1, o, h2, h3⟩ := mem_ready.1 hm
    have hi := (Array.getElem?_eq_some_iff.1 h2).1
    have hnf : listed.getD i false = false := by
      rw [Array.getD_eq_getD_getElem?, Array.getElem?_eq_getElem (by omega)] at h1 ⊢
      exact h1
    have hDL : ∀ j o, ops.toList[j]? = some o → listed.getD j false = true → ∀ e ∈ o.after, Region.binds .any e = true → listed.getD e.on false = true := fun j o hj => hcl j o (by simpa using hj)
    have hcl' : ∀ j, listed.getD j false = true → ∀ k, bit (msk ops.toList j) k = true → listed.getD k false = true := by
      intro j hj k hb
      exact mask_closed (L := ops.toList) (D := fun k => listed.getD k false = true) hDL (j + 1) j (by omega) (fun o' ho' => hDL j o' ho' hj) k hb
    have hrd : ∀ k, bit (msk ops.toList i) k = true → listed.getD k false = true := by
      intro k hb
      refine mask_closed (L := ops.toList) (D := fun k => listed.getD k false = true) hDL (i + 1) i (by omega) (fun o' ho' => ?_) k hb
      have : o' = o := by
        have h4 : ops[i]? = some o' := by simpa using ho'
        rw [h2] at h4; exact (Option.some.inj h4).symm
      subst this
      exact h3
    refine drawn_step hs hO hA0 R hall (D := fun j => listed.getD j false = true) (fun j hj => ?_) hcl' (by simpa using h2) (by simp only [hnf]; decide) hrd hI (fun a' w' hI' => ?_)
    · rcases Nat.lt_or_ge j ops.size with hh | hh
      · omega
      · rw [Array.getD_eq_getD_getElem?, Array.getElem?_eq_none (by omega)] at hj; cases hj
    · have hset : ∀ j, (listed.setIfInBounds i true).getD j false = true ↔ (listed.getD j false = true ∨ j = i) := by
        intro j
        by_cases hji : i = j
        · subst hji
          simp [show i < listed.size by omega]
        · rw [getD_set_ne false hji]
          constructor
          · exact .inl
          · rintro (h | h)
            · exact h
            · exact absurd h.symm hji
      refine ih _ a' w' (by simp [hsz]) ?_ ?_ (hI'.congr (fun j => (hset j).symm))
      · have := left_set (by omega) hnf ops.size
        rw [if_pos hi] at this
        omega
      · intro j oj hj hlj e he hbd
        rw [hset] at hlj ⊢
        rcases hlj with h | h
        · exact .inl (hcl j oj hj h e he hbd)
        · subst h
          have : oj = o := by rw [h2] at hj; exact (Option.some.inj hj).symm
          subst this
          exact .inl (h3 e he hbd)
/-- A region whose order is drawn. -/
theorem drawD_ok (hm : P.follows .mixedOrders = true) (hs : Sound P call) (hO : DrawnOK ops) {id : Nat} {tm : Tm} {h : H} {r : Tm × H} {e : Env} {a : Act} {w : World} (hd : drawD P call sz ops tm h = some r) (k : TmOK e tm a.tmps) (hr : Rel P e h w) (hsz : a.tmps.size = sz)
    (hQ : ∀ e' a' w', Step P e h w e' r.2 w' → TmOK e' r.1 a'.tmps → a'.tmps.size = sz → a'.defers = a.defers → Q .normal a' w') : (Code.region id ops true).wp P Q a w := by
  obtain ⟨s, h1, h2⟩ := ob_some hd
  have hck : (s.xs ≠ [] → allReads P s.xs ⟨h.next + ops.toList.length, h.m, h.asm⟩ s.ls = true) ∧ r = (s.tm, allH h.next s.pend s.g) := by
    cases hx : s.xs with
    | nil =>
      rw [hx] at h2
      cases h2
      exact ⟨fun hh => absurd rfl hh, rfl⟩
    | cons x l =>
      rw [hx] at h2
      have h2' : @Bool.rec (fun _ => Option (Tm × H)) none (some (s.tm, allH h.next s.pend s.g)) (allReads P (x :: l) ⟨h.next + ops.toList.length, h.m, h.asm⟩ s.ls) = some r := h2
      cases hb : allReads P (x :: l) ⟨h.next + ops.toList.length, h.m, h.asm⟩ s.ls with
      | false => rw [hb] at h2'; cases h2'
      | true => rw [hb] at h2'; cases h2'; exact ⟨fun _ => rfl, rfl⟩
  obtain ⟨hall, hreq⟩ := hck
  obtain ⟨S, q1, q2, q3⟩ := drawList_states ops.toList 0 _ s h1
  simp only [Nat.zero_add] at q2 q3
  have hfact : ∀ i o, ops.toList[i]? = some o → ∃ v, StepFact P call sz h.next h.asm ops i o (S i) (S (i + 1)) v := fun i o hi => (drawStep_some (q3 i o hi)).2
  have hval : ∃ val : Nat → IV, ∀ i o, ops.toList[i]? = some o → StepFact P call sz h.next h.asm ops i o (S i) (S (i + 1)) (val i) := by
    have : ∀ i, ∃ v, ∀ o, ops.toList[i]? = some o → StepFact P call sz h.next h.asm ops i o (S i) (S (i + 1)) v := by
      intro i
      cases hL : ops.toList[i]? with
      | none => exact ⟨.nilPtr, fun o ho => by cases ho⟩
      | some o =>
        obtain ⟨v, hv⟩ := hfact i o hL
        exact ⟨v, fun o' ho' => by cases ho'; exact hv⟩
    exact ⟨fun i => Classical.choose (this i), fun i => Classical.choose_spec (this i)⟩
  obtain ⟨val, hval⟩ := hval
  have R : TextRun P call sz h.next h.asm ops S val tm ⟨h.next + ops.toList.length, h.m, h.asm⟩ := ⟨q1, fun i o hi => (drawStep_some (q3 i o hi)).1, hval⟩
  have hlen : ops.toList.length = ops.size := Array.length_toList
  have hreq1 : r.1 = s.tm := by rw [hreq]
  have hreq2 : r.2 = allH h.next s.pend s.g := by rw [hreq]
  refine wp_region_any hm (drawn_any (w0 := w) (e0 := e) (d0 := a.defers) hs hO hr.asm R (by rw [q2]; exact hall) (fun a' w' hI => ?_) ops.size (Array.replicate ops.size false) a _ (by simp) (left_replicate _ _ (Nat.le_refl _)) ?_ ?_)
  · obtain ⟨e', c, G, i1, i2, ⟨i3, i3a⟩, i4, i5, i6, i7, i8, i9, i10, i11⟩ := hI
    have hstage : (S c).g = s.g := by
      rw [← q2]
      exact (R.still i1 (Nat.le_refl _) (fun x h3 h4 hX => by have := (i2 x hX).2 hX.lt; omega)).symm
    have hun : ∀ (j : Nat), (∀ y, y < c → IsX P ops S y → bit (msk ops.toList y) j = false) ↔ (∀ y, y < ops.toList.length → IsX P ops S y → bit (msk ops.toList y) j = false) := by
      intro j
      constructor
      · intro h5 y hy hX; exact h5 y ((i2 y hX).2 hy) hX
      · intro h5 y hy hX; exact h5 y hX.lt hX
    have hpn : ∀ p q, p ∈ s.pend → q ∈ s.pend → p.1 = q.1 → p = q := by
      rw [← q2]
      rintro ⟨j, b⟩ ⟨j', b'⟩ h3 h4 he
      simp only at he
      subst he
      have a1 := ((R.pend hO _ (Nat.le_refl _) j b).1 h3).2.1
      have a2 := ((R.pend hO _ (Nat.le_refl _) j b').1 h4).2.1
      rw [a1.fn a2]
    obtain ⟨m1, m2⟩ := allH_get (g := s.g) (N := h.next) s.pend hpn
    refine hQ e' a' w' (Step.ext i7 ?_ (by rw [hreq2, allH_asm, i3a, hstage]) (fun id => ?_)) (fun t v hv => ?_) i10 i11
    · rw [hreq2, allH_next, i3, hstage]
    · rw [hreq2]
      by_cases hp : ∃ p ∈ s.pend, id = h.next + p.1
      · obtain ⟨⟨j, b⟩, h3, rfl⟩ := hp
        rw [m1 _ h3]
        rw [← q2] at h3
        obtain ⟨a1, a2, a3⟩ := (R.pend hO _ (Nat.le_refl _) j b).1 h3
        exact ((i5 j b a2 a1 ((hun j).2 a3)).1).symm
      · rw [m2 id (fun p h3 he => hp ⟨p, h3, he⟩), ← hstage]
        refine (i6 id (fun j b hA hD hunj he => hp ⟨(j, b), ?_, he⟩)).symm
        rw [← q2]
        exact (R.pend hO _ (Nat.le_refl _) j b).2 ⟨hD, hA, (hun j).1 hunj⟩
    · rw [hreq1] at hv
      refine i9 t v (R.has _ (Nat.le_refl _) t v (by rw [q2]; exact hv))
  · intro j o hj hl
    rw [rep_getD] at hl; cases hl
  · have hno : ∀ j, ¬ ((Array.replicate ops.size false).getD j false = true) := by
      intro j hl
      rw [rep_getD] at hl; cases hl
    refine ⟨e, 0, ⟨h.next + ops.toList.length, h.m, h.asm⟩, Nat.zero_le _, fun x _ => ⟨fun hh => by omega, fun hh => absurd hh (hno x)⟩, ⟨by rw [q1], by rw [q1]⟩, Nat.le_refl _, fun j b _ hD => absurd hD (hno j), fun id _ => by rw [q1], Step.bump (w' := { w with drawn := w.drawn + 1 }) hr rfl rfl rfl rfl (Nat.le_add_right _ _), fun j b hA _ => hr.dom _ (Nat.le_add_right _ _), ?_, hsz, rfl⟩
    intro t v hh
    rcases hh with ⟨i, o, _, hD, _⟩ | ⟨_, h3⟩
    · exact absurd hD (hno i)
    · exact k t v h3
end
end Go.Den
