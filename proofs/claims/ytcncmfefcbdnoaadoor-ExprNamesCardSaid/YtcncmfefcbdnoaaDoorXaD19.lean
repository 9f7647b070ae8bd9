import Derived.Test.YtcncmfefcbdnoaaDoorXaD18
set_option linter.unusedVariables false
set_option linter.unusedSimpArgs false
namespace Go.Den
/-- What one operation of a drawn region came to, in the order of the text. -/
inductive StepFact (P : Program) (call : CallFn) (sz N : Nat) (A : Asm) (ops : Array Oper) (i : Nat) (o : Oper) (s s' : DS) : IV → Prop
  | skip (hw : wantedD s.tm ops o = some false) (hp : putD s.tm sz o.dst undefIV = some s'.tm) (hg : s'.g = s.g) (hpe : s'.pend = s.pend) (hx : s'.xs = s.xs) (hl : s'.ls = s.ls) : StepFact P call sz N A ops i o s s' undefIV
  | p (hw : wantedD s.tm ops o = some true) (hc : cls P o.op = .p) (v : IV) (g : H) (hv : valD P s.tm ⟨0, .nil, A⟩ o.op = some (v, g)) (hp : putD s.tm sz o.dst v = some s'.tm) (hg : s'.g = s.g) (hpe : s'.pend = s.pend) (hx : s'.xs = s.xs) (hl : s'.ls = s.ls) : StepFact P call sz N A ops i o s s' v
  | l (hw : wantedD s.tm ops o = some true) (hc : cls P o.op = .l) (v : IV) (g : H) (hv : valD P s.tm s.g o.op = some (v, g)) (hp : putD s.tm sz o.dst v = some s'.tm) (hg : s'.g = s.g) (hpe : s'.pend = s.pend) (hx : s'.xs = s.xs)
      (hl : s'.ls = ⟨i, maskL s.acc o.after.toList, s.tm, o.op, v⟩ :: s.ls) : StepFact P call sz N A ops i o s s' v
  | a (hw : wantedD s.tm ops o = some true) (hc : cls P o.op = .a) (v : IV) (g : H) (b : Blk) (hv : valD P s.tm ⟨N + i, .nil, A⟩ o.op = some (v, g)) (hb : g.m.get (N + i) = some b) (hp : putD s.tm sz o.dst v = some s'.tm) (hg : s'.g = s.g) (hpe : s'.pend = (i, b) :: s.pend) (hx : s'.xs = s.xs) (hl : s'.ls = s.ls) : StepFact P call sz N A ops i o s s' v
  | x (hw : wantedD s.tm ops o = some true) (hc : cls P o.op = .x) (v : IV) (hb : xsBefore (maskL s.acc o.after.toList) s.xs = true) (hv : actD P call s.tm (matH N (maskL s.acc o.after.toList) s.pend s.g) o.op = some (v, s'.g)) (hp : putD s.tm sz o.dst v = some s'.tm)
      (hpe : s'.pend = restP (maskL s.acc o.after.toList) s.pend) (hx : s'.xs = ⟨i, maskL s.acc o.after.toList, s'.g⟩ :: s.xs) (hl : s'.ls = s.ls) : StepFact P call sz N A ops i o s s' v
section
variable {P : Program} {call : CallFn} {sz N : Nat} {A : Asm} {ops : Array Oper}

theorem drawStep_some {i : Nat} {o : Oper} {s s' : DS} (hd : drawStep P call sz N A ops i o s = some s') : s'.acc = s.acc.put i (maskL s.acc o.after.toList) ∧ ∃ v, StepFact P call sz N A ops i o s s' v := by
  obtain ⟨b, h1, h2⟩ := ob_some hd
  cases b with
  | false =>
    obtain ⟨tm, h3, h4⟩ := ob_some h2
    cases h4
    exact ⟨rfl, _, .skip h1 h3 rfl rfl rfl rfl⟩
  | true =>
    have h2' : @Cls.rec (fun _ => Option DS)
      (ob (valD P s.tm ⟨0, .nil, A⟩ o.op) fun r => ob (putD s.tm sz o.dst r.1) fun tm => some ⟨tm, s.g, s.acc.put i (maskL s.acc o.after.toList), s.pend, s.xs, s.ls⟩)
      (ob (valD P s.tm s.g o.op) fun r => ob (putD s.tm sz o.dst r.1) fun tm =>
        some ⟨tm, s.g, s.acc.put i (maskL s.acc o.after.toList), s.pend, s.xs, ⟨i, maskL s.acc o.after.toList, s.tm, o.op, r.1⟩ :: s.ls⟩)
      (ob (valD P s.tm ⟨N + i, .nil, A⟩ o.op) fun r => ob (r.2.m.get (N + i)) fun b => ob (putD s.tm sz o.dst r.1) fun tm =>
        some ⟨tm, s.g, s.acc.put i (maskL s.acc o.after.toList), (i, b) :: s.pend, s.xs, s.ls⟩)
      (@Bool.rec (fun _ => Option DS) none
        (ob (actD P call s.tm (matH N (maskL s.acc o.after.toList) s.pend s.g) o.op) fun r => ob (putD s.tm sz o.dst r.1) fun tm =>
          some ⟨tm, r.2, s.acc.put i (maskL s.acc o.after.toList), restP (maskL s.acc o.after.toList) s.pend, ⟨i, maskL s.acc o.after.toList, r.2⟩ :: s.xs, s.ls⟩)
        (xsBefore (maskL s.acc o.after.toList) s.xs)) (cls P o.op) = some s' := h2
    cases hc : cls P o.op with
    | p =>
      rw [hc] at h2'
      obtain ⟨⟨v, g⟩, h3, h4⟩ := ob_some h2'
      obtain ⟨tm, h5, h6⟩ := ob_some h4
      cases h6
      exact ⟨rfl, _, .p h1 hc v g h3 h5 rfl rfl rfl rfl⟩
    | l =>
      rw [hc] at h2'
      obtain ⟨⟨v, g⟩, h3, h4⟩ := ob_some h2'
      obtain ⟨tm, h5, h6⟩ := ob_some h4
      cases h6
      exact ⟨rfl, _, .l h1 hc v g h3 h5 rfl rfl rfl rfl⟩
    | a =>
      rw [hc] at h2'
      obtain ⟨⟨v, g⟩, h3, h4⟩ := ob_some h2'
      obtain ⟨b, h7, h8⟩ := ob_some h4
      obtain ⟨tm, h5, h6⟩ := ob_some h8
      cases h6
      exact ⟨rfl, _, .a h1 hc v g b h3 h7 h5 rfl rfl rfl rfl⟩
    | x =>
      rw [hc] at h2'
      cases hb : xsBefore (maskL s.acc o.after.toList) s.xs with
      | false => rw [hb] at h2'; cases h2'
      | true =>
        rw [hb] at h2'
        obtain ⟨⟨v, g⟩, h3, h4⟩ := ob_some h2'
        obtain ⟨tm, h5, h6⟩ := ob_some h4
        cases h6
        exact ⟨rfl, _, .x h1 hc v hb h3 h5 rfl rfl rfl⟩
theorem drawList_states : ∀ (l : List Oper) (i : Nat) (s s' : DS), drawList P call sz N A ops l i s = some s' →
    ∃ S : Nat → DS, S i = s ∧ S (i + l.length) = s' ∧ ∀ k o, l[k]? = some o → drawStep P call sz N A ops (i + k) o (S (i + k)) = some (S (i + k + 1))
  | [], i, s, s', hd => by cases hd; exact ⟨fun _ => s, rfl, rfl, by simp⟩
  | o :: l, i, s, s', hd => by
    obtain ⟨s1, h1, h2⟩ := ob_some (show ob (drawStep P call sz N A ops i o s) (fun s => drawList P call sz N A ops l (i + 1) s) = some s' from hd)
    obtain ⟨S, h3, h4, h5⟩ := drawList_states l (i + 1) s1 s' h2
    refine ⟨fun j => if j = i then s else S j, by simp, ?_, ?_⟩
    · have : i + (o :: l).length ≠ i := by simp
      simp only [if_neg this]
      rw [← h4]; congr 1; simp; omega
    · intro k o' hk
      cases k with
      | zero =>
        simp at hk; subst hk
        have : i + 0 + 1 ≠ i := by omega
        simp only [Nat.add_zero, if_true]
        rw [if_neg (by omega), h3]
        exact h1
      | succ k =>
        have := h5 k o' (by simpa using hk)
        have e1 : i + (k + 1) ≠ i := by omega
        have e2 : i + (k + 1) + 1 ≠ i := by omega
        simp only [if_neg e1, if_neg e2]
        rw [show i + (k + 1) = i + 1 + k by omega]
        exact this
theorem restP_mem {m : Nat} : ∀ {l : List (Nat × Blk)} {p : Nat × Blk}, p ∈ restP m l ↔ p ∈ l ∧ bit m p.1 = false
  | [], p => by
    have : restP m [] = [] := rfl
    rw [this]; simp
  | q :: l, p => by
    have h1 : restP m (q :: l) = @Bool.rec (fun _ => List (Nat × Blk)) (q :: restP m l) (restP m l) (bit m q.1) := rfl
    rw [h1]
    cases hb : bit m q.1 with
    | true =>
      show p ∈ restP m l ↔ _
      rw [restP_mem]
      constructor
      · rintro ⟨h2, h3⟩; exact ⟨by simp [h2], h3⟩
      · rintro ⟨h2, h3⟩
        rcases List.mem_cons.1 h2 with rfl | h2
        · rw [hb] at h3; cases h3
        · exact ⟨h2, h3⟩
    | false =>
      show p ∈ q :: restP m l ↔ _
      rw [List.mem_cons, restP_mem, List.mem_cons]
      constructor
      · rintro (rfl | ⟨h2, h3⟩)
        · exact ⟨.inl rfl, hb⟩
        · exact ⟨.inr h2, h3⟩
      · rintro ⟨rfl | h2, h3⟩
        · exact .inl rfl
        · exact .inr ⟨h2, h3⟩
theorem matH_next {N m : Nat} {g : H} : ∀ (l : List (Nat × Blk)), (matH N m l g).next = g.next
  | [] => rfl
  | q :: l => by
    have h1 : matH N m (q :: l) g = @Bool.rec (fun _ => H) (matH N m l g) ((matH N m l g).put (N + q.1) q.2) (bit m q.1) := rfl
    rw [h1]
    cases bit m q.1 with
    | true => exact matH_next l
    | false => exact matH_next l
theorem matH_asm {N m : Nat} {g : H} : ∀ (l : List (Nat × Blk)), (matH N m l g).asm = g.asm
  | [] => rfl
  | q :: l => by
    have h1 : matH N m (q :: l) g = @Bool.rec (fun _ => H) (matH N m l g) ((matH N m l g).put (N + q.1) q.2) (bit m q.1) := rfl
    rw [h1]
    cases bit m q.1 with
    | true => exact matH_asm l
    | false => exact matH_asm l
theorem allH_asm {N : Nat} {g : H} : ∀ (l : List (Nat × Blk)), (allH N l g).asm = g.asm
  | [] => rfl
  | q :: l => allH_asm l
theorem matH_get {N m : Nat} {g : H} : ∀ (l : List (Nat × Blk)), (∀ p q, p ∈ l → q ∈ l → p.1 = q.1 → p = q) →
    (∀ p ∈ l, bit m p.1 = true → (matH N m l g).m.get (N + p.1) = some p.2) ∧ ∀ id, (∀ p ∈ l, bit m p.1 = true → id ≠ N + p.1) → (matH N m l g).m.get id = g.m.get id
  | [], _ => ⟨by simp, fun id _ => rfl⟩
  | q :: l, hu => by
    obtain ⟨ih1, ih2⟩ := matH_get (g := g) (N := N) (m := m) l (fun p q hp hq => hu p q (by simp [hp]) (by simp [hq]))
    have h1 : matH N m (q :: l) g = @Bool.rec (fun _ => H) (matH N m l g) ((matH N m l g).put (N + q.1) q.2) (bit m q.1) := rfl
    rw [h1]
    cases hb : bit m q.1 with
    | false =>
      refine ⟨fun p hp hbp => ?_, fun id hid => ih2 id (fun p hp => hid p (by simp [hp]))⟩
      rcases List.mem_cons.1 hp with rfl | hp
      · rw [hb] at hbp; cases hbp
      · exact ih1 p hp hbp
    | true =>
      have hput : ∀ id, ((matH N m l g).put (N + q.1) q.2).m.get id = if id = N + q.1 then some q.2 else (matH N m l g).m.get id := fun id => get_put _ _ _ _
      refine ⟨fun p hp hbp => ?_, fun id hid => ?_⟩
      · show ((matH N m l g).put (N + q.1) q.2).m.get (N + p.1) = _
        rw [hput]
        by_cases he : N + p.1 = N + q.1
        · rw [if_pos he]
          have := hu p q hp (by simp) (by omega)
          rw [this]
        · rw [if_neg he]
          rcases List.mem_cons.1 hp with rfl | hp
          · exact absurd rfl he
          · exact ih1 p hp hbp
      · show ((matH N m l g).put (N + q.1) q.2).m.get id = _
        rw [hput, if_neg (hid q (by simp) hb)]
        exact ih2 id (fun p hp => hid p (by simp [hp]))
theorem allH_next {N : Nat} {g : H} : ∀ (l : List (Nat × Blk)), (allH N l g).next = g.next
  | [] => rfl
  | q :: l => allH_next l
theorem allH_get {N : Nat} {g : H} : ∀ (l : List (Nat × Blk)), (∀ p q, p ∈ l → q ∈ l → p.1 = q.1 → p = q) →
    (∀ p ∈ l, (allH N l g).m.get (N + p.1) = some p.2) ∧ ∀ id, (∀ p ∈ l, id ≠ N + p.1) → (allH N l g).m.get id = g.m.get id
  | [], _ => ⟨by simp, fun id _ => rfl⟩
  | q :: l, hu => by
    obtain ⟨ih1, ih2⟩ := allH_get (g := g) (N := N) l (fun p q hp hq => hu p q (by simp [hp]) (by simp [hq]))
    have hput : ∀ id, (allH N (q :: l) g).m.get id = if id = N + q.1 then some q.2 else (allH N l g).m.get id := fun id => get_put _ _ _ _
    refine ⟨fun p hp => ?_, fun id hid => ?_⟩
    · rw [hput]
      by_cases he : N + p.1 = N + q.1
      · rw [if_pos he]
        have := hu p q hp (by simp) (by omega)
        rw [this]
      · rw [if_neg he]
        rcases List.mem_cons.1 hp with rfl | hp
        · exact absurd rfl he
        · exact ih1 p hp
    · rw [hput, if_neg (hid q (by simp))]
      exact ih2 id (fun p hp => hid p (by simp [hp]))
theorem xsBefore_mem {m : Nat} : ∀ {l : List XR}, xsBefore m l = true → ∀ x ∈ l, bit m x.i = true
  | [], _, x, hx => by cases hx
  | y :: l, hb, x, hx => by
    have h1 : @Bool.rec (fun _ => Bool) false (xsBefore m l) (bit m y.i) = true := hb
    cases hy : bit m y.i with
    | false => rw [hy] at h1; cases h1
    | true =>
      rw [hy] at h1
      rcases List.mem_cons.1 hx with rfl | hx
      · exact hy
      · exact xsBefore_mem h1 x hx
theorem mayStand_true {r : LR} {c : Nat} : ∀ {l : List XR}, (∀ y ∈ l, (y.i < c → bit y.m r.i = false) ∧ (¬ y.i < c → bit r.m y.i = false)) → mayStand l r c = true
  | [], _ => rfl
  | y :: l, hy => by
    have h1 : mayStand (y :: l) r c = @Bool.rec (fun _ => Bool) (@Bool.rec (fun _ => Bool) (mayStand l r c) false (bit r.m y.i)) (@Bool.rec (fun _ => Bool) (mayStand l r c) false (bit y.m r.i)) (Nat.blt y.i c) := rfl
    have ih := mayStand_true (r := r) (c := c) (l := l) (fun z hz => hy z (by simp [hz]))
    obtain ⟨q1, q2⟩ := hy y (by simp)
    rw [h1]
    cases hb : Nat.blt y.i c with
    | true => rw [q1 (Nat.blt_eq.mp hb)]; exact ih
    | false => rw [q2 (fun hlt => by rw [Nat.blt_eq.mpr hlt] at hb; cases hb)]; exact ih
theorem readsSame_some {xs : List XR} {r : LR} {c : Nat} {g : H} (hr : readsSame P xs r c g = true) (hm : mayStand xs r c = true) : ∃ g', valD P r.tm g r.op = some (r.v, g') := by
  have h1 : @Bool.rec (fun _ => Bool) true (@Option.rec (IV × H) (fun _ => Bool) false (fun x => eqIV r.v x.1) (valD P r.tm g r.op)) (mayStand xs r c) = true := hr
  rw [hm] at h1
  cases hv : valD P r.tm g r.op with
  | none => rw [hv] at h1; cases h1
  | some x =>
    rw [hv] at h1
    have := eqIV_eq _ _ h1
    exact ⟨x.2, by rw [this]⟩
theorem allStages_mem {xs0 : List XR} {r : LR} : ∀ {l : List XR}, allStages P xs0 r l = true → ∀ x ∈ l, readsSame P xs0 r (x.i + 1) x.g = true
  | [], _, x, hx => by cases hx
  | y :: l, hb, x, hx => by
    have h1 : @Bool.rec (fun _ => Bool) false (allStages P xs0 r l) (readsSame P xs0 r (y.i + 1) y.g) = true := hb
    cases hy : readsSame P xs0 r (y.i + 1) y.g with
    | false => rw [hy] at h1; cases h1
    | true =>
      rw [hy] at h1
      rcases List.mem_cons.1 hx with rfl | hx
      · exact hy
      · exact allStages_mem h1 x hx
theorem allReads_mem {xs : List XR} {g0 : H} : ∀ {l : List LR}, allReads P xs g0 l = true → ∀ r ∈ l, readsSame P xs r 0 g0 = true ∧ ∀ x ∈ xs, readsSame P xs r (x.i + 1) x.g = true
  | [], _, r, hr => by cases hr
  | y :: l, hb, r, hr => by
    have h1 : @Bool.rec (fun _ => Bool) false (@Bool.rec (fun _ => Bool) false (allReads P xs g0 l) (allStages P xs y xs)) (readsSame P xs y 0 g0) = true := hb
    cases h2 : readsSame P xs y 0 g0 with
    | false => rw [h2] at h1; cases h1
    | true =>
      cases h3 : allStages P xs y xs with
      | false => rw [h2, h3] at h1; cases h1
      | true =>
        rw [h2, h3] at h1
        rcases List.mem_cons.1 hr with rfl | hr
        · exact ⟨h2, allStages_mem h3⟩
        · exact allReads_mem h1 r hr
end
end Go.Den
