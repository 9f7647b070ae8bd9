import Derived.Test.YtcncmfefcbdnoaaDoorXaD19
set_option linter.unusedVariables false
set_option linter.unusedSimpArgs false
namespace Go.Den
/-- What is asked of a region whose order is drawn, once and for all. -/
structure DrawnOK (ops : Array Oper) : Prop where
  edges : ∀ (j : Nat) (o : Oper), ops.toList[j]? = some o → ∀ e ∈ o.after, Region.binds .any e = true → e.on < j
  apart : ∀ (i j : Nat) (oi oj : Oper), i < j → ops.toList[i]? = some oi → ops.toList[j]? = some oj → bit (msk ops.toList j) i = true ∨ oi.apart ops oj = true

section
variable (P : Program) (call : CallFn) (sz N : Nat) (A : Asm) (ops : Array Oper) (S : Nat → DS)
def IsX (i : Nat) : Prop := ∃ o, ops.toList[i]? = some o ∧ wantedD (S i).tm ops o = some true ∧ cls P o.op = .x
def IsA (i : Nat) (b : Blk) : Prop := ∃ o v g, ops.toList[i]? = some o ∧ wantedD (S i).tm ops o = some true ∧ cls P o.op = .a ∧ valD P (S i).tm ⟨N + i, .nil, A⟩ o.op = some (v, g) ∧ g.m.get (N + i) = some b
/-- The last of D that writes t wrote v (or nobody did, and v was there). -/
def Has (val : Nat → IV) (tm0 : Tm) (D : Nat → Prop) (t : Nat) (v : IV) : Prop :=
  (∃ i o, ops.toList[i]? = some o ∧ D i ∧ o.dst = some t ∧ v = val i ∧ ∀ j o', ops.toList[j]? = some o' → D j → o'.dst = some t → j ≤ i) ∨
  ((∀ j o', ops.toList[j]? = some o' → D j → o'.dst ≠ some t) ∧ tm0.get t = some v)
structure TextRun (val : Nat → IV) (tm0 : Tm) (g0 : H) : Prop where
  start : S 0 = ⟨tm0, g0, .nil, [], [], []⟩
  acc : ∀ i o, ops.toList[i]? = some o → (S (i + 1)).acc = (S i).acc.put i (maskL (S i).acc o.after.toList)
  fact : ∀ i o, ops.toList[i]? = some o → StepFact P call sz N A ops i o (S i) (S (i + 1)) (val i)
end
section
variable {P : Program} {call : CallFn} {sz N : Nat} {A : Asm} {ops : Array Oper} {S : Nat → DS} {val : Nat → IV} {tm0 : Tm} {g0 : H}

theorem TextRun.masks (R : TextRun P call sz N A ops S val tm0 g0) : ∀ i, i ≤ ops.toList.length → (S i).acc = accN ops.toList i
  | 0, _ => by rw [R.start]; rfl
  | i + 1, hi => by
    have hL : ops.toList[i]? = some ops.toList[i] := List.getElem?_eq_getElem (by omega)
    rw [R.acc i _ hL, R.masks i (by omega)]
    simp only [accN, hL]
theorem TextRun.mask (R : TextRun P call sz N A ops S val tm0 g0) {i : Nat} {o : Oper} (hL : ops.toList[i]? = some o) : maskL (S i).acc o.after.toList = msk ops.toList i := by
  have hi := (List.getElem?_eq_some_iff.1 hL).1
  rw [R.masks i (by omega)]
  simp only [msk, hL]
theorem mask_lt (hO : DrawnOK ops) {i j : Nat} (hb : bit (msk ops.toList j) i = true) : i < j :=
  mask_closed (L := ops.toList) (D := fun k => k < j) (fun k o hk hkj e he hbd => by have := hO.edges k o hk e he hbd; omega) (j + 1) j (by omega) (fun o ho e he hbd => hO.edges j o ho e he hbd) i hb
theorem IsX.lt {i : Nat} (h : IsX P ops S i) : i < ops.toList.length := by obtain ⟨o, h1, _⟩ := h; exact (List.getElem?_eq_some_iff.1 h1).1
theorem IsA.lt {i : Nat} {b : Blk} (h : IsA P N A ops S i b) : i < ops.toList.length := by obtain ⟨o, v, g, h1, _⟩ := h; exact (List.getElem?_eq_some_iff.1 h1).1
theorem IsA.not_X {i : Nat} {b : Blk} (h : IsA P N A ops S i b) : ¬ IsX P ops S i := by
  obtain ⟨o, v, g, h1, h2, h3, _⟩ := h
  rintro ⟨o', h4, h5, h6⟩
  rw [h1] at h4; cases h4
  rw [h3] at h6; cases h6
theorem IsA.fn {i : Nat} {b b' : Blk} (h : IsA P N A ops S i b) (h' : IsA P N A ops S i b') : b = b' := by
  obtain ⟨o, v, g, h1, h2, h3, h4, h5⟩ := h
  obtain ⟨o', v', g', h1', h2', h3', h4', h5'⟩ := h'
  rw [h1] at h1'; cases h1'
  rw [h4] at h4'; cases h4'
  rw [h5] at h5'; cases h5'; rfl
theorem TextRun.xs (R : TextRun P call sz N A ops S val tm0 g0) : ∀ i, i ≤ ops.toList.length → ∀ x, x ∈ (S i).xs ↔ ∃ j, j < i ∧ IsX P ops S j ∧ x = ⟨j, msk ops.toList j, (S (j + 1)).g⟩
  | 0, _, x => by rw [R.start]; simp
  | i + 1, hi, x => by
    have hL : ops.toList[i]? = some ops.toList[i] := List.getElem?_eq_getElem (by omega)
    have ih := R.xs i (by omega) x
    have same : (S (i + 1)).xs = (S i).xs → ¬ IsX P ops S i → (x ∈ (S (i + 1)).xs ↔ ∃ j, j < i + 1 ∧ IsX P ops S j ∧ x = ⟨j, msk ops.toList j, (S (j + 1)).g⟩) := by
      intro he hn
      rw [he, ih]
      constructor
      · rintro ⟨j, h1, h2⟩; exact ⟨j, by omega, h2⟩
      · rintro ⟨j, h1, h2, h3⟩
        refine ⟨j, ?_, h2, h3⟩
        rcases Nat.lt_or_ge j i with h | h
        · exact h
        · have : j = i := by omega
          subst this; exact absurd h2 hn
    have hfct := R.fact i _ hL
    generalize val i = vvv at hfct
    cases hfct with
    | skip hw hp hg hpe hx hl => exact same hx (fun ⟨o, h1, h2, h3⟩ => by rw [hL] at h1; cases h1; rw [hw] at h2; cases h2)
    | p hw hc v g hv hp hg hpe hx hl => exact same hx (fun ⟨o, h1, h2, h3⟩ => by rw [hL] at h1; cases h1; rw [hc] at h3; cases h3)
    | l hw hc v g hv hp hg hpe hx hl => exact same hx (fun ⟨o, h1, h2, h3⟩ => by rw [hL] at h1; cases h1; rw [hc] at h3; cases h3)
    | a hw hc v g b hv hb hp hg hpe hx hl => exact same hx (fun ⟨o, h1, h2, h3⟩ => by rw [hL] at h1; cases h1; rw [hc] at h3; cases h3)
    | x hw hc v hb hv hp hpe hx hl =>
      rw [hx, List.mem_cons, ih, R.mask hL]
      constructor
      · rintro (rfl | ⟨j, h1, h2⟩)
        · exact ⟨i, by omega, ⟨_, hL, hw, hc⟩, rfl⟩
        · exact ⟨j, by omega, h2⟩
      · rintro ⟨j, h1, h2, h3⟩
        rcases Nat.lt_or_ge j i with h | h
        · exact .inr ⟨j, h, h2, h3⟩
        · have : j = i := by omega
          subst this; exact .inl h3
/-- Of two acts the earlier is before the later. -/
theorem TextRun.order (R : TextRun P call sz N A ops S val tm0 g0) {x y : Nat} (hx : IsX P ops S x) (hy : IsX P ops S y) (hlt : x < y) : bit (msk ops.toList y) x = true := by
  have hy' := hy
  obtain ⟨o, hL, hw, hc⟩ := hy
  have hmem := (R.xs y (by have := hy'.lt; omega) ⟨x, msk ops.toList x, (S (x + 1)).g⟩).2 ⟨x, hlt, hx, rfl⟩
  have hfct := R.fact y o hL
  generalize val y = vvv at hfct
  cases hfct with
  | skip hw' => rw [hw] at hw'; cases hw'
  | p hw' hc' => rw [hc] at hc'; cases hc'
  | l hw' hc' => rw [hc] at hc'; cases hc'
  | a hw' hc' => rw [hc] at hc'; cases hc'
  | x hw' hc' v hb hv =>
    rw [R.mask hL] at hb
    exact xsBefore_mem hb _ hmem
theorem TextRun.pend (R : TextRun P call sz N A ops S val tm0 g0) (hO : DrawnOK ops) : ∀ i, i ≤ ops.toList.length → ∀ j b, (j, b) ∈ (S i).pend ↔ j < i ∧ IsA P N A ops S j b ∧ ∀ y, y < i → IsX P ops S y → bit (msk ops.toList y) j = false
  | 0, _, j, b => by rw [R.start]; simp
  | i + 1, hi, j, b => by
    have hL : ops.toList[i]? = some ops.toList[i] := List.getElem?_eq_getElem (by omega)
    have ih := R.pend hO i (by omega) j b
    have same : (S (i + 1)).pend = (S i).pend → ¬ IsX P ops S i → (∀ b, ¬ IsA P N A ops S i b) → ((j, b) ∈ (S (i + 1)).pend ↔ j < i + 1 ∧ IsA P N A ops S j b ∧ ∀ y, y < i + 1 → IsX P ops S y → bit (msk ops.toList y) j = false) := by
      intro he hn hna
      rw [he, ih]
      constructor
      · rintro ⟨h1, h2, h3⟩
        refine ⟨by omega, h2, fun y hy hX => ?_⟩
        rcases Nat.lt_or_ge y i with h | h
        · exact h3 y h hX
        · have : y = i := by omega
          subst this; exact absurd hX hn
      · rintro ⟨h1, h2, h3⟩
        refine ⟨?_, h2, fun y hy hX => h3 y (by omega) hX⟩
        rcases Nat.lt_or_ge j i with h | h
        · exact h
        · have : j = i := by omega
          subst this; exact absurd h2 (hna b)
    have hfct := R.fact i _ hL
    generalize val i = vvv at hfct
    cases hfct with
    | skip hw hp hg hpe hx hl => exact same hpe (fun ⟨o, h1, h2, h3⟩ => by rw [hL] at h1; cases h1; rw [hw] at h2; cases h2) (fun b ⟨o, v, g, h1, h2, h3⟩ => by rw [hL] at h1; cases h1; rw [hw] at h2; cases h2)
    | p hw hc v g hv hp hg hpe hx hl => exact same hpe (fun ⟨o, h1, h2, h3⟩ => by rw [hL] at h1; cases h1; rw [hc] at h3; cases h3) (fun b ⟨o, v, g, h1, h2, h3, _⟩ => by rw [hL] at h1; cases h1; rw [hc] at h3; cases h3)
    | l hw hc v g hv hp hg hpe hx hl => exact same hpe (fun ⟨o, h1, h2, h3⟩ => by rw [hL] at h1; cases h1; rw [hc] at h3; cases h3) (fun b ⟨o, v, g, h1, h2, h3, _⟩ => by rw [hL] at h1; cases h1; rw [hc] at h3; cases h3)
    | a hw hc v g b' hv hb hp hg hpe hx hl =>
      have hA : IsA P N A ops S i b' := ⟨_, _, _, hL, hw, hc, hv, hb⟩
      rw [hpe, List.mem_cons, ih]
      constructor
      · rintro (h | ⟨h1, h2, h3⟩)
        · simp only [Prod.mk.injEq] at h
          obtain ⟨rfl, rfl⟩ := h
          refine ⟨by omega, hA, fun y hy hX => ?_⟩
          cases hbt : bit (msk ops.toList y) j with
          | false => rfl
          | true =>
            have := mask_lt hO hbt
            omega
        · refine ⟨by omega, h2, fun y hy hX => ?_⟩
          rcases Nat.lt_or_ge y i with h | h
          · exact h3 y h hX
          · have : y = i := by omega
            subst this; exact absurd hX hA.not_X
      · rintro ⟨h1, h2, h3⟩
        rcases Nat.lt_or_ge j i with h | h
        · exact .inr ⟨h, h2, fun y hy hX => h3 y (by omega) hX⟩
        · have : j = i := by omega
          subst this
          exact .inl (by rw [h2.fn hA])
    | x hw hc v hb hv hp hpe hx hl =>
      rw [hpe, restP_mem, ih, R.mask hL]
      constructor
      · rintro ⟨⟨h1, h2, h3⟩, h4⟩
        refine ⟨by omega, h2, fun y hy hX => ?_⟩
        rcases Nat.lt_or_ge y i with h | h
        · exact h3 y h hX
        · have : y = i := by omega
          subst this; exact h4
      · rintro ⟨h1, h2, h3⟩
        have hX : IsX P ops S i := ⟨_, hL, hw, hc⟩
        refine ⟨⟨?_, h2, fun y hy hX => h3 y (by omega) hX⟩, h3 i (by omega) hX⟩
        rcases Nat.lt_or_ge j i with h | h
        · exact h
        · have : j = i := by omega
          subst this; exact absurd hX h2.not_X
theorem TextRun.reads (R : TextRun P call sz N A ops S val tm0 g0) : ∀ i, i ≤ ops.toList.length → ∀ j o, j < i → ops.toList[j]? = some o → wantedD (S j).tm ops o = some true → cls P o.op = .l → ⟨j, msk ops.toList j, (S j).tm, o.op, val j⟩ ∈ (S i).ls
  | 0, _, j, o, hj, _, _, _ => by omega
  | i + 1, hi, j, o, hj, hLj, hwj, hcj => by
    have hL : ops.toList[i]? = some ops.toList[i] := List.getElem?_eq_getElem (by omega)
    have ih := R.reads i (by omega) j o
    have hsub : (∀ x ∈ (S i).ls, x ∈ (S (i + 1)).ls) → j < i → ⟨j, msk ops.toList j, (S j).tm, o.op, val j⟩ ∈ (S (i + 1)).ls := fun hs hji => hs _ (ih hji hLj hwj hcj)
    have hf := R.fact i _ hL
    rcases Nat.lt_or_ge j i with h | h
    · refine hsub (fun x hx => ?_) h
      generalize val i = vvv at hf
      cases hf with
      | skip hw hp hg hpe hxx hl => rw [hl]; exact hx
      | p hw hc v g hv hp hg hpe hxx hl => rw [hl]; exact hx
      | l hw hc v g hv hp hg hpe hxx hl => rw [hl]; exact List.mem_cons_of_mem _ hx
      | a hw hc v g b hv hb hp hg hpe hxx hl => rw [hl]; exact hx
      | x hw hc v hb hv hp hpe hxx hl => rw [hl]; exact hx
    · have : j = i := by omega
      subst this
      rw [hL] at hLj; cases hLj
      generalize hvv : val j = vv at hf
      cases hf with
      | skip hw => rw [hw] at hwj; cases hwj
      | p hw hc => rw [hc] at hcj; cases hcj
      | l hw hc v g hv hp hg hpe hxx hl => rw [hl, R.mask hL]; exact List.mem_cons_self
      | a hw hc => rw [hc] at hcj; cases hcj
      | x hw hc => rw [hc] at hcj; cases hcj
/-- Where nobody acts memory stands. -/
theorem TextRun.still (R : TextRun P call sz N A ops S val tm0 g0) {i j : Nat} (hij : i ≤ j) (hj : j ≤ ops.toList.length) (hno : ∀ x, i ≤ x → x < j → ¬ IsX P ops S x) : (S j).g = (S i).g := by
  induction j with
  | zero => have : i = 0 := by omega
            rw [this]
  | succ j ih =>
    rcases Nat.lt_or_ge j i with h | h
    · have : i = j + 1 := by omega
      rw [this]
    · have hL : ops.toList[j]? = some ops.toList[j] := List.getElem?_eq_getElem (by omega)
      rw [← ih h (by omega) (fun x h1 h2 => hno x h1 (by omega))]
      have hfct := R.fact j _ hL
      generalize val j = vvv at hfct
      cases hfct with
      | skip hw hp hg => exact hg
      | p hw hc v g hv hp hg => exact hg
      | l hw hc v g hv hp hg => exact hg
      | a hw hc v g b hv hb hp hg => exact hg
      | x hw hc => exact absurd ⟨_, hL, hw, hc⟩ (hno j h (by omega))
theorem StepFact.puts {i : Nat} {o : Oper} {s s' : DS} {v : IV} (hf : StepFact P call sz N A ops i o s s' v) : putD s.tm sz o.dst v = some s'.tm := by
  cases hf <;> assumption
theorem putD_get {tm tm' : Tm} {d : Option Tmp} {v : IV} (hp : putD tm sz d v = some tm') (t : Nat) : tm'.get t = if d = some t then some v else tm.get t := by
  cases d with
  | none => cases hp; rfl
  | some x =>
    have hp' : @Bool.rec (fun _ => Option Tm) none (some (tm.put x v)) (Nat.blt x sz) = some tm' := hp
    cases hb : Nat.blt x sz with
    | false => rw [hb] at hp'; cases hp'
    | true =>
      rw [hb] at hp'
      cases hp'
      rw [get_put]
      by_cases h : t = x
      · subst h; simp
      · rw [if_neg h, if_neg (by simp; exact fun he => h he.symm)]
theorem TextRun.has (R : TextRun P call sz N A ops S val tm0 g0) : ∀ i, i ≤ ops.toList.length → ∀ t v, (S i).tm.get t = some v → Has ops val tm0 (fun j => j < i) t v
  | 0, _, t, v, h => by rw [R.start] at h; exact .inr ⟨fun j o' _ hj => by omega, h⟩
  | i + 1, hi, t, v, h => by
    have hL : ops.toList[i]? = some ops.toList[i] := List.getElem?_eq_getElem (by omega)
    rw [putD_get (R.fact i _ hL).puts t] at h
    by_cases hd : (ops.toList[i]).dst = some t
    · rw [if_pos hd] at h
      cases h
      exact .inl ⟨i, _, hL, by omega, hd, rfl, fun j o' _ hj _ => by omega⟩
    · rw [if_neg hd] at h
      rcases R.has i (by omega) t v h with ⟨k, o, h1, h2, h3, h4, h5⟩ | ⟨h1, h2⟩
      · refine .inl ⟨k, o, h1, by omega, h3, h4, fun j o' hj hji hjd => ?_⟩
        rcases Nat.lt_or_ge j i with hh | hh
        · exact h5 j o' hj hh hjd
        · have : j = i := by omega
          subst this
          rw [hL] at hj; cases hj
          exact absurd hjd hd
      · refine .inr ⟨fun j o' hj hji hjd => ?_, h2⟩
        rcases Nat.lt_or_ge j i with hh | hh
        · exact h1 j o' hj hh hjd
        · have : j = i := by omega
          subst this
          rw [hL] at hj; cases hj
          exact hd hjd
/-- the temporaries that an operation looks at -/
noncomputable def restT (tm : Tm) : List Operand → Tm
  | [] => .nil
  | .tmp t :: l => match tm.get t with
    | some v => (restT tm l).put t v
    | none => restT tm l
  | _ :: l => restT tm l
theorem restT_some {tm : Tm} : ∀ {l : List Operand} {t : Nat} {v : IV}, (restT tm l).get t = some v → Operand.tmp t ∈ l ∧ tm.get t = some v
  | [], t, v, h => by simp only [restT] at h; rw [get_nil] at h; cases h
  | .tmp x :: l, t, v, h => by
    simp only [restT] at h
    split at h
    · rename_i u hu
      rw [get_put] at h
      by_cases he : t = x
      · subst he; rw [if_pos rfl] at h; cases h; exact ⟨by simp, hu⟩
      · rw [if_neg he] at h
        have := restT_some h
        exact ⟨by simp [this.1], this.2⟩
    · have := restT_some h
      exact ⟨by simp [this.1], this.2⟩
  | .const x :: l, t, v, h => by have := restT_some (l := l) h; exact ⟨by simp [this.1], this.2⟩
  | .global x :: l, t, v, h => by have := restT_some (l := l) h; exact ⟨by simp [this.1], this.2⟩
  | .func x :: l, t, v, h => by have := restT_some (l := l) h; exact ⟨by simp [this.1], this.2⟩
theorem restT_get {tm : Tm} : ∀ {l : List Operand} {t : Nat}, Operand.tmp t ∈ l → (restT tm l).get t = tm.get t
  | [], t, h => by cases h
  | .tmp x :: l, t, h => by
    simp only [restT]
    by_cases he : t = x
    · subst he
      split
      · rename_i u hu; rw [get_put, if_pos rfl, hu]
      · rename_i hu
        rw [hu]
        cases hr : (restT tm l).get t with
        | none => rfl
        | some v => have := (restT_some hr).2; rw [hu] at this; cases this
    · have hm : Operand.tmp t ∈ l := by
        rcases List.mem_cons.1 h with h | h
        · cases h; exact absurd rfl he
        · exact h
      split
      · rw [get_put, if_neg he]; exact restT_get hm
      · exact restT_get hm
  | .const x :: l, t, h => by
    have hm : Operand.tmp t ∈ l := by rcases List.mem_cons.1 h with h | h; cases h; exact h
    exact restT_get (l := l) hm
  | .global x :: l, t, h => by
    have hm : Operand.tmp t ∈ l := by rcases List.mem_cons.1 h with h | h; cases h; exact h
    exact restT_get (l := l) hm
  | .func x :: l, t, h => by
    have hm : Operand.tmp t ∈ l := by rcases List.mem_cons.1 h with h | h; cases h; exact h
    exact restT_get (l := l) hm
theorem ev_restT {tm : Tm} {l : List Operand} {x : Operand} (hx : x ∈ l) : ev P tm x = ev P (restT tm l) x := by
  cases x with
  | tmp t => exact (restT_get hx).symm
  | _ => rfl
/-- memory with some blocks more -/
theorem exists_heap (g : H) (N : Nat) (R : Nat → Blk → Prop) (hf : ∀ j b b', R j b → R j b' → b = b') : ∀ n, ∃ G : H, G.next = g.next ∧ G.asm = g.asm ∧ (∀ j b, j < n → R j b → G.m.get (N + j) = some b) ∧ ∀ id, (∀ j b, j < n → R j b → id ≠ N + j) → G.m.get id = g.m.get id
  | 0 => ⟨g, rfl, rfl, fun j b hj => by omega, fun id _ => rfl⟩
  | n + 1 => by
    obtain ⟨G, h1, h1a, h2, h3⟩ := exists_heap g N R hf n
    by_cases hn : ∃ b, R n b
    · obtain ⟨b, hb⟩ := hn
      have hput : ∀ id, (G.put (N + n) b).m.get id = if id = N + n then some b else G.m.get id := fun id => get_put _ _ _ _
      refine ⟨G.put (N + n) b, h1, h1a, fun j b' hj hR => ?_, fun id hid => ?_⟩
      · rw [hput]
        by_cases he : N + j = N + n
        · rw [if_pos he]
          have : j = n := by omega
          subst this
          rw [hf j b b' hb hR]
        · rw [if_neg he]; exact h2 j b' (by omega) hR
      · rw [hput, if_neg (hid n b (by omega) hb)]
        exact h3 id (fun j b' hj hR => hid j b' (by omega) hR)
    · refine ⟨G, h1, h1a, fun j b hj hR => ?_, fun id hid => h3 id (fun j b hj hR => hid j b (by omega) hR)⟩
      refine h2 j b ?_ hR
      rcases Nat.lt_or_ge j n with h | h
      · exact h
      · have : j = n := by omega
        subst this; exact absurd ⟨b, hR⟩ hn
end
end Go.Den
