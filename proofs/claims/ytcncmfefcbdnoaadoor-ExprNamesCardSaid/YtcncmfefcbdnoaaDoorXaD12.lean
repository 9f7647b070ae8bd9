import Derived.Test.YtcncmfefcbdnoaaDoorXaD11
set_option linter.unusedVariables false
set_option linter.unusedSimpArgs false
namespace Go.Den
section
variable {P : Program} {e : Env} {h h0 h' : H} {w : World} {tm : Tm} {a : Act} {o : Oper} {v : IV}

/-! ### What is appended -/
def Yield (P : Program) (i : TypeInfo) (Z : Value) (t2 : TypeId) (X : Value) (n : Nat) (news : List Value) (w : World) : Prop :=
  (((∃ e', P.underlying t2 = some (.slice e')) ∨ P.underlying t2 = some .string) ∧ (∀ w', (Builtin.lenOf X).run P w' = .ok n w') ∧ (Builtin.firstCells i.size n X).run P w = .ok news.toArray w) ∨
  (∃ k k2, P.underlying t2 = some (.int k2) ∧ X = .int k n ∧ n ≤ 1000000 ∧ n * i.bytes ≤ 140737488355328 ∧ Z.cells.size = i.size ∧ news = (Builtin.zeroCells Z.cells n).toList)
theorem append_room {t t2 ty el : TypeId} {i : TypeInfo} {Z X : Value} {n : Nat} {news : List Value} (ht : P.underlying t = some (.slice el)) (hi : P.info? el = some i) (hz : i.zero = some Z) (hy : Yield P i Z t2 X n news w)
    {base : Option Addr} {sLen sCap : Nat} (hroom : sLen + n ≤ sCap) : (Builtin.append_ #[t, t2] ty #[.slice base sLen sCap, X]).run P w =
      ((match base with | some a => storeCells (a.add (sLen * i.size)) news | none => pure () : Sem Unit).run P w).andThen fun _ w => .ok (.slice base (sLen + n) sCap) w := by
  rcases hy with ⟨hk, hl, hc⟩ | ⟨k, k2, hk, rfl, h1, h2, h3, rfl⟩
  · rcases hk with ⟨e', hk⟩ | hk <;> cases base <;> simp [Builtin.append_, run_underlying ht, run_underlying hk, sizeOf, typeInfo, hi, hl, hroom, hc]
  · have wl : IntKind.i64.wrap (n : Int) = n := by rw [IntKind.wrap_i64]; omega
    have n1 : ¬ ((n : Int) < 0) := by omega
    have n2 : ¬ (281474976710656 < (n : Int) * (i.bytes : Int)) := by
      rw [← Int.natCast_mul]; omega
    by_cases h0 : n * i.size = 0
    · have hz0 : Builtin.zeroCells Z.cells n = #[] := by
        have hr0 : Array.range 0 = #[] := rfl
        unfold Builtin.zeroCells; rw [h3, h0, hr0, Array.map_empty]
      cases base <;> simp [Builtin.append_, run_underlying ht, run_underlying hk, sizeOf, typeInfo, hi, asInt, asIntOf, wl, n1, n2, hroom, h0, hz0]
    · cases base <;> simp [Builtin.append_, run_underlying ht, run_underlying hk, sizeOf, typeInfo, hi, asInt, asIntOf, wl, n1, n2, hroom, h0, zeroValue, hz]
theorem append_grow {t t2 ty el : TypeId} {i : TypeInfo} {Z X : Value} {n : Nat} {news olds : List Value} (ht : P.underlying t = some (.slice el)) (hi : P.info? el = some i) (hz : i.zero = some Z) (hy : Yield P i Z t2 X n news w.drew)
    {base : Option Addr} {sLen sCap : Nat} (hg : sCap < sLen + n) (h63 : sLen + n ≤ maxLen) (hfit : (sLen + n) * i.bytes ≤ 140737488355328)
    (hold : (Builtin.firstCells i.size sLen (.slice base sLen sCap)).run P w.drew = .ok olds.toArray w.drew) : (Builtin.append_ #[t, t2] ty #[.slice base sLen sCap, X]).run P w =
      .ok (.slice (some ⟨w.heap.size, 0, none⟩) (sLen + n) (grownCap w (sLen + n) sCap el)) (w.drew.alloc (.cells ((olds ++ news).toArray ++ Builtin.zeroCells Z.cells (grownCap w (sLen + n) sCap el - (sLen + n))) el)) := by
  have hfin : ∀ (A : Array Value) (C : Array Value), A.toList = news → w.drew.alloc (.cells (olds.toArray ++ (A ++ C)) el) = w.drew.alloc (.cells ((olds ++ news).toArray ++ C) el) := by
    intro A C hA
    congr 2
    apply Array.ext'
    simp [hA]
  have hn : ¬ (sLen + n ≤ sCap) := by omega
  have h63' : ¬ (9223372036854775807 < ((sLen : Int) + (n : Int))) := by simp only [maxLen] at h63; omega
  have hf := growslice_fits (bytes := i.bytes) hg hfit
  have h48' : ¬ (281474976710656 < Builtin.nextslicecap (sLen + n) sCap * i.bytes) := by omega
  have hq : (Question.appendCap (sLen + n) sCap el).forced = false := rfl
  rcases hy with ⟨hk, hl, hc⟩ | ⟨k, k2, hk, rfl, h1, h2, h3, rfl⟩
  · rcases hk with ⟨e', hk⟩ | hk <;> simp [Builtin.append_, run_underlying ht, run_underlying hk, sizeOf, typeInfo, zeroValue, hi, hz, hl, hn, h63', h48', hq, hc, hold, newRow, grownCap]
    all_goals exact hfin _ _ (by simp)
  · have wl : IntKind.i64.wrap (n : Int) = n := by rw [IntKind.wrap_i64]; omega
    have n1 : ¬ ((n : Int) < 0) := by omega
    have n2 : ¬ (281474976710656 < (n : Int) * (i.bytes : Int)) := by
      rw [← Int.natCast_mul]; omega
    by_cases h0 : n * i.size = 0
    · have hz0 : Builtin.zeroCells Z.cells n = #[] := by
        have hr0 : Array.range 0 = #[] := rfl
        unfold Builtin.zeroCells; rw [h3, h0, hr0, Array.map_empty]
      simp [Builtin.append_, run_underlying ht, run_underlying hk, sizeOf, typeInfo, zeroValue, hi, hz, asInt, asIntOf, wl, n1, n2, hn, h63', h48', hq, h0, hz0, hold, newRow, grownCap]
      all_goals exact hfin #[] _ (by simp [hz0])
    · simp [Builtin.append_, run_underlying ht, run_underlying hk, sizeOf, typeInfo, zeroValue, hi, hz, asInt, asIntOf, wl, n1, n2, hn, h63', h48', hq, h0, hold, newRow, grownCap]
      all_goals exact hfin _ _ rfl
theorem firstCells_ok (r : Rel P e h w) {sz n : Nat} {x : IV} {X : Value} {l : List IV} (hx : conc e x = some X) (hl : firstCells h sz n x = some l) (hn : ∀ s, x = .str s → n ≤ s.length) :
    ∃ L, concL e l = some L ∧ L.length = n * sz ∧ (Builtin.firstCells sz n X).run P w = .ok L.toArray w := by
  cases x with
  | nilSlice =>
    cases n with
    | zero =>
      cases hl
      simp only [conc] at hx; cases hx
      exact ⟨[], rfl, by simp, by simp [Builtin.firstCells]⟩
    | succ n => cases hl
  | slice b off len c =>
    obtain ⟨blk, h1, h2⟩ := ob_some hl
    obtain ⟨p, hp, rfl⟩ := conc_slice hx
    obtain ⟨L, h3, h4, h5⟩ := run_loadN (r.at h1 hp) h2
    exact ⟨L, h3, h4, by simp [Builtin.firstCells, h5]⟩
  | str s =>
    have hl' : @Bool.rec (fun _ => Option (List IV)) none (some (ofBytes (s.take n))) (Nat.beq sz 1) = some l := hl
    cases hb : Nat.beq sz 1 with
    | false => rw [hb] at hl'; cases hl'
    | true =>
      rw [hb] at hl'
      cases hl'
      have := Nat.eq_of_beq_eq_true hb
      subst this
      simp only [conc] at hx; cases hx
      refine ⟨_, ofBytes_ok _, by simp [hn s rfl], ?_⟩
      simp only [Builtin.firstCells, Sem.run_pure]
      congr 1
      rw [extract_ba]
      simp
  | _ => cases hl
theorem lenOf_ok {x : IV} {X : Value} {n : Nat} (hx : conc e x = some X) (hl : lenOf x = some n) : (∀ w', (Builtin.lenOf X).run P w' = .ok n w') ∧ ∀ s, x = .str s → n ≤ s.length := by
  cases x with
  | nilSlice => cases hl; simp only [conc] at hx; cases hx; exact ⟨fun _ => rfl, fun s hs => by cases hs⟩
  | slice b off len c => cases hl; obtain ⟨p, hp, rfl⟩ := conc_slice hx; exact ⟨fun _ => rfl, fun s hs => by cases hs⟩
  | str s => cases hl; simp only [conc] at hx; cases hx; exact ⟨fun _ => by simp [Builtin.lenOf, size_ba], fun s' hs => by cases hs; exact Nat.le_refl _⟩
  | _ => cases hl
theorem appendedD_ok (r : Rel P e h w) {el t2 : TypeId} {i : TypeInfo} {Z : Value} {x : IV} {X : Value} {n : Nat} {new : List IV} (hi : P.info? el = some i) (hz : i.zero = some Z) (hx : conc e x = some X) (hd : appendedD P h el i t2 x = some (n, new)) :
    ∃ news, concL e new = some news ∧ news.length = n * i.size ∧ Yield P i Z t2 X n news w ∧ Yield P i Z t2 X n news w.drew := by
  obtain ⟨u, hu, h1⟩ := ob_some hd
  have plain : ((∃ e', P.underlying t2 = some (.slice e')) ∨ P.underlying t2 = some .string) → (ob (lenOf x) fun n => ob (firstCells h i.size n x) fun cs => some (n, cs)) = some (n, new) → ∃ news, concL e new = some news ∧ news.length = n * i.size ∧ Yield P i Z t2 X n news w ∧ Yield P i Z t2 X n news w.drew := by
    intro hk hd
    obtain ⟨n', h2, h3⟩ := ob_some hd
    obtain ⟨cs, h4, h5⟩ := ob_some h3
    cases h5
    obtain ⟨q1, q2⟩ := lenOf_ok (P := P) hx h2
    obtain ⟨L, q3, q4, q5⟩ := firstCells_ok r hx h4 q2
    obtain ⟨L2, q6, q7, q8⟩ := firstCells_ok (r.of_heap (w1 := w.drew) rfl) hx h4 q2
    rw [q3] at q6; cases q6
    exact ⟨L, q3, q4, .inl ⟨hk, q1, q5⟩, .inl ⟨hk, q1, q8⟩⟩
  split at h1
  · rename_i k2 k l
    split at h1
    · rename_i c1 c2
      obtain ⟨z, h2, h3⟩ := ob_some h1
      split at h3
      · rename_i c3
        cases h3
        obtain ⟨i', Z', hi', hZ', hzz⟩ := zero_ok h2
        rw [hi] at hi'; cases hi'
        rw [hz] at hZ'; cases hZ'
        have hcz := conc_cells (ofValue_ok (e := e) hzz)
        have hlen := concL_length hcz
        have hZs : Z.cells.size = i.size := by rw [← Array.length_toList, hlen]; exact Nat.eq_of_beq_eq_true c3
        simp only [conc] at hx; cases hx
        have hY : ∀ w1 : World, Yield P i Z t2 (.int k (Int.ofNat n)) n (Builtin.zeroCells Z.cells n).toList w1 := fun w1 => .inr ⟨k, k2, hu, rfl, Nat.ble_eq.mp c1, Nat.ble_eq.mp c2, hZs, rfl⟩
        exact ⟨_, zeros_ok hcz n, by simp [Builtin.zeroCells, hZs], hY w, hY w.drew⟩
      · cases h3
    · cases h1
  · exact plain (.inl ⟨_, hu⟩) h1
  · exact plain (.inr hu) h1
  · cases h1
theorem fits_ok {i : TypeInfo} {m : Nat} (hf : fits i m = true) : m * i.bytes ≤ 140737488355328 ∧ m ≤ maxLen := by
  have hf' : @Bool.rec (fun _ => Bool) false (Nat.ble m 9223372036854775807) (Nat.ble (m * i.bytes) 140737488355328) = true := hf
  cases hb : Nat.ble (m * i.bytes) 140737488355328 with
  | false => rw [hb] at hf'; cases hf'
  | true => rw [hb] at hf'; exact ⟨Nat.ble_eq.mp hb, by have := Nat.ble_eq.mp hf'; simp only [maxLen]; omega⟩
/-- A new row with spare room: the block, the value. -/
theorem grown {el : TypeId} {i : TypeInfo} {Z : Value} (r : Rel P e h w) (hi : P.info? el = some i) (hz : Z.cells.size = i.size) (hpos : 0 < i.size) {cs : List IV} {L : List Value} {need old : Nat} (hc : concL e cs = some L) (hl : L.length = need * i.size) (h63 : need ≤ maxLen) :
    Step P e h w (upd e h.next (w.heap.size, fun o => grownCap w need old el - o / i.size)) (h.new (.cells el (need * i.size) [] (listT cs 0 .nil) 1)) (w.drew.alloc (.cells (L.toArray ++ Builtin.zeroCells Z.cells (grownCap w need old el - need)) el)) ∧
    conc (upd e h.next (w.heap.size, fun o => grownCap w need old el - o / i.size)) (.slice h.next 0 need loose) = some (.slice (some ⟨w.heap.size, 0, none⟩) need (grownCap w need old el)) := by
  have hge := grownCap_ge w need old el
  have hcm := grownCap_le_maxLen w need old el h63
  have hn : e h.next = none := r.dom _ (Nat.le_refl _)
  have hsz : (L.toArray ++ Builtin.zeroCells Z.cells (grownCap w need old el - need)).size = grownCap w need old el * i.size := by
    simp only [Array.size_append, size_zeroCells, hz, List.size_toArray, hl]
    rw [← Nat.add_mul]
    congr 1; omega
  constructor
  · refine Step.new r rfl (o := .cells (L.toArray ++ Builtin.zeroCells Z.cells (grownCap w need old el - need)) el) rfl rfl rfl rfl ?_
    refine fresh_row (cur := L.toArray ++ Builtin.zeroCells Z.cells (grownCap w need old el - need)) (fr := (0, 0)) (L := L) (rest := (Builtin.zeroCells Z.cells (grownCap w need old el - need)).toList) (heap_alloc_new w.drew _) (concL_mono (le_upd hn _) _ hc) (by simp) ?_ no_frozen (fun _ => ⟨i, grownCap w need old el, hi, hpos, hsz, hcm, fun o => rfl⟩)
    rw [hsz]; exact Nat.mul_le_mul_right _ hge
  · simp only [conc, upd_at, if_true]
    simp
end
end Go.Den
