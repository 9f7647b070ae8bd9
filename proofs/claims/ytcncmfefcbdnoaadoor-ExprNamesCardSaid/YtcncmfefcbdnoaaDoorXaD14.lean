import Derived.Test.YtcncmfefcbdnoaaDoorXaD13
set_option linter.unusedVariables false
set_option linter.unusedSimpArgs false
namespace Go.Den
section
variable {P : Program} {e : Env} {h h0 h' : H} {w : World} {tm : Tm} {a : Act} {o : Oper} {v : IV}

theorem args2 {e : Env} {x y : IV} {L : List Value} (h : concL e [x, y] = some L) : ∃ X Y, conc e x = some X ∧ conc e y = some Y ∧ L = [X, Y] := by
  obtain ⟨X, R, h1, h2, rfl⟩ := concL_cons h
  obtain ⟨Y, R2, h3, h4, rfl⟩ := concL_cons h2
  simp only [concL] at h4; cases h4
  exact ⟨X, Y, h1, h3, rfl⟩
theorem args1 {e : Env} {x : IV} {L : List Value} (h : concL e [x] = some L) : ∃ X, conc e x = some X ∧ L = [X] := by
  obtain ⟨X, R, h1, h2, rfl⟩ := concL_cons h
  simp only [concL] at h2; cases h2
  exact ⟨X, h1, rfl⟩
theorem append_ts {ts : Array TypeId} {t t2 ty : TypeId} {args : Array Value} (h0 : ts[0]? = some t) (h1 : ts[1]? = some t2) : Builtin.append_ ts ty args = Builtin.append_ #[t, t2] ty args := by
  unfold Builtin.append_
  rw [h0, h1]
  rfl
theorem copyD_ok (r : Rel P e h w) {ts : Array TypeId} {t ty : TypeId} {d s : IV} {D S : Value} (h0 : ts[0]? = some t) (hdd : conc e d = some D) (hs : conc e s = some S) (hd : copyD P h t d s = some (v, h')) :
    ∃ V w' e', (Builtin.copy_ ts ty #[D, S]).run P w = .ok V w' ∧ Step P e h w e' h' w' ∧ conc e' v = some V := by
  obtain ⟨u, hu, h1⟩ := ob_some hd
  split at h1
  · rename_i el
    obtain ⟨sz, hsz, h2⟩ := ob_some h1
    obtain ⟨ls, hls, h3⟩ := ob_some h2
    obtain ⟨q1, q2⟩ := lenOf_ok (P := P) hs hls
    split at h3
    · cases h3
      simp only [conc] at hdd; cases hdd
      have hf : (Builtin.firstCells sz 0 S).run P w = .ok #[] w := by
        cases s with
        | nilSlice => simp only [conc] at hs; cases hs; simp [Builtin.firstCells]
        | slice b o n c =>
          obtain ⟨p, hp, rfl⟩ := conc_slice hs
          have := run_loadCells_list (P := P) w ⟨p.1, o, none⟩ [] (by simp)
          simpa [Builtin.firstCells] using this
        | str x => simp only [conc] at hs; cases hs; simp [Builtin.firstCells]
        | _ => cases hls
      refine ⟨_, w, e, ?_, Step.refl r, rfl⟩
      simp [Builtin.copy_, h0, run_underlying hu, q1, size_ok hsz, hf, goInt]
    · rename_i b off ld c
      obtain ⟨cs, h4, h5⟩ := ob_some h3
      have hn : ∀ x, s = .str x → Nat.min ls ld ≤ x.length := fun x hx => Nat.le_trans (Nat.min_le_left _ _) (q2 x hx)
      obtain ⟨L, q3, q4, q5⟩ := firstCells_ok r hs h4 hn
      obtain ⟨p, hp, rfl⟩ := conc_slice hdd
      split at h5
      · cases h5
        simp only [concL] at q3; cases q3
        refine ⟨_, w, e, ?_, Step.refl r, rfl⟩
        have q5' : (Builtin.firstCells sz (Nat.min ls ld) S).run P w = .ok #[] w := q5
        simp only [Builtin.copy_, h0]
        simp [run_underlying hu, q1, size_ok hsz, q5', goInt, storeCells]
      · rename_i hne
        obtain ⟨h1', h6, h7⟩ := ob_some h5
        cases h7
        obtain ⟨q6, q7⟩ := store_ok r hp q3 h6 hne
        refine ⟨_, _, e, ?_, q7, rfl⟩
        simp only [Builtin.copy_, h0]
        simp [run_underlying hu, q1, size_ok hsz, q5, goInt, q6]
    · cases h3
  · cases h1
theorem clearD_ok (r : Rel P e h w) {ts : Array TypeId} {t ty : TypeId} {d : IV} {D : Value} (h0 : ts[0]? = some t) (hdd : conc e d = some D) (hd : clearD P h t d = some h') :
    ∃ w' e', (Builtin.clear_ ts ty #[D]).run P w = .ok undef w' ∧ Step P e h w e' h' w' := by
  obtain ⟨u, hu, h1⟩ := ob_some hd
  split at h1
  · cases h1
    simp only [conc] at hdd; cases hdd
    exact ⟨w, e, by simp [Builtin.clear_, h0, run_underlying hu, undef], Step.refl r⟩
  · rename_i el b off n c
    obtain ⟨p, hp, rfl⟩ := conc_slice hdd
    split at h1
    · cases h1
      exact ⟨w, e, by simp [Builtin.clear_, h0, run_underlying hu, undef], Step.refl r⟩
    · rename_i hn
      obtain ⟨z, h2, h3⟩ := ob_some h1
      obtain ⟨i, Z, hi, hZ, hz⟩ := zero_ok h2
      have hcz := conc_cells (ofValue_ok (e := e) hz)
      have hzz := zeros_ok hcz n
      by_cases hne : zeros z.cells n = []
      · -- no cells
        rw [hne] at h3 hzz
        simp only [concL] at hzz
        have hnil : (Builtin.zeroCells Z.cells n).toList = [] := (Option.some.inj hzz).symm
        obtain ⟨t', n', z', tr, md, tr', k1, k2, k3, rfl⟩ := H.store_some h3
        cases k3
        have hrw : (Blk.cells t' n' z' tr md).rw = true := by
          show (!(Nat.beq md 2)) = true
          cases hb : Nat.beq md 2 with
          | true => exact absurd (Nat.eq_of_beq_eq_true hb) k2
          | false => rfl
        refine ⟨w, e, ?_, Step.write r k1 hrw hrw hp (fun _ _ => rfl) rfl rfl rfl rfl (r.at k1 hp)⟩
        cases n with
        | zero => exact absurd rfl hn
        | succ m => simp [Builtin.clear_, h0, run_underlying hu, run_zeroValue' hi hZ, hnil, storeCells, undef]
      · obtain ⟨q1, q2⟩ := store_ok r hp hzz h3 hne
        refine ⟨_, e, ?_, q2⟩
        cases n with
        | zero => exact absurd rfl hn
        | succ m => simp [Builtin.clear_, h0, run_underlying hu, run_zeroValue' hi hZ, q1, undef]
  · cases h1
theorem run_setObj_map {b : Nat} {E : Array MapEntry} {clk : Nat} (hb : w.heap[b]? = some (.map E clk)) (o' : Obj) : (setObj b o').run P w = .ok () { w with heap := w.heap.setIfInBounds b o' } := by
  simp [setObj, Sem.run, hb]
theorem EntsOK.set {es : List (IV × IV)} {E : List MapEntry} (hE : EntsOK e es E) {j : Nat} {k v : IV} {f : MapEntry → MapEntry} (hf : ∀ m, E[j]? = some m → conc e k = some (f m).key ∧ conc e v = some (f m).val) : EntsOK e (es.set j (k, v)) (E.modify j f) := by
  refine ⟨by simp [hE.1], fun i k' v' hi => ?_⟩
  rw [List.getElem?_set] at hi
  by_cases hij : j = i
  · subst hij
    rw [if_pos rfl] at hi
    split at hi
    · rename_i hlt
      cases hi
      have hlt' : j < E.length := by rw [hE.1]; exact hlt
      obtain ⟨q1, q2⟩ := hf E[j] (List.getElem?_eq_getElem hlt')
      exact ⟨f E[j], by rw [List.getElem?_modify]; simp [hlt'], q1, q2⟩
    · cases hi
  · rw [if_neg hij] at hi
    obtain ⟨m, q1, q2, q3⟩ := hE.2 i k' v' hi
    exact ⟨m, by rw [List.getElem?_modify]; simp [hij, q1], q2, q3⟩
theorem put_find {k : List UInt8} {u : IV} : ∀ (es : List (IV × IV)) {es' : List (IV × IV)}, putKey k u es = some es' → ∃ fr, findKey k es = some fr
  | [], es', _ => ⟨none, rfl⟩
  | (ky, vv) :: es, es', hp => by
    cases ky with
    | str s =>
      have h9' : @Bool.rec (fun _ => Option (List (IV × IV))) (ob (putKey k u es) fun l => some ((.str s, vv) :: l)) (some ((.str s, u) :: es)) (eqU k s) = some es' := hp
      have hf : findKey k ((.str s, vv) :: es) = @Bool.rec (fun _ => Option (Option IV)) (findKey k es) (some (some vv)) (eqU k s) := rfl
      rw [hf]
      cases hb : eqU k s with
      | true => exact ⟨_, rfl⟩
      | false =>
        rw [hb] at h9'
        obtain ⟨l, q1, q2⟩ := ob_some h9'
        exact put_find es q1
    | _ => cases hp
theorem doMapUpdate_ok (k : TmOK e tm a.tmps) (r : Rel P e h w) {t : TypeId} {x y z : Operand} (ho : o.op = .mapUpdate t x y z) (hd : doMapUpdate P tm h t x y z = some (.val v h')) : Eff P e h w a o v h' := by
  obtain ⟨p, h1, h2⟩ := ob_some hd
  obtain ⟨q, h3, h4⟩ := ob_some h2
  obtain ⟨u, h5, h6⟩ := ob_some h4
  have hx := ev_ok k r h1
  have hy := ev_ok k r h3
  have hz := ev_ok k r h5
  split at h6
  · rename_i b ks
    split at h6
    · rename_i kt el hu
      split at h6
      · rename_i hkt
        obtain ⟨blk, h7, h8⟩ := ob_some h6
        split at h8
        · rename_i es
          obtain ⟨es', h9, h10⟩ := ob_some h8
          cases h10
          obtain ⟨pp, hp, hV⟩ := conc_map hx
          obtain ⟨E, clk, h11, h12⟩ := map_at r h7 hp
          simp only [conc] at hy
          have hy' := Option.some.inj hy
          have hE : execOp a.eval o = (do Instr.mapUpdate t (a.eval x) (a.eval y) (a.eval z); pure .skip) := by simp only [execOp, ho]
          have hfk := put_find es h9
          obtain ⟨fr, hfk⟩ := hfk
          have hf := findKey_ok es E.toList 0 h12 hfk
          have key : ∀ E' clk', EntsOK e es' E'.toList → (Instr.mapUpdate t (.map (some pp.1)) (.string ⟨ks.toArray⟩) (a.eval z)).run P w = .ok () { w with heap := w.heap.setIfInBounds pp.1 (.map E' clk') } → Eff P e h w a o undefIV (h.put b (.map es')) := by
            intro E' clk' hE' hrun
            refine ⟨undef, { w with heap := w.heap.setIfInBounds pp.1 (.map E' clk') }, e, .inr ⟨?_, rfl⟩, Step.write r h7 rfl rfl hp (fun k hk => ?_) ?_ rfl rfl rfl ⟨E', clk', ?_, hE'.1, fun i k v hi => ?_⟩, rfl⟩
            · rw [hE, hV, ← hy']; simp only [Sem.run_bind, hrun, Result.andThen_ok]; rfl
            · simp only; rw [Array.getElem?_setIfInBounds_ne (fun he => hk he.symm)]
            · simp
            · have hlt := (Array.getElem?_eq_some_iff.1 h11).1
              simp [hlt]
            · obtain ⟨m, a1, a2, a3⟩ := hE'.2 i k v hi
              exact ⟨m, by simpa using a1, a2, a3⟩
          cases fr with
          | some u0 =>
            obtain ⟨j, V, q1, q2, q3, q4, q5⟩ := hf
            rw [q5 u] at h9; cases h9
            obtain ⟨m, m1, m2, m3⟩ := h12.2 j _ _ q4
            simp only [conc] at m2
            have hmk : m.key = .string ⟨ks.toArray⟩ := (Option.some.inj m2).symm
            refine key (E.modify j fun en => { en with key := .string ⟨ks.toArray⟩, val := a.eval z }) clk ?_ ?_
            · simp only [Array.toList_modify]
              exact h12.set (fun m _ => ⟨rfl, hz⟩)
            · have hst : Instr.sameBits 10000 (.string ⟨ks.toArray⟩) (.string ⟨ks.toArray⟩) = true := by simp [Instr.sameBits, eqBA]
              have hEj : E[j]? = some m := by simpa using m1
              simp [Instr.mapUpdate, run_underlying hu, run_getObj_map h11, run_checkKey_string _ _ hkt, Instr.findKey, run_underlying hkt, q2, hEj, hmk, Instr.keyThatStays, hst, run_setObj_map h11]
          | none =>
            rw [hf.2 u] at h9; cases h9
            refine key (E.push { key := .string ⟨ks.toArray⟩, val := a.eval z, born := clk }) (clk + 1) ?_ ?_
            · simp only [Array.toList_push]
              refine ⟨by simp [h12.1], fun i k' v' hi => ?_⟩
              by_cases hlt : i < es.length
              · rw [List.getElem?_append_left hlt] at hi
                obtain ⟨m, a1, a2, a3⟩ := h12.2 i k' v' hi
                exact ⟨m, by rw [List.getElem?_append_left (by rw [h12.1]; exact hlt)]; exact a1, a2, a3⟩
              · rw [List.getElem?_append_right (by omega)] at hi
                have : i - es.length = 0 := by
                  rcases Nat.eq_zero_or_pos (i - es.length) with hh | hh
                  · exact hh
                  · rw [List.getElem?_eq_none (by simp; omega)] at hi; cases hi
                rw [this] at hi
                simp at hi
                obtain ⟨rfl, rfl⟩ := hi
                refine ⟨_, by rw [List.getElem?_append_right (by rw [h12.1]; omega), h12.1, this]; rfl, rfl, hz⟩
            · simp [Instr.mapUpdate, run_underlying hu, run_getObj_map h11, run_checkKey_string _ _ hkt, Instr.findKey, run_underlying hkt, hf.1, run_setObj_map h11]
        · cases h8
      · cases h6
    · cases h6
  · cases h6
theorem doNext_ok (k : TmOK e tm a.tmps) (r : Rel P e h w) {x : Operand} {s : Bool} (ho : o.op = .next x s) (hd : doNext P tm h x s = some (.val v h')) : Eff P e h w a o v h' := by
  cases s with
  | false => cases hd
  | true =>
    obtain ⟨p, h1, h2⟩ := ob_some hd
    have hx := ev_ok k r h1
    have hE : execOp a.eval o = (do pure (Next.value (← Instr.next (a.eval x) true o.type))) := by simp only [execOp, ho]
    split at h2
    · rename_i b
      obtain ⟨blk, h3, h4⟩ := ob_some h2
      split at h4
      · rename_i s pos
        obtain ⟨pp, hp, hV⟩ := conc_ptr hx
        have kb : w.heap[pp.1]? = some (.stringIter ⟨s.toArray⟩ pos) := r.at h3 hp
        have hget : (getObj pp.1).run P w = .ok (.stringIter ⟨s.toArray⟩ pos) w := by simp [getObj, Sem.run, kb]
        split at h4
        · rename_i c hc
          split at h4
          · rename_i hlt
            cases h4
            have hpos : pos < s.length := (List.getElem?_eq_some_iff.1 hc).1
            have hcs : s[pos] = c := (List.getElem?_eq_some_iff.1 hc).2
            have hsz : pos < (⟨s.toArray⟩ : ByteArray).size := by rw [size_ba]; exact hpos
            have hgc : (⟨s.toArray⟩ : ByteArray)[pos]'hsz = c := hcs
            have hset : (setObj pp.1 (.stringIter ⟨s.toArray⟩ (pos + 1))).run P w = .ok () { w with heap := w.heap.setIfInBounds pp.1 (.stringIter ⟨s.toArray⟩ (pos + 1)) } := by simp [setObj, Sem.run, kb]
            have hdec := decode_ascii ⟨s.toArray⟩ pos hsz (by rw [hgc]; exact Nat.blt_eq.mp hlt)
            rw [hgc] at hdec
            refine ⟨_, { w with heap := w.heap.setIfInBounds pp.1 (.stringIter ⟨s.toArray⟩ (pos + 1)) }, e, .inl ?_, Step.write r h3 rfl rfl hp (fun k hk => ?_) (by simp) rfl rfl rfl ?_, rfl⟩
            · rw [hE, hV]
              simp [Instr.next, hget, hsz, hdec, hset, goInt]
            · simp only; rw [Array.getElem?_setIfInBounds_ne (fun he => hk he.symm)]
            · have hlt := (Array.getElem?_eq_some_iff.1 kb).1
              show ({ w with heap := w.heap.setIfInBounds pp.1 (.stringIter ⟨s.toArray⟩ (pos + 1)) } : World).heap[pp.1]? = _
              simp [hlt]
          · cases h4
        · rename_i hc
          cases h4
          have hpos : ¬ pos < (⟨s.toArray⟩ : ByteArray).size := by
            rw [size_ba]; intro hlt; rw [List.getElem?_eq_getElem hlt] at hc; cases hc
          refine ⟨_, w, e, .inl ?_, Step.refl r, rfl⟩
          rw [hE, hV]
          simp [Instr.next, hget, hpos]
      · cases h4
    · cases h2
end
end Go.Den
