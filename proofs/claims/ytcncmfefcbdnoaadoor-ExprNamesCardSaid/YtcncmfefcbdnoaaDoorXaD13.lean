import Derived.Test.YtcncmfefcbdnoaaDoorXaD12
import Derived.Laws.RangeString
set_option linter.unusedVariables false
set_option linter.unusedSimpArgs false
namespace Go.Den
section
variable {P : Program} {e : Env} {h h0 h' : H} {w : World} {tm : Tm} {a : Act} {o : Oper} {v : IV}

theorem loadN_length {x : Blk} : ∀ (n o : Nat) {l : List IV}, loadN x o n = some l → l.length = n
  | 0, o, l, hl => by cases hl; rfl
  | n + 1, o, l, hl => by
    have hl' : ob (x.cell o) (fun v => ob (loadN x (o + 1) n) fun l => some (v :: l)) = some l := hl
    obtain ⟨v, h1, h2⟩ := ob_some hl'
    obtain ⟨r, h3, h4⟩ := ob_some h2
    cases h4
    simp [loadN_length n _ h3]
theorem appendD_ok (r : Rel P e h w) {t t2 ty : TypeId} {s x : IV} {S X : Value} (hs : conc e s = some S) (hx : conc e x = some X) (hd : appendD P h t t2 s x = some (v, h')) :
    ∃ V w' e', (Builtin.append_ #[t, t2] ty #[S, X]).run P w = .ok V w' ∧ Step P e h w e' h' w' ∧ conc e' v = some V := by
  obtain ⟨u, hu, h1⟩ := ob_some hd
  split at h1
  · rename_i el
    obtain ⟨i, hi, h2⟩ := ob_some h1
    obtain ⟨zz, hzz, h2'⟩ := ob_some h2
    obtain ⟨⟨n, new⟩, h3, h4'⟩ := ob_some h2'
    simp only at h4'
    have hz : ∃ Z, i.zero = some Z ∧ Z.cells.size = zz.cells.length := by
      obtain ⟨i', Z, hi', hZ', hz'⟩ := zero_ok hzz
      rw [hi] at hi'; cases hi'
      have hcz := conc_cells (ofValue_ok (e := e) hz')
      exact ⟨Z, hZ', by rw [← Array.length_toList, concL_length hcz]⟩
    obtain ⟨Z, hZ, hZs'⟩ := hz
    split at h4'
    · cases h4'
    rename_i hbz
    have hZs : Z.cells.size = i.size := hZs'.trans (Nat.eq_of_beq_eq_true hbz)
    have h4 := h4'
    clear h4'
    obtain ⟨news, hn1, hn2, hy, hy2⟩ := appendedD_ok r hi hZ hx h3
    have hnl := concL_length hn1
    split at h4
    · -- nil
      simp only [conc] at hs; cases hs
      split at h4
      · cases h4
        have hr := append_room (ty := ty) hu hi hZ hy (base := none) (sLen := 0) (sCap := 0) (by omega)
        exact ⟨_, w, e, hr, Step.refl r, rfl⟩
      · rename_i hn0
        split at h4
        · rename_i c1 c2
          cases h4
          obtain ⟨f1, f2⟩ := fits_ok c1
          have hpos := Nat.blt_eq.mp c2
          have hn0' : n ≠ 0 := fun he => hn0 he
          have hr := append_grow (ty := ty) (olds := []) hu hi hZ hy2 (base := none) (sLen := 0) (sCap := 0) (by omega) (by omega) (by rw [Nat.zero_add]; exact f1) (by simp [Builtin.firstCells])
          obtain ⟨g1, g2⟩ := grown r hi hZs hpos (need := n) (old := 0) hn1 hn2 f2
          simp only [Nat.zero_add, List.nil_append] at hr
          exact ⟨_, _, _, hr, g1, g2⟩
        · cases h4
    · rename_i b off len cap
      obtain ⟨p, hp, rfl⟩ := conc_slice hs
      split at h4
      · rename_i hcap
        have hcap' : cap = loose := Nat.eq_of_beq_eq_true hcap
        obtain ⟨blk, hb, h5⟩ := ob_some h4
        have kb := r.at hb hp
        split at h5
        · rename_i e' m z tr md
          split at h5
          · rename_i c1 c2 c3 c4
            have hmd : md = 1 := Nat.eq_of_beq_eq_true c1
            have hoff : off = 0 := Nat.eq_of_beq_eq_true c2
            have hm : len * i.size = m := Nat.eq_of_beq_eq_true c3
            have hel : e' = el := Nat.eq_of_beq_eq_true c4
            subst hmd; subst hoff; subst hel
            split at h5
            · rename_i c5 c6
              obtain ⟨tr', h6, h7⟩ := ob_some h5
              cases h7
              obtain ⟨f1, f2⟩ := fits_ok c5
              have hpos := Nat.blt_eq.mp c6
              obtain ⟨cur, t', fr, k0, kt, k1, k2, k3, k4⟩ := kb
              obtain ⟨i', C, hi', hpos', hsz, hmax, hp2⟩ := k4 rfl
              rw [hi] at hi'; cases hi'
              have hcc : (if cap = loose then p.2 0 else cap) = C := by rw [if_pos hcap', hp2]; simp
              rw [hcc]
              obtain ⟨q1, q2, q3⟩ := storeT_ok new h6
              have hnn : e h.next = none := r.dom _ (Nat.le_refl _)
              have hrw : (Blk.cells e' m z tr 1).rw = true := rfl
              have hcell : ∀ o, o < m + n * i.size → (m ≤ o ∧ o < m + new.length) ∨ o < m := fun o ho => by
                by_cases hh : o < m
                · exact .inr hh
                · exact .inl ⟨by omega, by omega⟩
              by_cases hroom : len + n ≤ C
              · have hr := append_room (ty := ty) hu hi hZ hy (base := some ⟨p.1, 0, none⟩) (sLen := len) (sCap := C) hroom
                have hle : m + n * i.size ≤ cur.size := by
                  rw [hsz, ← hm, ← Nat.add_mul]; exact Nat.mul_le_mul_right _ hroom
                have hcell1 : ∀ j, j < news.length → (w.cell? ⟨p.1, m + 0 + j, none⟩).isSome = true := fun j hj => by
                  simp [World.cell?, k0]; omega
                have hfro : ∀ j, j < news.length → w.frozen? ⟨p.1, m + 0 + j, none⟩ = false := fun j hj => by
                  have := k2 (by decide) (m + 0 + j) (by omega)
                  simp only [World.frozen?, k0]
                  simp only [Bool.and_eq_false_iff, decide_eq_false_iff_not]
                  by_cases hh : fr.1 ≤ m + 0 + j
                  · right; intro hc; exact this ⟨hh, hc⟩
                  · left; exact hh
                have hst := run_storeCells_cells (P := P) p.1 m news 0 w hcell1 hfro (ones_ok hn1 q1)
                simp only [Nat.add_zero] at hst
                simp only [add_at, Nat.zero_add, hm] at hr
                have hst' : (storeCells (⟨p.1, m, none⟩ : Addr) news 0).run P w = .ok () (w.setCells p.1 m news) := hst
                rw [hst'] at hr
                simp only [Result.andThen_ok] at hr
                obtain ⟨g1, g2, g3, g4, g5⟩ := setCells_frame p.1 news m w
                obtain ⟨cur', d1, d2, d3⟩ := setCells_heap p.1 news m w k0
                refine ⟨_, _, upd e h.next p, hr, ?_, ?_⟩
                · refine Step.moved r hb hrw rfl hp (q := p) (.inl rfl) (fun k _ hk => g1 k hk) (by omega) g3 g4 g5 ?_
                  refine ⟨cur', t', fr, d1, kt, by omega, fun _ o ho => k2 (by decide) o (by omega), fun o v hv => ?_, fun _ => ⟨i, C, hi, hpos', by rw [d2]; exact hsz, hmax, hp2⟩⟩
                  have hcur : ∀ j, j < m + n * i.size → cur'[j]? = if m ≤ j ∧ j < m + news.length then news[j - m]? else cur[j]? := by
                    intro j hj
                    rw [d3 j]
                    by_cases hh : m ≤ j ∧ j < m + news.length
                    · rw [if_pos (by omega), if_pos hh]
                    · rw [if_neg (by omega), if_neg hh]
                  exact written (concL_mono (le_upd hnn p) _ hn1) (fun o v hv => by obtain ⟨V, a1, a2⟩ := k3 o v hv; exact ⟨V, conc_mono (le_upd hnn p) _ a1, a2⟩) hcell q3 hcur hv
                · simp only [conc, upd_at, if_true, hp2]
                  simp
              · have hlen : len ≤ C := by
                  have : len * i.size ≤ C * i.size := by omega
                  exact Nat.le_of_mul_le_mul_right this hpos
                have hold : (Builtin.firstCells i.size len (.slice (some ⟨p.1, 0, none⟩) len C)).run P w.drew = .ok (cur.toList.take m).toArray w.drew := by
                  refine run_firstCells_some w.drew i.size len ⟨p.1, 0, none⟩ len C (cur.toList.take m) (by simp; omega) (fun j u hj => ?_)
                  rw [add_at]
                  rw [List.getElem?_take] at hj
                  split at hj
                  · have hcw : w.drew.cell? ⟨p.1, 0 + j, none⟩ = w.cell? ⟨p.1, 0 + j, none⟩ := rfl
                    rw [hcw, World.cell?]
                    simp only [k0]
                    simpa using hj
                  · cases hj
                have hr := append_grow (ty := ty) hu hi hZ hy2 (base := some ⟨p.1, 0, none⟩) (sLen := len) (sCap := C) (by omega) f2 f1 hold
                have hge := grownCap_ge w (len + n) C e'
                have hcm := grownCap_le_maxLen w (len + n) C e' f2
                obtain ⟨G, hG⟩ : ∃ G, G = grownCap w (len + n) C e' := ⟨_, rfl⟩
                rw [← hG] at hr hge hcm
                have hq : e.le (upd e h.next (w.heap.size, fun o => G - o / i.size)) := le_upd hnn _
                obtain ⟨nc, hnc⟩ : ∃ nc : Array Value, nc = (cur.toList.take m ++ news).toArray ++ Builtin.zeroCells Z.cells (G - (len + n)) := ⟨_, rfl⟩
                rw [← hnc] at hr
                have hncs : nc.size = G * i.size := by
                  rw [hnc]
                  simp only [Array.size_append, size_zeroCells, hZs, List.size_toArray, List.length_append, List.length_take, Array.length_toList, hn2]
                  rw [Nat.min_eq_left k1, ← hm, ← Nat.add_mul, ← Nat.add_mul]
                  congr 1; omega
                have hncg : ∀ j, j < m + n * i.size → nc[j]? = if m ≤ j ∧ j < m + news.length then news[j - m]? else cur[j]? := by
                  intro j hj
                  rw [hnc, Array.getElem?_append_left (by simp; omega)]
                  simp only [List.getElem?_toArray]
                  by_cases hjm : j < m
                  · rw [if_neg (by omega), List.getElem?_append_left (by simp; omega), List.getElem?_take, if_pos hjm]
                    simp
                  · rw [if_pos (by omega), List.getElem?_append_right (by simp; omega)]
                    simp only [List.length_take, Array.length_toList, Nat.min_eq_left k1]
                refine ⟨_, _, upd e h.next (w.heap.size, fun o => G - o / i.size), hr, ?_, ?_⟩
                · refine Step.moved r hb hrw rfl hp (q := (w.heap.size, fun o => G - o / i.size)) (.inr (Nat.le_refl _)) (fun k hk _ => ?_) (by simp) rfl rfl rfl ?_
                  · exact heap_alloc_old w.drew _ hk
                  · refine ⟨nc, e', (0, 0), heap_alloc_new w.drew _, fun _ => rfl, ?_, fun _ => no_frozen, fun o v hv => ?_, fun _ => ⟨i, G, hi, hpos', hncs, hcm, fun o => rfl⟩⟩
                    · rw [hncs, ← hm, ← Nat.add_mul]; exact Nat.mul_le_mul_right _ hge
                    · have hcell' := hcell
                      exact written (concL_mono hq _ hn1) (fun o v hv => by obtain ⟨V, a1, a2⟩ := k3 o v hv; exact ⟨V, conc_mono hq _ a1, a2⟩) hcell q3 hncg hv
                · simp only [conc, upd_at, if_true]
                  simp
            · cases h5
          · cases h5
        · cases h5
      · rename_i hcap
        have hcap' : cap ≠ loose := fun he => by subst he; simp at hcap
        rw [if_neg hcap']
        split at h4
        · rename_i hroom'
          have hroom := Nat.ble_eq.mp hroom'
          have hr := append_room (ty := ty) hu hi hZ hy (base := some ⟨p.1, off, none⟩) (sLen := len) (sCap := cap) hroom
          split at h4
          · rename_i hn0
            cases h4
            have hnil : news = [] := List.eq_nil_of_length_eq_zero (by rw [hn2, hn0])
            subst hnil
            exact ⟨_, w, e, by rw [hr]; simp [storeCells], Step.refl r, conc_exact hp hcap'⟩
          · rename_i hn0
            obtain ⟨h1', h6, h7⟩ := ob_some h4
            cases h7
            have hne : new ≠ [] := fun he => by
              subst he
              simp only [concL] at hn1
              have := Option.some.inj hn1
              rw [← this] at hn2
              exact hn0 hn2.symm
            obtain ⟨q1, q2⟩ := store_ok r hp hn1 h6 hne
            refine ⟨_, _, e, ?_, q2, conc_exact hp hcap'⟩
            rw [hr]
            simp only [add_at]
            rw [q1]
            rfl
        · rename_i hroom'
          have hg : cap < len + n := by
            rcases Nat.lt_or_ge cap (len + n) with hh | hh
            · exact hh
            · rw [Nat.ble_eq.mpr hh] at hroom'; cases hroom'
          split at h4
          · rename_i c5 c6
            obtain ⟨old, h6, h7⟩ := ob_some h4
            cases h7
            obtain ⟨f1, f2⟩ := fits_ok c5
            have hpos := Nat.blt_eq.mp c6
            have hs' : conc e (.slice b off len cap) = some (.slice (some ⟨p.1, off, none⟩) len cap) := conc_exact hp hcap'
            obtain ⟨olds, q1, q2, q3⟩ := firstCells_ok (r.of_heap (w1 := w.drew) rfl) hs' h6 (fun s hs => by cases hs)
            have hr := append_grow (ty := ty) hu hi hZ hy2 (base := some ⟨p.1, off, none⟩) (sLen := len) (sCap := cap) hg f2 f1 q3
            obtain ⟨g1, g2⟩ := grown r hi hZs hpos (need := len + n) (old := cap) (concL_append q1 hn1) (by rw [List.length_append, q2, hn2, Nat.add_mul]) f2
            exact ⟨_, _, _, hr, g1, g2⟩
          · cases h4
    · cases h4
  · cases h1
end
end Go.Den
