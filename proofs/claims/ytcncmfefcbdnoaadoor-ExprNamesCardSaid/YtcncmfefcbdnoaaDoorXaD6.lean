import Derived.Test.YtcncmfefcbdnoaaDoorXaD5
import Derived.Laws.Cells
import Derived.Laws.BytesString
set_option linter.unusedVariables false
set_option linter.unusedSimpArgs false
namespace Go.Den
section
variable {P : Program} {e : Env} {h h' : H} {w : World} {tm : Tm} {a : Act} {o : Oper} {v : IV}

/-! ### Cells -/
theorem Rel.at (r : Rel P e h w) {b : Nat} {x : Blk} {p : Nat × (Nat → Nat)} (hx : h.m.get b = some x) (hp : e b = some p) : BlkOK P e x p w := by
  obtain ⟨q, hq, k⟩ := r.blk b x hx
  rw [hp] at hq; cases hq; exact k
theorem cell_ok {x : Blk} {p : Nat × (Nat → Nat)} {o : Nat} {v : IV} (k : BlkOK P e x p w) (hc : x.cell o = some v) : ∃ V, conc e v = some V ∧ w.cell? ⟨p.1, o, none⟩ = some V := by
  cases x with
  | cells t n z tr md =>
    obtain ⟨cur, t', fr, hh, _, _, _, h3, _⟩ := k
    obtain ⟨V, h4, h5⟩ := h3 o v hc
    exact ⟨V, h4, by simp [World.cell?, hh, h5]⟩
  | map es => cases hc
  | iter s n => cases hc
theorem loadN_ok {x : Blk} {p : Nat × (Nat → Nat)} (k : BlkOK P e x p w) : ∀ (n o : Nat) {l : List IV}, loadN x o n = some l →
    ∃ L, concL e l = some L ∧ L.length = n ∧ ∀ j V, L[j]? = some V → w.cell? ⟨p.1, o + j, none⟩ = some V
  | 0, o, l, hl => by cases hl; exact ⟨[], rfl, rfl, by simp⟩
  | n + 1, o, l, hl => by
    have hl' : ob (x.cell o) (fun v => ob (loadN x (o + 1) n) fun l => some (v :: l)) = some l := hl
    obtain ⟨v, h1, h2⟩ := ob_some hl'
    obtain ⟨r, h3, h4⟩ := ob_some h2
    cases h4
    obtain ⟨V, h5, h6⟩ := cell_ok k h1
    obtain ⟨R, h7, h8, h9⟩ := loadN_ok k n (o + 1) h3
    refine ⟨V :: R, concL_mk h5 h7, by simp [h8], fun j U hj => ?_⟩
    cases j with
    | zero => simp at hj; subst hj; exact h6
    | succ j => have := h9 j U (by simpa using hj); rwa [show o + (j + 1) = o + 1 + j by omega]
theorem add_at (b o j : Nat) : (⟨b, o, none⟩ : Addr).add j = ⟨b, o + j, none⟩ := by unfold Addr.add; split <;> simp_all
theorem run_loadN {x : Blk} {p : Nat × (Nat → Nat)} (k : BlkOK P e x p w) {n o : Nat} {l : List IV} (hl : loadN x o n = some l) :
    ∃ L, concL e l = some L ∧ L.length = n ∧ (loadCells ⟨p.1, o, none⟩ n).run P w = .ok L.toArray w := by
  obtain ⟨L, h1, h2, h3⟩ := loadN_ok k n o hl
  refine ⟨L, h1, h2, ?_⟩
  have := run_loadCells_list (P := P) w ⟨p.1, o, none⟩ L (fun j v hj => by rw [add_at]; exact h3 j v hj)
  rwa [h2] at this
theorem loadVar_ok (r : Rel P e h w) {t : TypeId} {b off : Nat} {p : Nat × (Nat → Nat)} (hp : e b = some p) (hl : loadVar P h t b off = some v) : ∃ V, conc e v = some V ∧ (Go.loadVar t ⟨p.1, off, none⟩).run P w = .ok V w := by
  obtain ⟨x, h1, h2⟩ := ob_some hl
  obtain ⟨g, h3, h4⟩ := ob_some h2
  have k := r.at h1 hp
  cases g with
  | true =>
    obtain ⟨n, h5, h6⟩ := ob_some h4
    obtain ⟨l, h7, h8⟩ := ob_some h6
    cases h8
    obtain ⟨L, h9, _, h10⟩ := run_loadN k h7
    exact ⟨.agg L.toArray, by simp only [conc, h9], by simp [Go.loadVar, isAgg_ok h3, size_ok h5, h10]⟩
  | false =>
    obtain ⟨V, h5, h6⟩ := cell_ok k h4
    exact ⟨V, h5, by simp [Go.loadVar, isAgg_ok h3, h6]⟩
theorem doLoad_ok (k : TmOK e tm a.tmps) (r : Rel P e h w) {t : TypeId} {x : Operand} (ho : o.op = .load t x) (hd : doLoad P tm h t x = some (.val v h')) : h' = h ∧ Val P e w a o v := by
  obtain ⟨p, h1, h2⟩ := ob_some hd
  have hx := ev_ok k r h1
  split at h2
  · obtain ⟨u, h3, h4⟩ := ob_some h2
    cases h4
    obtain ⟨q, hq, hV⟩ := conc_ptr hx
    obtain ⟨V, h5, h6⟩ := loadVar_ok r hq h3
    refine ⟨rfl, Val.mk (s := Instr.loadAt t (a.eval x)) (by simp only [execOp, ho]) h5 ?_⟩
    rw [hV]
    simp [Instr.loadAt, Instr.sureAddr, h6]
  · cases h2

/-! ### Parts of rows and texts -/
def OptOK (e : Env) (x : Option IV) (X : Option Value) : Prop := match x with | none => X = none | some u => ∃ V, X = some V ∧ conc e u = some V
theorem evo_ok' (k : TmOK e tm a.tmps) (r : Rel P e h w) {x : Option Operand} {v : Option IV} (hx : evo P tm x = some v) : OptOK e v (x.map a.eval) := by
  have := evo_ok k r hx
  cases v <;> exact this
theorem bound_ok {x : IV} {y i : Nat} {V : Value} (hb : bound x y = some i) (hV : conc e x = some V) : i ≤ y ∧ ∀ (y' : Nat) (code : BoundsCode), i ≤ y' → (Instr.sliceBound V y' code).run P w = .ok i w := by
  unfold bound at hb
  split at hb
  · rename_i k n
    split at hb
    · rename_i hle
      cases hb
      simp only [conc] at hV; cases hV
      refine ⟨by simpa [Nat.ble_eq] using hle, fun y' code hy => ?_⟩
      have := run_sliceBound (P := P) w k (i : Int) y' code (by omega) (by omega)
      simpa using this
    · cases hb
  · cases hb
theorem sliceBounds_two {b : Bool} {len cap y d l hh : Nat} {lo hi : Option IV} {LO HI : Option Value} (hl : OptOK e lo LO) (hi' : OptOK e hi HI)
    (h1 : optBound hi y len = some hh) (h2 : optBound lo hh 0 = some l) (hy : y ≤ cap) : (Instr.sliceBounds b len cap LO HI none).run P w = .ok (l, hh, cap) w := by
  unfold Instr.sliceBounds
  cases hi with
  | none =>
    have hi'' : HI = none := hi'
    subst hi''
    cases h1
    cases lo with
    | none => have hl' : LO = none := hl; subst hl'; cases h2; simp
    | some u =>
      obtain ⟨V, rfl, hV⟩ := hl
      obtain ⟨h3, h4⟩ := bound_ok (P := P) (w := w) (show bound u len = some l from h2) hV
      simp [h4 len _ h3]
  | some uh =>
    obtain ⟨VH, rfl, hVH⟩ := hi'
    obtain ⟨h5, h6⟩ := bound_ok (P := P) (w := w) (show bound uh y = some hh from h1) hVH
    cases lo with
    | none => have hl' : LO = none := hl; subst hl'; cases h2; simp [h6 cap _ (by omega)]
    | some u =>
      obtain ⟨V, rfl, hV⟩ := hl
      obtain ⟨h3, h4⟩ := bound_ok (P := P) (w := w) (show bound u hh = some l from h2) hV
      simp [h6 cap _ (by omega), h4 hh _ h3]
theorem sliceBounds_three {b : Bool} {len cap y l hh m : Nat} {lo : Option IV} {hi mx : IV} {LO HI MX : Option Value} (hl : OptOK e lo LO) (hi' : OptOK e (some hi) HI) (hm' : OptOK e (some mx) MX)
    (h0 : bound mx y = some m) (h1 : bound hi m = some hh) (h2 : optBound lo hh 0 = some l) (hy : y ≤ cap) : (Instr.sliceBounds b len cap LO HI MX).run P w = .ok (l, hh, m) w := by
  unfold Instr.sliceBounds
  obtain ⟨VM, rfl, hVM⟩ := hm'
  obtain ⟨VH, rfl, hVH⟩ := hi'
  obtain ⟨h7, h8⟩ := bound_ok (P := P) (w := w) h0 hVM
  obtain ⟨h5, h6⟩ := bound_ok (P := P) (w := w) h1 hVH
  cases lo with
  | none => have hl' : LO = none := hl; subst hl'; cases h2; simp [h8 cap _ (by omega), h6 m _ h5]
  | some u =>
    obtain ⟨V, rfl, hV⟩ := hl
    obtain ⟨h3, h4⟩ := bound_ok (P := P) (w := w) (show bound u hh = some l from h2) hV
    simp [h8 cap _ (by omega), h6 m _ h5, h4 hh _ h3]
theorem bounds_le {lo hi : Option IV} {y len l hh : Nat} (h1 : optBound hi y len = some hh) (h2 : optBound lo hh 0 = some l) (hlen : len ≤ y) : l ≤ hh ∧ hh ≤ y := by
  have hb : ∀ {x : IV} {y i : Nat}, bound x y = some i → i ≤ y := fun {x y i} hx => by
    unfold bound at hx
    split at hx
    · split at hx
      · rename_i hle; cases hx; simpa [Nat.ble_eq] using hle
      · cases hx
    · cases hx
  constructor
  · cases lo with
    | none => cases h2; omega
    | some u => exact hb h2
  · cases hi with
    | none => cases h1; exact hlen
    | some u => exact hb h1
theorem bound_le {x : IV} {y i : Nat} (hx : bound x y = some i) : i ≤ y := by
  unfold bound at hx
  split at hx
  · split at hx
    · rename_i hle; cases hx; simpa [Nat.ble_eq] using hle
    · cases hx
  · cases hx
theorem exactD_some {b o l c : Nat} (hx : exactD b o l c = some v) : v = .slice b o l c ∧ c ≠ loose := by
  unfold exactD at hx
  split at hx
  · rename_i hlt; cases hx; exact ⟨rfl, by have := Nat.blt_eq.mp hlt; omega⟩
  · cases hx
theorem begins_eq (m l o sz : Nat) : begins m l o sz = if m = l then o else o + l * sz := by
  unfold begins
  split
  · rename_i hb; rw [if_pos (Nat.eq_of_beq_eq_true hb)]
  · rename_i hb; rw [if_neg (fun he => by subst he; simp at hb)]
theorem run_slice_slice {t el : TypeId} {A : Option Addr} {len cap l hh m sz : Nat} {LO HI MX : Option Value} (hu : P.underlying t = some (.slice el)) (hb : (Instr.sliceBounds true len cap LO HI MX).run P w = .ok (l, hh, m) w) (hs : size P el = some sz) :
    (Instr.sliceAt t (.slice A len cap) LO HI MX).run P w = .ok (.slice (if m = l then A else A.map (·.add (l * sz))) (hh - l) (m - l)) w := by
  simp [Instr.sliceAt, Instr.slice, run_underlying hu, hb, size_ok hs]
theorem conc_exact {b o l c : Nat} {p : Nat × (Nat → Nat)} (hp : e b = some p) (hc : c ≠ loose) : conc e (.slice b o l c) = some (.slice (some ⟨p.1, o, none⟩) l c) := by
  simp only [conc, hp, if_neg hc]
theorem piece (p m l o sz : Nat) : (if m = l then some (⟨p, o, none⟩ : Addr) else (some (⟨p, o, none⟩ : Addr)).map (·.add (l * sz))) = some ⟨p, begins m l o sz, none⟩ := by
  rw [begins_eq]
  split
  · rfl
  · simp [add_at]
theorem extract_ba (s : List UInt8) (l hh : Nat) : (⟨s.toArray⟩ : ByteArray).extract l hh = ⟨((s.take hh).drop l).toArray⟩ := by
  apply ByteArray.ext
  apply Array.ext'
  simp [List.drop_take]
theorem sliceD_ok (r : Rel P e h w) {t : TypeId} {x : IV} {lo hi mx : Option IV} {X : Value} {LO HI MX : Option Value} (hx : conc e x = some X) (hlo : OptOK e lo LO) (hhi : OptOK e hi HI) (hmx : OptOK e mx MX)
    (hd : sliceD P h t x lo hi mx = some v) : ∃ V, conc e v = some V ∧ (Instr.sliceAt t X LO HI MX).run P w = .ok V w := by
  obtain ⟨u, hu, h1⟩ := ob_some hd
  clear hd
  split at h1
  · rename_i s
    simp only [conc] at hx; cases hx
    cases mx with
    | some m => cases h1
    | none =>
      have hmx' : MX = none := hmx
      subst hmx'
      obtain ⟨hh, h2, h3⟩ := ob_some h1
      obtain ⟨l, h4, h5⟩ := ob_some h3
      cases h5
      have hb := sliceBounds_two (P := P) (w := w) (b := false) (d := 0) hlo hhi h2 h4 (Nat.le_refl _)
      refine ⟨_, rfl, ?_⟩
      simp only [Instr.sliceAt, Instr.slice, Sem.run_bind, run_underlying hu, Result.andThen_ok, size_ba, hb]
      simp [extract_ba, hb]
  · rename_i el b off len cap
    obtain ⟨sz, hs, h2⟩ := ob_some h1
    obtain ⟨p, hp, rfl⟩ := conc_slice hx
    split at h2
    · rename_i hcap
      have hcap' : cap = loose := Nat.eq_of_beq_eq_true hcap
      obtain ⟨blk, hblk, h3⟩ := ob_some h2
      have kb := r.at hblk hp
      split at h3
      · rename_i e' n z tr md
        split at h3
        · rename_i c1 c2 c3
          have hmd : md = 1 := Nat.eq_of_beq_eq_true c1
          have hel : e' = el := Nat.eq_of_beq_eq_true c2
          have hn : off + len * sz ≤ n := Nat.ble_eq.mp c3
          subst hmd; subst hel
          obtain ⟨cur, t', fr, hh0, kt, k1, k2, k3, k4⟩ := kb
          obtain ⟨i, C, hi', hpos, hsz, hmax, hp2⟩ := k4 rfl
          obtain ⟨i2, hi2, hsz2⟩ := size_info hs
          rw [hi'] at hi2; cases hi2
          rw [hsz2] at hpos hsz hp2
          have hlenC : len ≤ C - off / sz := by
            have h5 : off + len * sz ≤ C * sz := by omega
            have h6 : (off + len * sz) / sz ≤ C := by
              have := Nat.div_le_div_right (c := sz) h5
              rwa [Nat.mul_div_cancel _ hpos] at this
            rw [Nat.add_mul_div_right _ _ hpos] at h6
            omega
          have hcc : (if cap = loose then p.2 off else cap) = C - off / sz := by rw [if_pos hcap', hp2]
          rw [hcc]
          split at h3
          · have hmx' : MX = none := hmx
            subst hmx'
            obtain ⟨hh, h4, h5⟩ := ob_some h3
            obtain ⟨l, h6, h7⟩ := ob_some h5
            have hb := sliceBounds_two (P := P) (w := w) (b := true) (d := 0) hlo hhi h4 h6 hlenC
            have hrun := run_slice_slice (A := some ⟨p.1, off, none⟩) hu hb hs
            have hle := bounds_le h4 h6 (Nat.le_refl _)
            have hval : (l = 0 ∨ l < len) → v = .slice b (off + l * sz) (hh - l) loose → ∃ V, conc e v = some V ∧ (Instr.sliceAt t (.slice (some ⟨p.1, off, none⟩) len (C - off / sz)) LO HI none).run P w = .ok V w := by
              intro hl0 hv
              refine ⟨_, ?_, hrun⟩
              rw [hv]
              simp only [conc, hp, if_true]
              rw [piece, begins_eq]
              have ho : (if C - off / sz = l then off else off + l * sz) = off + l * sz := by
                split
                · rename_i he
                  rcases hl0 with h0 | h0
                  · subst h0; simp
                  · omega
                · rfl
              rw [ho, hp2, Nat.add_mul_div_right _ _ hpos, Nat.sub_add_eq]
            split at h7
            · rename_i hl0
              cases h7
              exact hval (.inl (Nat.eq_of_beq_eq_true hl0)) rfl
            · rename_i hl0 hl1
              cases h7
              exact hval (.inr (Nat.blt_eq.mp hl1)) rfl
            · cases h7
          · rename_i mv
            obtain ⟨m, h4, h5⟩ := ob_some h3
            cases hi with
            | none => cases h5
            | some hv =>
              obtain ⟨hh, h6, h7⟩ := ob_some h5
              obtain ⟨l, h8, h9⟩ := ob_some h7
              obtain ⟨rfl, hne⟩ := exactD_some h9
              have hb := sliceBounds_three (P := P) (w := w) (b := true) (len := len) hlo hhi hmx h4 h6 h8 hlenC
              have hrun := run_slice_slice (A := some ⟨p.1, off, none⟩) hu hb hs
              exact ⟨_, conc_exact hp hne, by rw [hrun, piece]⟩
        · cases h3
      · cases h3
    · rename_i mv hcap
      have hcap' : cap ≠ loose := fun he => by subst he; simp at hcap
      rw [if_neg hcap']
      obtain ⟨m, h4, h5⟩ := ob_some h2
      cases hi with
      | none => cases h5
      | some hv =>
        obtain ⟨hh, h6, h7⟩ := ob_some h5
        obtain ⟨l, h8, h9⟩ := ob_some h7
        obtain ⟨rfl, hne⟩ := exactD_some h9
        have hb := sliceBounds_three (P := P) (w := w) (b := true) (len := len) hlo hhi hmx h4 h6 h8 (Nat.le_refl _)
        have hrun := run_slice_slice (A := some ⟨p.1, off, none⟩) hu hb hs
        exact ⟨_, conc_exact hp hne, by rw [hrun, piece]⟩
    · rename_i hcap
      have hcap' : cap ≠ loose := fun he => by subst he; simp at hcap
      rw [if_neg hcap']
      have hmx' : MX = none := hmx
      subst hmx'
      obtain ⟨hh, h4, h5⟩ := ob_some h2
      obtain ⟨l, h6, h7⟩ := ob_some h5
      obtain ⟨rfl, hne⟩ := exactD_some h7
      have hb := sliceBounds_two (P := P) (w := w) (b := true) (d := 0) hlo hhi h4 h6 (Nat.le_refl _)
      have hrun := run_slice_slice (A := some ⟨p.1, off, none⟩) hu hb hs
      exact ⟨_, conc_exact hp hne, by rw [hrun, piece]⟩
  · rename_i el
    simp only [conc] at hx; cases hx
    obtain ⟨sz, hs, h2⟩ := ob_some h1
    have hz : ∀ {l hh m : Nat} {MX : Option Value}, l ≤ hh → hh ≤ m → m ≤ 0 → (Instr.sliceBounds true 0 0 LO HI MX).run P w = .ok (l, hh, m) w → ∃ V, conc e .nilSlice = some V ∧ (Instr.sliceAt t (.slice none 0 0) LO HI MX).run P w = .ok V w := by
      intro l hh m MX q1 q2 q3 hb
      have hrun := run_slice_slice (A := none) hu hb hs
      refine ⟨_, rfl, ?_⟩
      rw [hrun]
      have e1 : m = 0 := by omega
      have e2 : hh = 0 := by omega
      have e3 : l = 0 := by omega
      subst e1; subst e2; subst e3; rfl
    cases mx with
    | none =>
      have hmx' : MX = none := hmx
      subst hmx'
      obtain ⟨hh, h4, h5⟩ := ob_some h2
      obtain ⟨l, h6, h7⟩ := ob_some h5
      cases h7
      have hle := bounds_le h4 h6 (Nat.le_refl _)
      exact hz hle.1 hle.2 (Nat.le_refl _) (sliceBounds_two (P := P) (w := w) (b := true) (d := 0) hlo hhi h4 h6 (Nat.le_refl _))
    | some mv =>
      cases hi with
      | none => cases h2
      | some hv =>
        obtain ⟨m, h4, h5⟩ := ob_some h2
        obtain ⟨hh, h6, h7⟩ := ob_some h5
        obtain ⟨l, h8, h9⟩ := ob_some h7
        cases h9
        have hle := bounds_le (hi := some hv) (len := 0) h6 h8 (Nat.zero_le _)
        exact hz hle.1 hle.2 (bound_le h4) (sliceBounds_three (P := P) (w := w) (b := true) (len := 0) hlo hhi hmx h4 h6 h8 (Nat.le_refl _))
  · rename_i n el b off
    cases mx with
    | some m => cases h1
    | none =>
      have hmx' : MX = none := hmx
      subst hmx'
      obtain ⟨sz, hs, h2⟩ := ob_some h1
      obtain ⟨hh, h4, h5⟩ := ob_some h2
      obtain ⟨l, h6, h7⟩ := ob_some h5
      obtain ⟨rfl, hne⟩ := exactD_some h7
      obtain ⟨p, hp, rfl⟩ := conc_ptr hx
      have hb := sliceBounds_two (P := P) (w := w) (b := false) (d := 0) hlo hhi h4 h6 (Nat.le_refl _)
      refine ⟨_, conc_exact hp hne, ?_⟩
      simp only [Instr.sliceAt, Sem.run_bind, run_underlying hu, Result.andThen_ok, Instr.sureAddr, Sem.run_pure, hb, size_ok hs]
      rw [begins_eq]
      split <;> simp [add_at]
  · cases h1
theorem doSlice_ok (k : TmOK e tm a.tmps) (r : Rel P e h w) {t : TypeId} {x : Operand} {lo hi mx : Option Operand} (ho : o.op = .slice t x lo hi mx) (hd : doSlice P tm h t x lo hi mx = some (.val v h')) : h' = h ∧ Val P e w a o v := by
  obtain ⟨p, h1, h2⟩ := ob_some hd
  obtain ⟨l, h3, h4⟩ := ob_some h2
  obtain ⟨m, h5, h6⟩ := ob_some h4
  obtain ⟨n, h7, h8⟩ := ob_some h6
  obtain ⟨u, h9, h10⟩ := ob_some h8
  cases h10
  obtain ⟨V, h11, h12⟩ := sliceD_ok r (ev_ok k r h1) (evo_ok' k r h3) (evo_ok' k r h5) (evo_ok' k r h7) h9
  exact ⟨rfl, Val.mk (s := Instr.sliceAt t (a.eval x) (lo.map a.eval) (hi.map a.eval) (mx.map a.eval)) (by simp only [execOp, ho]) h11 h12⟩
end
end Go.Den
