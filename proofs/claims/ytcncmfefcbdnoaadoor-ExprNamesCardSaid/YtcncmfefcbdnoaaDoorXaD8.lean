import Derived.Test.YtcncmfefcbdnoaaDoorXaD7
import Derived.Laws.Tables
set_option linter.unusedVariables false
set_option linter.unusedSimpArgs false
namespace Go.Den
section
variable {P : Program} {e : Env} {h h' : H} {w : World} {tm : Tm} {a : Act} {o : Oper} {v : IV}

/-! ### Builds -/
def PairsOK (e : Env) (ps : List (Nat × IV)) (L : List (Nat × Value)) : Prop := ps.map (·.1) = L.map (·.1) ∧ concL e (ps.map (·.2)) = some (L.map (·.2))
theorem PairsOK.cons {ps : List (Nat × IV)} {L : List (Nat × Value)} {i : Nat} {v : IV} (h : PairsOK e ((i, v) :: ps) L) : ∃ V R, L = (i, V) :: R ∧ conc e v = some V ∧ PairsOK e ps R := by
  cases L with
  | nil => exact absurd h.1 (by simp)
  | cons p R =>
    obtain ⟨h1, h2⟩ := h
    simp at h1
    obtain ⟨V, R', h3, h4, h5⟩ := concL_cons h2
    simp at h5
    exact ⟨p.2, R, by rw [h1.1], by rw [h3, h5.1], h1.2, by rw [h4, h5.2]⟩
theorem evp_ok (k : TmOK e tm a.tmps) (r : Rel P e h w) : ∀ {l : List (Nat × Operand)} {ps : List (Nat × IV)}, evp P tm l = some ps → PairsOK e ps (l.map fun p => (p.1, a.eval p.2))
  | [], ps, hx => by cases hx; exact ⟨rfl, rfl⟩
  | x :: l, ps, hx => by
    obtain ⟨v, h1, h2⟩ := ob_some hx
    obtain ⟨vl, h3, h4⟩ := ob_some h2
    cases h4
    obtain ⟨q1, q2⟩ := evp_ok k r h3
    refine ⟨by simp [q1], ?_⟩
    exact concL_mk (ev_ok k r h1) q2
theorem fill_fold : ∀ (V : List Value) (off k : Nat) (A : Array Value), off + k + V.length ≤ A.size →
    ((V.zipIdx k).foldl (fun cs (p : Value × Nat) => cs.setIfInBounds (off + p.2) p.1) A).toList = A.toList.take (off + k) ++ V ++ A.toList.drop (off + k + V.length)
  | [], off, k, A, _ => by simp
  | v :: r, off, k, A, hl => by
    simp only [List.zipIdx_cons, List.foldl_cons]
    have hl' : off + k + (r.length + 1) ≤ A.size := hl
    rw [fill_fold r off (k + 1) _ (by simp; omega)]
    have hlt : off + k < A.toList.length := by simp; omega
    simp only [Array.toList_setIfInBounds]
    rw [show off + (k + 1) = off + k + 1 by omega, List.drop_set_of_lt (by omega), List.take_succ_eq_append_getElem (by simpa using hlt), List.take_set_of_le (Nat.le_refl _)]
    simp [Nat.add_assoc, Nat.add_comm, Nat.add_left_comm]
theorem fillL_some : ∀ (cs : List IV) (n : Nat) (v : IV) (vs : List IV) {cs' : List IV}, fillL cs n (v :: vs) = some cs' → n + (vs.length + 1) ≤ cs.length ∧ cs' = cs.take n ++ (v :: vs) ++ cs.drop (n + (vs.length + 1))
  | [], n, v, vs, cs', hf => by cases hf
  | c :: cs, 0, v, vs, cs', hf => by
    have hf' : ob (fillL cs 0 vs) (fun l => some (v :: l)) = some cs' := hf
    obtain ⟨l, h1, h2⟩ := ob_some hf'
    cases h2
    cases vs with
    | nil =>
      have : fillL cs 0 [] = some cs := by cases cs <;> rfl
      rw [this] at h1; cases h1
      simp
    | cons x xs =>
      obtain ⟨h3, h4⟩ := fillL_some cs 0 x xs h1
      subst h4
      simp at h3 ⊢
      omega
  | c :: cs, n + 1, v, vs, cs', hf => by
    have hf' : ob (fillL cs n (v :: vs)) (fun l => some (c :: l)) = some cs' := hf
    obtain ⟨l, h1, h2⟩ := ob_some hf'
    cases h2
    obtain ⟨h3, h4⟩ := fillL_some cs n v vs h1
    subst h4
    have : n + 1 + (vs.length + 1) = n + (vs.length + 1) + 1 := by omega
    rw [this]
    exact ⟨by simp; omega, by simp⟩
theorem fill_step {cs cs' : List IV} {L : List Value} {off n : Nat} {v : IV} {V : Value} (hc : concL e cs = some L) (hv : conc e v = some V) (hn : v.cells.length = n + 1) (hf : fillL cs off v.cells = some cs') :
    ∃ L', (V.cells.size = n + 1 ∧ off + V.cells.size ≤ L.length) ∧ V.cells.zipIdx.foldl (fun cs (p : Value × Nat) => cs.setIfInBounds (off + p.2) p.1) L.toArray = L'.toArray ∧ concL e cs' = some L' := by
  have hcv := conc_cells hv
  cases hvc : v.cells with
  | nil => rw [hvc] at hn; simp at hn
  | cons x xs =>
    rw [hvc] at hf hcv hn
    obtain ⟨h1, h2⟩ := fillL_some cs off x xs hf
    have hlen := concL_length hcv
    have hlen2 := concL_length hc
    have hsz : V.cells.size = n + 1 := by rw [← Array.length_toList, hlen, hn]
    have hxs : xs.length = n := by simpa using hn
    refine ⟨L.take off ++ V.cells.toList ++ L.drop (off + V.cells.toList.length), ⟨hsz, by omega⟩, ?_, ?_⟩
    · apply Array.ext'
      have := fill_fold V.cells.toList off 0 L.toArray (by simp; omega)
      simp only [Nat.add_zero] at this
      rw [← this]
      congr 1
      rw [← Array.foldl_toList]
      simp
    · subst h2
      refine concL_append (concL_append (concL_take off hc) hcv) ?_
      have : off + V.cells.toList.length = off + (xs.length + 1) := by rw [hlen]; rfl
      rw [this]
      exact concL_drop _ hc
theorem fill_cons {place : Nat → Option (Nat × Nat)} {cells : Array Value} {i off n : Nat} {V : Value} {R : List (Nat × Value)} (hp : place i = some (off, n)) (h1 : V.cells.size = n) (h2 : off + V.cells.size ≤ cells.size) :
    Instr.fill place cells ((i, V) :: R) = Instr.fill place (V.cells.zipIdx.foldl (fun cs (p : Value × Nat) => cs.setIfInBounds (off + p.2) p.1) cells) R := by
  have h3 : ¬ (off + V.cells.size > cells.size) := by omega
  simp only [Instr.fill, hp, h1]
  simp
  intro hc
  rw [h1] at h2
  omega
theorem buildArr_ok {sz : Nat} : ∀ {ps : List (Nat × IV)} {R : List (Nat × Value)} {cs cs' : List IV} {L : List Value}, buildArr sz ps cs = some cs' → PairsOK e ps R → concL e cs = some L →
    ∃ L', Instr.fill (fun i => some (i * sz, sz)) L.toArray R = some L'.toArray ∧ concL e cs' = some L'
  | [], R, cs, cs', L, hb, hp, hc => by
    cases hb
    cases R with
    | nil => exact ⟨L, rfl, hc⟩
    | cons q r => exact absurd hp.1 (by simp)
  | (i, v) :: ps, R, cs, cs', L, hb, hp, hc => by
    obtain ⟨V, R', rfl, hv, hp'⟩ := hp.cons
    cases sz with
    | zero => cases hb
    | succ n =>
      have hb' : @Bool.rec (fun _ => Option (List IV)) none (ob (fillL cs (i * (n + 1)) v.cells) (buildArr (n + 1) ps)) (Nat.beq v.cells.length (n + 1)) = some cs' := hb
      cases hq : Nat.beq v.cells.length (n + 1) with
      | false => rw [hq] at hb'; cases hb'
      | true =>
        rw [hq] at hb'
        obtain ⟨c1, h1, h2⟩ := ob_some hb'
        obtain ⟨L1, ⟨h3, h4⟩, h5, h6⟩ := fill_step hc hv (Nat.eq_of_beq_eq_true hq) h1
        obtain ⟨L2, h7, h8⟩ := buildArr_ok h2 hp' h6
        exact ⟨L2, by rw [fill_cons (by rfl) h3 (by simpa using h4), h5, h7], h8⟩
theorem places_ok : ∀ {l : List Field}, sizesD P l = true → ∃ places, l.mapM (fun f => (P.info? f.type).map fun i => (f.offset, i.size)) = some places ∧ ∀ (i : Nat) (f : Field) (n : Nat), l[i]? = some f → size P f.type = some n → places[i]? = some (f.offset, n)
  | [], _ => ⟨[], rfl, by simp⟩
  | f :: l, hs => by
    have hs' : @Option.rec Nat (fun _ => Bool) false (fun _ => sizesD P l) (size P f.type) = true := hs
    cases hn : size P f.type with
    | none => rw [hn] at hs'; cases hs'
    | some n =>
      rw [hn] at hs'
      obtain ⟨pl, h1, h2⟩ := places_ok hs'
      obtain ⟨i, hi, hin⟩ := size_info hn
      refine ⟨(f.offset, n) :: pl, by simp [List.mapM_cons, hi, h1, hin], fun j g m hj hm => ?_⟩
      cases j with
      | zero => simp at hj; subst hj; rw [hn] at hm; cases hm; rfl
      | succ j => simpa using h2 j g m (by simpa using hj) hm
theorem buildStruct_ok {fs : Array Field} {places : List (Nat × Nat)} (hpl : ∀ (i : Nat) (f : Field) (n : Nat), fs[i]? = some f → size P f.type = some n → places[i]? = some (f.offset, n)) :
    ∀ {ps : List (Nat × IV)} {R : List (Nat × Value)} {cs cs' : List IV} {L : List Value}, buildStruct P fs ps cs = some cs' → PairsOK e ps R → concL e cs = some L →
    ∃ L', Instr.fill (places.toArray[·]?) L.toArray R = some L'.toArray ∧ concL e cs' = some L'
  | [], R, cs, cs', L, hb, hp, hc => by
    cases hb
    cases R with
    | nil => exact ⟨L, rfl, hc⟩
    | cons q r => exact absurd hp.1 (by simp)
  | (i, v) :: ps, R, cs, cs', L, hb, hp, hc => by
    obtain ⟨V, R', rfl, hv, hp'⟩ := hp.cons
    obtain ⟨f, hf, hb1⟩ := ob_some hb
    obtain ⟨n, hn, hb2⟩ := ob_some hb1
    cases n with
    | zero => cases hb2
    | succ n =>
      have hb' : @Bool.rec (fun _ => Option (List IV)) none (ob (fillL cs f.offset v.cells) (buildStruct P fs ps)) (Nat.beq v.cells.length (n + 1)) = some cs' := hb2
      cases hq : Nat.beq v.cells.length (n + 1) with
      | false => rw [hq] at hb'; cases hb'
      | true =>
        rw [hq] at hb'
        obtain ⟨c1, h1, h2⟩ := ob_some hb'
        obtain ⟨L1, ⟨h3, h4⟩, h5, h6⟩ := fill_step hc hv (Nat.eq_of_beq_eq_true hq) h1
        obtain ⟨L2, h7, h8⟩ := buildStruct_ok hpl h2 hp' h6
        exact ⟨L2, by rw [fill_cons (place := (places.toArray[·]?)) (by simpa using hpl i f (n + 1) hf hn) h3 (by simpa using h4), h5, h7], h8⟩
theorem doBuild_ok (k : TmOK e tm a.tmps) (r : Rel P e h w) {t : TypeId} {parts : Array (Nat × Operand)} (ho : o.op = .build t parts) (hd : doBuild P tm h t parts = some (.val v h')) : h' = h ∧ Val P e w a o v := by
  obtain ⟨z, h1, h2⟩ := ob_some hd
  obtain ⟨ps, h3, h4⟩ := ob_some h2
  obtain ⟨i, Z, hi, hZ, hzz⟩ := zero_ok h1
  have hz := conc_cells (ofValue_ok (e := e) hzz)
  have hps := evp_ok k r h3
  have hE : execOp a.eval o = (do pure (Next.value (← Instr.build t (parts.map fun (i, x) => (i, a.eval x))))) := by simp only [execOp, ho]
  have hpl : (parts.map fun (i, x) => (i, a.eval x)).toList = parts.toList.map fun p => (p.1, a.eval p.2) := by simp
  split at h4
  · rename_i fs hu
    cases hs : sizesD P fs.toList with
    | false => rw [hs] at h4; cases h4
    | true =>
      rw [hs] at h4
      obtain ⟨cs, h5, h6⟩ := ob_some h4
      cases h6
      obtain ⟨places, h7, h8⟩ := places_ok hs
      obtain ⟨L', h9, h10⟩ := buildStruct_ok (e := e) (fun i f n hf hn => h8 i f n (by simpa using hf) hn) h5 hps hz
      refine ⟨rfl, Val.mk hE (V := .agg L'.toArray) (by simp only [conc, h10]) (run_build w t _ _ ?_)⟩
      rw [hpl]
      unfold Program.built
      simp only [hi, hu, hZ, h7]
      simpa using h9
  · rename_i n el hu
    obtain ⟨sz, h5, h6⟩ := ob_some h4
    obtain ⟨cs, h7, h8⟩ := ob_some h6
    cases h8
    obtain ⟨j, hj, hjs⟩ := size_info h5
    obtain ⟨L', h9, h10⟩ := buildArr_ok (e := e) h7 hps hz
    refine ⟨rfl, Val.mk hE (V := .agg L'.toArray) (by simp only [conc, h10]) (run_build w t _ _ ?_)⟩
    rw [hpl]
    unfold Program.built
    simp only [hi, hu, hZ, hj, hjs]
    simpa using h9
  · cases h4
end
end Go.Den
