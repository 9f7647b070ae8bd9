import Derived.Test.YtcncmfefcbdnoaaDoorXaD9
import Derived.Laws.AppendOwn
set_option linter.unusedVariables false
set_option linter.unusedSimpArgs false
namespace Go.Den
/-- The operation makes one block, and touches nothing. -/
def Alloc (P : Program) (e : Env) (w : World) (a : Act) (o : Oper) (id : Nat) (v : IV) (b : Blk) : Prop :=
  ∃ (c : Nat → Nat) (V : Value) (w' : World) (obj : Obj), (execOp a.eval o).run P w = .ok (.value V) w' ∧ w'.heap = w.heap.push obj ∧ w'.os = w.os ∧ w'.tape = w.tape ∧ w'.output = w.output ∧
    ∀ e1 : Env, e.le e1 → e1 id = some (w.heap.size, c) → conc e1 v = some V ∧ BlkOK P e1 b (w.heap.size, c) w'
section
variable {P : Program} {e : Env} {h h0 h' : H} {w : World} {tm : Tm} {a : Act} {o : Oper} {v : IV}

/-! ### Rows of lists -/
theorem listT_get : ∀ (l : List IV) (i : Nat) (t : T IV) (j : Nat), (listT l i t).get j = if i ≤ j ∧ j < i + l.length then l[j - i]? else t.get j
  | [], i, t, j => by
    have : listT [] i t = t := rfl
    rw [this, if_neg (by simp)]
  | v :: l, i, t, j => by
    have : listT (v :: l) i t = listT l (i + 1) (t.put i v) := rfl
    rw [this, listT_get l (i + 1) _ j, get_put]
    by_cases h1 : i + 1 ≤ j ∧ j < i + 1 + l.length
    · rw [if_pos h1, if_pos (by simp; omega)]
      have : j - i = (j - (i + 1)) + 1 := by omega
      rw [this]; rfl
    · rw [if_neg h1]
      by_cases h2 : j = i
      · subst h2; rw [if_pos rfl, if_pos (by simp)]; simp
      · rw [if_neg h2, if_neg (by simp; omega)]
theorem cell_listT {t : TypeId} {n md o : Nat} {cs : List IV} (hc : (Blk.cells t n [] (listT cs 0 .nil) md).cell o = some v) : cs[o]? = some v := by
  have hc' : (match Nat.blt o n with
    | true => match (listT cs 0 .nil).get o with
      | some v => some v
      | none => ([] : List IV)[o % ([] : List IV).length]?
    | false => none) = some v := hc
  split at hc'
  · rw [listT_get] at hc'
    split at hc'
    · rename_i u hu
      split at hu
      · cases hc'; simpa using hu
      · rw [get_nil] at hu; cases hu
    · simp at hc'
  · cases hc'
/-- A new row of known cells. -/
theorem fresh_row {e1 : Env} {t : TypeId} {n : Nat} {cs : List IV} {L rest : List Value} {cur : Array Value} {fr : Nat × Nat} {p : Nat × (Nat → Nat)} {w1 : World} {md : Nat}
    (hh : w1.heap[p.1]? = some (.cells cur t fr)) (hc : concL e1 cs = some L) (hcur : cur.toList = L ++ rest) (hn : n ≤ cur.size) (hfr : ∀ o, o < cur.size → ¬ (fr.1 ≤ o ∧ o < fr.2))
    (hmd : md = 1 → ∃ i C, P.info? t = some i ∧ 0 < i.size ∧ cur.size = C * i.size ∧ C ≤ maxLen ∧ ∀ o, p.2 o = C - o / i.size) : BlkOK P e1 (.cells t n [] (listT cs 0 .nil) md) p w1 := by
  refine ⟨cur, t, fr, hh, fun _ => rfl, hn, fun _ => hfr, fun o v hv => ?_, hmd⟩
  obtain ⟨V, h1, h2⟩ := concL_get hc o v (cell_listT hv)
  refine ⟨V, h1, ?_⟩
  rw [← Array.getElem?_toList, hcur, List.getElem?_append_left (by have := (List.getElem?_eq_some_iff.1 h2).1; exact this)]
  exact h2
theorem no_frozen {n : Nat} : ∀ o, o < n → ¬ ((0, 0).1 ≤ o ∧ o < (0, 0).2) := fun o _ hh => by simp at hh
theorem doAlloc_ok {t : TypeId} (ho : o.op = .alloc t) (hd : doAlloc P tm h t = some (.val v h')) : ∃ b, h' = h.new b ∧ b.rw = true ∧ Alloc P e w a o h.next v b := by
  obtain ⟨z, h1, h2⟩ := ob_some hd
  cases h2
  obtain ⟨i, Z, hi, hZ, hz⟩ := zero_ok h1
  refine ⟨_, rfl, rfl, fun _ => 0, .pointer (some ⟨w.heap.size, 0, none⟩), { w with heap := w.heap.push (.cells Z.cells t) }, .cells Z.cells t, ?_, rfl, rfl, rfl, rfl, fun e1 hle hp => ⟨?_, ?_⟩⟩
  · simp only [execOp, ho]
    simp [Instr.alloc, run_zeroValue' hi hZ, newVar, newRow]
  · simp only [conc, hp]
  · have hc := conc_cells (ofValue_ok (e := e1) hz)
    have hlen := concL_length hc
    exact fresh_row (cur := Z.cells) (fr := (0, 0)) (rest := []) (by simp) hc (by simp) (by rw [← hlen]; simp) no_frozen (fun hh => absurd hh (by simp))
theorem doBox_ok (k : TmOK e tm a.tmps) (r : Rel P e h0 w) {t : TypeId} {x : Operand} (ho : o.op = .box t x) (hd : doBox P tm h t x = some (.val v h')) : ∃ b, h' = h.new b ∧ b.rw = true ∧ Alloc P e w a o h.next v b := by
  obtain ⟨u, h1, h2⟩ := ob_some hd
  cases h2
  have hx := ev_ok k r h1
  refine ⟨_, rfl, rfl, fun _ => 0, .pointer (some ⟨w.heap.size, 0, none⟩), { w with heap := w.heap.push (.cells (a.eval x).cells t) }, .cells (a.eval x).cells t, ?_, rfl, rfl, rfl, rfl, fun e1 hle hp => ⟨?_, ?_⟩⟩
  · simp only [execOp, ho]
    simp [Instr.box, newVar, newRow]
  · simp only [conc, hp]
  · have hc := conc_cells (conc_mono hle _ hx)
    have hlen := concL_length hc
    exact fresh_row (cur := (a.eval x).cells) (fr := (0, 0)) (rest := []) (by simp) hc (by simp) (by rw [← hlen]; simp) no_frozen (fun hh => absurd hh (by simp))
theorem doMakeMap_ok {t : TypeId} {x : Option Operand} (ho : o.op = .makeMap t x) (hd : doMakeMap tm h x = some (.val v h')) : ∃ b, h' = h.new b ∧ b.rw = true ∧ Alloc P e w a o h.next v b := by
  cases x with
  | some y => cases hd
  | none =>
    cases hd
    refine ⟨_, rfl, rfl, fun _ => 0, .map (some w.heap.size), { w with heap := w.heap.push (.map #[] 0) }, .map #[] 0, ?_, rfl, rfl, rfl, rfl, fun e1 hle hp => ⟨?_, ?_⟩⟩
    · simp only [execOp, ho]
      simp [Instr.makeMap]
    · simp only [conc, hp]
    · exact ⟨#[], 0, by simp, rfl, by simp⟩
theorem doRange_ok (k : TmOK e tm a.tmps) (r : Rel P e h0 w) {t : TypeId} {x : Operand} (ho : o.op = .range t x) (hd : doRange P tm h t x = some (.val v h')) : ∃ b, h' = h.new b ∧ b.rw = true ∧ Alloc P e w a o h.next v b := by
  obtain ⟨u, h1, h2⟩ := ob_some hd
  have hx := ev_ok k r h1
  split at h2
  · rename_i s hu
    cases h2
    simp only [conc] at hx
    refine ⟨_, rfl, rfl, fun _ => 0, .pointer (some ⟨w.heap.size, 0, none⟩), { w with heap := w.heap.push (.stringIter ⟨s.toArray⟩ 0) }, .stringIter ⟨s.toArray⟩ 0, ?_, rfl, rfl, rfl, rfl, fun e1 hle hp => ⟨?_, ?_⟩⟩
    · simp only [execOp, ho, ← Option.some.inj hx]
      simp [Instr.range, run_underlying hu]
    · simp only [conc, hp]
    · show ({ w with heap := w.heap.push (.stringIter ⟨s.toArray⟩ 0) } : World).heap[w.heap.size]? = _
      simp
  · cases h2
theorem zeros_ok {z : List IV} {Z : Array Value} (hz : concL e z = some Z.toList) : ∀ n, concL e (zeros z n) = some (Builtin.zeroCells Z n).toList
  | 0 => by
    have : zeros z 0 = [] := rfl
    rw [this]; simp [concL, Builtin.zeroCells]
  | n + 1 => by
    have h1 : zeros z (n + 1) = z ++ zeros z n := rfl
    rw [h1]
    have h2 := concL_append hz (zeros_ok hz n)
    rw [h2]
    congr 1
    apply List.ext_getElem?
    intro j
    have hsz : (n + 1) * Z.size = Z.size + n * Z.size := by rw [Nat.add_mul, Nat.one_mul, Nat.add_comm]
    simp only [Builtin.zeroCells, Array.toList_map, Array.toList_range, List.getElem?_map]
    by_cases hj : j < Z.size
    · rw [List.getElem?_append_left (by simpa using hj), List.getElem?_range (by rw [hsz]; omega)]
      simp [Nat.mod_eq_of_lt hj, hj]
    · rw [List.getElem?_append_right (by simpa using hj)]
      simp only [Array.length_toList, List.getElem?_map]
      by_cases hj2 : j < Z.size + n * Z.size
      · rw [List.getElem?_range (by omega), List.getElem?_range (by rw [hsz]; omega)]
        simp only [Option.map_some]
        rw [Nat.mod_eq_sub_mod (by omega : j ≥ Z.size)]
      · rw [List.getElem?_eq_none (by simp; omega), List.getElem?_eq_none (by simp [hsz]; omega)]
theorem madeCells_eq (Z : Array Value) (n : Nat) : madeCells Z (n * Z.size) = Builtin.zeroCells Z n := rfl
theorem doMakeSlice_ok (k : TmOK e tm a.tmps) (r : Rel P e h0 w) {t : TypeId} {x y : Operand} (ho : o.op = .makeSlice t x y) (hd : doMakeSlice P tm h t x y = some (.val v h')) : ∃ b, h' = h.new b ∧ b.rw = true ∧ Alloc P e w a o h.next v b := by
  unfold doMakeSlice at hd
  split at hd
  · rename_i el hu
    obtain ⟨l, h1, h2⟩ := ob_some hd
    obtain ⟨c, h3, h4⟩ := ob_some h2
    have hx := ev_ok k r h1
    have hy := ev_ok k r h3
    split at h4
    · rename_i kl l kc c
      split at h4
      · rename_i hl hc
        obtain ⟨i, hi, h5⟩ := ob_some h4
        obtain ⟨z, h6, h7⟩ := ob_some h5
        split at h7
        · rename_i hby hzs
          cases h7
          obtain ⟨i', Z, hi', hZ, hz⟩ := zero_ok h6
          rw [hi] at hi'; cases hi'
          have hl' := Nat.ble_eq.mp hl
          have hc' := Nat.ble_eq.mp hc
          have hby' := Nat.ble_eq.mp hby
          have hzs' := Nat.eq_of_beq_eq_true hzs
          simp only [conc] at hx hy
          have hmul : i.bytes * c ≤ 1000000 * 1000000 := Nat.mul_le_mul hby' hc'
          have hmul2 : (i.bytes : Int) * (c : Int) ≤ 281474976710656 := by
            have h0 : ((i.bytes * c : Nat) : Int) ≤ 1000000000000 := by omega
            rw [Int.natCast_mul] at h0
            omega
          have hrun := run_make (P := P) w t el i Z hu hi hZ kl kc l c (by omega) (by omega) hmul2 (by omega)
          simp only [Int.toNat_natCast] at hrun
          refine ⟨_, rfl, rfl, fun _ => 0, .slice (some ⟨w.heap.size, 0, none⟩) l c, w.alloc (.cells (madeCells Z.cells (c * i.size)) el), .cells (madeCells Z.cells (c * i.size)) el, ?_, rfl, rfl, rfl, rfl, fun e1 hle hp => ⟨?_, ?_⟩⟩
          · simp only [execOp, ho, ← Option.some.inj hx, ← Option.some.inj hy]
            simp only [Sem.run_bind]
            have hrun' : (Instr.makeSlice t (.int kl (Int.ofNat l)) (.int kc (Int.ofNat c))).run P w = _ := hrun
            rw [hrun']
            rfl
          · exact conc_exact hp (by unfold loose; omega)
          · have hcz := conc_cells (ofValue_ok (e := e1) hz)
            have hlen := concL_length hcz
            have hZs : Z.cells.size = i.size := by rw [← Array.length_toList, hlen, hzs']
            refine ⟨madeCells Z.cells (c * i.size), el, (0, 0), heap_alloc_new w _, fun _ => rfl, by simp [madeCells], fun _ => no_frozen, fun o u hu => ?_, fun hh => absurd hh (by simp)⟩
            have hu' : (match Nat.blt o (c * i.size) with
              | true => match (T.nil : T IV).get o with
                | some v => some v
                | none => z.cells[o % z.cells.length]?
              | false => none) = some u := hu
            rw [get_nil] at hu'
            split at hu'
            · rename_i hlt
              have hlt' : o < c * i.size := Nat.blt_eq.mp hlt
              simp only at hu'
              obtain ⟨U, h8, h9⟩ := concL_get hcz _ u hu'
              refine ⟨U, h8, ?_⟩
              simp only [madeCells]
              rw [Array.getElem?_map, Array.getElem?_range, if_pos hlt']
              simp only [Option.map_some]
              rw [hzs', ← hZs] at h9
              have hpos : 0 < Z.cells.size := by
                rcases Nat.eq_zero_or_pos Z.cells.size with hz0 | hz0
                · rw [hZs] at hz0; rw [hz0] at hlt'; simp at hlt'
                · exact hz0
              have : o % Z.cells.size < Z.cells.size := Nat.mod_lt _ hpos
              simp only [Array.getElem?_toList] at h9
              rw [getElem!_pos Z.cells _ this]
              rw [← h9, getElem?_pos Z.cells _ this]
            · cases hu'
        · cases h7
      · cases h4
    · cases h4
  · cases hd
theorem fold_size {off : Nat} : ∀ (l : List (Value × Nat)) (A : Array Value), (l.foldl (fun cs (p : Value × Nat) => cs.setIfInBounds (off + p.2) p.1) A).size = A.size
  | [], A => rfl
  | p :: l, A => by simp only [List.foldl_cons]; rw [fold_size l]; simp
theorem fill_size {place : Nat → Option (Nat × Nat)} : ∀ {R : List (Nat × Value)} {A B : Array Value}, Instr.fill place A R = some B → B.size = A.size
  | [], A, B, hf => by simp only [Instr.fill] at hf; cases hf; rfl
  | (i, V) :: R, A, B, hf => by
    simp only [Instr.fill] at hf
    split at hf
    · cases hf
    · split at hf
      · cases hf
      · rw [fill_size hf]
        rw [← Array.foldl_toList]
        exact fold_size _ _
theorem modify_push {α : Type} (A : Array α) (x : α) (f : α → α) : (A.push x).modify A.size f = A.push (f x) := by
  apply Array.ext'
  simp [Array.modify, Array.modifyM, Id.run]
  show ((A.push x).set A.size (f x) (by simp)).toList = _
  simp
theorem doBuildSlice_ok (k : TmOK e tm a.tmps) (r : Rel P e h0 w) {t : TypeId} {n : Nat} {parts : Array (Nat × Operand)} (ho : o.op = .buildSlice t n parts) (hd : doBuildSlice P tm h t n parts = some (.val v h')) : ∃ b, h' = h.new b ∧ b.rw = true ∧ Alloc P e w a o h.next v b := by
  unfold doBuildSlice at hd
  split at hd
  · rename_i el hu
    obtain ⟨sz, h1, h2⟩ := ob_some hd
    obtain ⟨z, h3, h4⟩ := ob_some h2
    obtain ⟨ps, h5, h6⟩ := ob_some h4
    obtain ⟨cs, h7, h8⟩ := ob_some h6
    split at h8
    · rename_i c1 c2 c3
      cases h8
      obtain ⟨i, Z, hi, hZ, hz⟩ := zero_ok h3
      have hle := Nat.ble_eq.mp c1
      have hzs := Nat.eq_of_beq_eq_true c2
      have hlo := Nat.blt_eq.mp c3
      have hcz := conc_cells (ofValue_ok (e := e) hz)
      have hlen := concL_length hcz
      have hZs : Z.cells.size = sz := by rw [← Array.length_toList, hlen, hzs]
      have hps := evp_ok k r h5
      obtain ⟨L', h9, h10⟩ := buildArr_ok (e := e) h7 hps (zeros_ok hcz n)
      have hpl : (parts.map fun (i, x) => (i, a.eval x)).toList = parts.toList.map fun p => (p.1, a.eval p.2) := by simp
      have hstart : ∀ w1 : World, ((if n * sz = 0 then pure #[] else do pure (← zeroValue el).cells : Sem (Array Value))).run P w1 = .ok (if n * sz = 0 then #[] else Z.cells) w1 := by
        intro w1
        by_cases h0 : n * sz = 0
        · simp [h0]
        · simp [h0, run_zeroValue' hi hZ]
      have hcells : (Array.range (n * sz)).map ((if n * sz = 0 then #[] else Z.cells : Array Value)[· % (if n * sz = 0 then #[] else Z.cells : Array Value).size]!) = Builtin.zeroCells Z.cells n := by
        by_cases h0 : n * sz = 0
        · rw [if_pos h0, h0]
          unfold Builtin.zeroCells
          rw [hZs, h0]
          simp
        · rw [if_neg h0]
          unfold Builtin.zeroCells
          rw [hZs]
      have hL : L'.length = n * sz := by
        have e1 := fill_size h9
        have e2 : (Builtin.zeroCells Z.cells n).toList.toArray.size = n * Z.cells.size := by simp [Builtin.zeroCells]
        rw [e2, hZs] at e1
        simpa using e1
      refine ⟨_, rfl, rfl, fun _ => 0, .slice (some ⟨w.heap.size, 0, none⟩) n n, w.alloc (.cells L'.toArray el), .cells L'.toArray el, ?_, rfl, rfl, rfl, rfl, fun e1 hle1 hp => ⟨?_, ?_⟩⟩
      · simp only [execOp, ho]
        have hno : ¬ (n * sz > 2 ^ 24) := by omega
        have hfill : Instr.fill (fun i => some (i * sz, sz)) (Builtin.zeroCells Z.cells n) (List.map (fun x => (x.1, a.eval x.2)) parts.toList) = some L'.toArray := by
          simpa using h9
        have hb : (Instr.buildSlice t n (parts.map fun (i, x) => (i, a.eval x))).run P w = .ok (.slice (some ⟨w.heap.size, 0, none⟩) n n) (w.alloc (.cells L'.toArray el)) := by
          rw [← hcells] at hfill
          by_cases h0 : n * sz = 0
          · rw [if_pos h0, h0] at hfill
            have hr0 : Array.range 0 = #[] := rfl
            rw [hr0, Array.map_empty] at hfill
            simp [Instr.buildSlice, run_underlying hu, size_ok h1, h0, newRow, hfill, hr0]
          · rw [if_neg h0] at hfill
            simp [Instr.buildSlice, run_underlying hu, size_ok h1, h0, newRow, hfill, run_zeroValue' hi hZ, (show ¬ 16777216 < n * sz by omega)]
        simp only [Sem.run_bind]
        rw [hb]
        rfl
      · exact conc_exact hp (by omega)
      · have h11 := concL_mono hle1 _ h10
        exact fresh_row (cur := L'.toArray) (fr := (0, 0)) (rest := []) (heap_alloc_new w _) h11 (by simp) (by simp [hL]) no_frozen (fun hh => absurd hh (by simp))
    · cases h8
  · cases hd
theorem ofBytes_ok : ∀ (s : List UInt8), concL e (ofBytes s) = some (s.map fun b => Value.int .u8 b.toNat)
  | [] => rfl
  | b :: s => concL_mk rfl (ofBytes_ok s)
theorem doConvert_row_ok (k : TmOK e tm a.tmps) (r : Rel P e h0 w) {s d : TypeId} {x : Operand} (hm : makesRow P d = true) (ho : o.op = .convert s d x) (hd : doConvert P tm h s d x = some (.val v h')) : ∃ b, h' = h.new b ∧ b.rw = true ∧ Alloc P e w a o h.next v b := by
  obtain ⟨p, h1, h2⟩ := ob_some hd
  obtain ⟨q, h3, h4⟩ := ob_some h2
  have hx := ev_ok k r h1
  obtain ⟨u, hu, h5⟩ := ob_some h3
  split at h5
  · simp [makesRow, hu] at hm
  · simp [makesRow, hu] at hm
  · simp [makesRow, hu] at hm
  · rename_i el ss
    split at h5
    · rename_i hs hel
      obtain ⟨sz, h6, h7⟩ := ob_some h5
      cases hb1 : Nat.beq sz 1 with
      | false => rw [hb1] at h7; cases h7
      | true =>
        cases hb2 : Nat.ble ss.length 9223372036854775807 with
        | false => rw [hb1, hb2] at h7; cases h7
        | true =>
          rw [hb1, hb2] at h7
          cases h7; cases h4
          have hsz := Nat.eq_of_beq_eq_true hb1
          subst hsz
          have hmax : ss.length ≤ maxLen := by have := Nat.ble_eq.mp hb2; simp only [maxLen]; omega
          obtain ⟨i, hi, hi1⟩ := size_info h6
          simp only [conc] at hx
          have hge := grownCap_ge w ss.length 0 el
          have hcm := grownCap_le_maxLen w ss.length 0 el hmax
          have hcur : ∃ cur : Array Value, cur = (⟨ss.toArray⟩ : ByteArray).data.map (fun b => Value.int .u8 b.toNat) ++ Array.replicate (grownCap w ss.length 0 el - ss.length) (Value.int .u8 0) := ⟨_, rfl⟩
          obtain ⟨cur, hcur⟩ := hcur
          have hcs : cur.size = grownCap w ss.length 0 el := by rw [hcur]; simp; omega
          refine ⟨_, rfl, rfl, fun o => grownCap w ss.length 0 el - o / i.size, .slice (some ⟨w.heap.size, 0, none⟩) ss.length (grownCap w ss.length 0 el), { w.drew with heap := w.heap.push (.cells cur el (cur.size, cur.size + 1)) }, .cells cur el (cur.size, cur.size + 1), ?_, rfl, rfl, rfl, rfl, fun e1 hle1 hp => ⟨?_, ?_⟩⟩
          · simp only [execOp, ho, ← Option.some.inj hx]
            have hb : (convert s d (.string ⟨ss.toArray⟩)).run P w = .ok (.slice (some ⟨w.heap.size, 0, none⟩) ss.length (grownCap w ss.length 0 el)) { w.drew with heap := w.heap.push (.cells cur el (cur.size, cur.size + 1)) } := by
              simp only [convert, Sem.run_bind, run_underlying hs, run_underlying hu, run_underlying hel, Result.andThen_ok, Conv.stringToBytes, run_choose, size_ba]
              simp only [Question.forced, Bool.false_eq_true, if_false, Result.andThen_ok, newRow, Sem.run_bind, run_newObj, Sem.run_pure, markStringish, run_shape]
              have hg : (Question.appendCap ss.length 0 el).cut (w.tape w.drawn (.appendCap ss.length 0 el)) = grownCap w ss.length 0 el := rfl
              rw [hg, ← hcur]
              simp [World.shape?, World.freeze, modify_push]
              exact ⟨rfl, rfl⟩
            simp only [Sem.run_bind]
            rw [hb]
            rfl
          · simp only [conc, hp, if_true]
            simp
          · refine fresh_row (cur := cur) (fr := (cur.size, cur.size + 1)) (L := ss.map fun b => Value.int .u8 b.toNat) (rest := List.replicate (grownCap w ss.length 0 el - ss.length) (Value.int .u8 0)) ?_ (ofBytes_ok ss) ?_ ?_ ?_ (fun _ => ⟨i, grownCap w ss.length 0 el, hi, by omega, by rw [hcs, hi1]; simp, hcm, fun o => rfl⟩)
            · simp
            · rw [hcur]; simp
            · omega
            · intro o hlt hh; simp at hh; omega
    · cases h5
  · simp [makesRow, hu] at hm
  · simp [makesRow, hu] at hm
  · cases h5
end
end Go.Den
