import Derived.Test.YtcncmfefcbdnoaaDoorXaD4
set_option linter.unusedVariables false
set_option linter.unusedSimpArgs false
namespace Go.Den
/-- The operation reads, at most, and has this value. -/
def Val (P : Program) (e : Env) (w : World) (a : Act) (o : Oper) (v : IV) : Prop := ∃ V, conc e v = some V ∧ (execOp a.eval o).run P w = .ok (.value V) w
section
variable {P : Program} {e : Env} {h h' : H} {w : World} {tm : Tm} {a : Act} {o : Oper} {v : IV}

theorem Val.mk {s : Sem Value} {V : Value} (hx : execOp a.eval o = (do pure (Next.value (← s)))) (hc : conc e v = some V) (hs : s.run P w = .ok V w) : Val P e w a o v :=
  ⟨V, hc, by rw [hx]; simp [hs]⟩

theorem doMove_ok (k : TmOK e tm a.tmps) (r : Rel P e h w) {x : Operand} (ho : o.op = .move x ∨ o.op = .assign x) (hd : doMove P tm h x = some (.val v h')) : h' = h ∧ Val P e w a o v := by
  obtain ⟨u, h1, h2⟩ := ob_some hd
  cases h2
  refine ⟨rfl, _, ev_ok k r h1, ?_⟩
  rcases ho with ho | ho <;> simp only [execOp, ho] <;> rfl
theorem doPick_ok (k : TmOK e tm a.tmps) (r : Rel P e h w) {c x y : Operand} (ho : o.op = .pick c x y) (hd : doPick P tm h c x y = some (.val v h')) : h' = h ∧ Val P e w a o v := by
  obtain ⟨u, h1, h2⟩ := ob_some hd
  have h3 := ev_ok k r h1
  split at h2
  · obtain ⟨u, h4, h5⟩ := ob_some h2
    cases h5
    simp only [conc] at h3
    refine ⟨rfl, _, ev_ok k r h4, ?_⟩
    simp only [execOp, ho, ← Option.some.inj h3]
    simp [asBool]
  · obtain ⟨u, h4, h5⟩ := ob_some h2
    cases h5
    simp only [conc] at h3
    refine ⟨rfl, _, ev_ok k r h4, ?_⟩
    simp only [execOp, ho, ← Option.some.inj h3]
    simp [asBool]
  · cases h2
theorem doNilCheck_ok (k : TmOK e tm a.tmps) (r : Rel P e h w) {x : Operand} (ho : o.op = .nilCheck x) (hd : doNilCheck P tm h x = some (.val v h')) : h' = h ∧ Val P e w a o v := by
  obtain ⟨u, h1, h2⟩ := ob_some hd
  have h3 := ev_ok k r h1
  split at h2
  · cases h2
    refine ⟨rfl, _, h3, ?_⟩
    obtain ⟨p, hp, hV⟩ := conc_ptr h3
    simp only [execOp, ho, hV]
    rfl
  · cases h2
    refine ⟨rfl, _, h3, ?_⟩
    obtain ⟨A, C, h4, h5, hV⟩ := conc_func h3
    simp only [execOp, ho, hV]
    rfl
  · cases h2
theorem eqGuard_nil {op : BinOp} {t : TypeId} {x y : Operand} (hc : (isConstOp x || isConstOp y) = true) : (eqGuard op t x y .nilIface .nilIface).run P w = .ok () w := by
  cases op <;> cases x <;> cases y <;> first | rfl | (exact absurd hc (by simp [isConstOp]))
theorem eqGuard_agg {op : BinOp} {t : TypeId} {x y : Operand} {C D : Array Value} (hc : P.eqGuardType P.depth t = false) : (eqGuard op t x y (.agg C) (.agg D)).run P w = .ok () w := by
  cases op <;> first | rfl | (unfold eqGuard; simp [hc])
theorem eqGuard_other {op : BinOp} {t : TypeId} {x y : Operand} {X Y : Value} (h1 : X = .nilIface → Y = .nilIface → False) (h2 : ∀ C D, X = .agg C → Y = .agg D → False) : (eqGuard op t x y X Y).run P w = .ok () w := by
  cases X <;> first
    | (cases op <;> rfl)
    | (cases Y <;> first
        | (exact (h1 rfl rfl).elim)
        | (exact (h2 _ _ rfl rfl).elim)
        | (cases op <;> rfl))
theorem conc_nilIface {p : IV} (hx : conc e p = some .nilIface) : p = .nilIface := by
  cases p with
  | ptr b o => obtain ⟨p, hp, hh⟩ := conc_ptr hx; cases hh
  | slice b o l c => obtain ⟨p, hp, hh⟩ := conc_slice hx; cases hh
  | map b => obtain ⟨p, hp, hh⟩ := conc_map hx; cases hh
  | func fn a c => obtain ⟨A, C, _, _, hh⟩ := conc_func hx; cases hh
  | iface t v => obtain ⟨U, _, hh⟩ := conc_iface hx; cases hh
  | agg cs => obtain ⟨C, _, hh⟩ := conc_agg hx; cases hh
  | tuple cs => obtain ⟨C, _, hh⟩ := conc_tuple hx; cases hh
  | nilIface => rfl
  | _ => simp only [conc] at hx; cases hx
theorem conc_agg' {p : IV} {C : Array Value} (hx : conc e p = some (.agg C)) : ∃ cs, p = .agg cs := by
  cases p with
  | agg cs => exact ⟨cs, rfl⟩
  | ptr b o => obtain ⟨p, hp, hh⟩ := conc_ptr hx; cases hh
  | slice b o l c => obtain ⟨p, hp, hh⟩ := conc_slice hx; cases hh
  | map b => obtain ⟨p, hp, hh⟩ := conc_map hx; cases hh
  | func fn a c => obtain ⟨A, C, _, _, hh⟩ := conc_func hx; cases hh
  | iface t v => obtain ⟨U, _, hh⟩ := conc_iface hx; cases hh
  | tuple cs => obtain ⟨C, _, hh⟩ := conc_tuple hx; cases hh
  | _ => simp only [conc] at hx; cases hx
theorem eqGuard_ok {op : BinOp} {t : TypeId} {x y : Operand} {p q : IV} {X Y : Value} (hg : eqGuardD P op t x y p q = true) (hx : conc e p = some X) (hy : conc e q = some Y) :
    (eqGuard op t x y X Y).run P w = .ok () w := by
  unfold eqGuardD at hg
  split at hg
  · simp only [conc] at hx hy; cases hx; cases hy
    exact eqGuard_nil hg
  · obtain ⟨C, h1, rfl⟩ := conc_agg hx; obtain ⟨D, h2, rfl⟩ := conc_agg hy
    exact eqGuard_agg (by simpa using hg)
  · rename_i h1 h2
    refine eqGuard_other (fun hX hY => ?_) (fun C D hX hY => ?_)
    · subst hX; subst hY; exact h1 (conc_nilIface hx) (conc_nilIface hy)
    · subst hX; subst hY
      obtain ⟨c, hc⟩ := conc_agg' hx
      obtain ⟨d, hd⟩ := conc_agg' hy
      exact h2 _ _ hc hd
theorem doBinOp_ok (k : TmOK e tm a.tmps) (r : Rel P e h w) {op : BinOp} {t u : TypeId} {x y : Operand} (ho : o.op = .binOp op t x y u) (hd : doBinOp P tm h op t x y = some (.val v h')) : h' = h ∧ Val P e w a o v := by
  obtain ⟨p, h1, h2⟩ := ob_some hd
  obtain ⟨q, h3, h4⟩ := ob_some h2
  have hx := ev_ok k r h1
  have hy := ev_ok k r h3
  split at h4
  · rename_i hg
    obtain ⟨z, h5, h6⟩ := ob_some h4
    cases h6
    obtain ⟨V, h7, h8⟩ := binOpD_ok r.asm h5 hx hy w
    exact ⟨rfl, Val.mk (s := do eqGuard op t x y (a.eval x) (a.eval y); binOp op t (a.eval x) (a.eval y)) (by simp only [execOp, ho]) h8 (by simp [eqGuard_ok hg hx hy, h7])⟩
  · cases h4
theorem doUnOp_ok (k : TmOK e tm a.tmps) (r : Rel P e h w) {op : UnOp} {t : TypeId} {x : Operand} (ho : o.op = .unOp op t x) (hd : doUnOp P tm h op x = some (.val v h')) : h' = h ∧ Val P e w a o v := by
  obtain ⟨p, h1, h2⟩ := ob_some hd
  obtain ⟨q, h3, h4⟩ := ob_some h2
  cases h4
  have hx := ev_ok k r h1
  refine ⟨rfl, ?_⟩
  have hE : execOp a.eval o = (do pure (Next.value (← Op.unary op (a.eval x)))) := by simp only [execOp, ho]
  unfold unOpD at h3
  split at h3
  · cases h3
    simp only [conc] at hx
    refine Val.mk hE rfl ?_
    rw [← Option.some.inj hx]
    simp [Op.unary, Op.intArith]
  · rename_i kk n
    simp only [conc] at hx
    simp only [intOp] at h3
    cases h3
    refine Val.mk hE rfl ?_
    rw [← Option.some.inj hx]
    simp [Op.unary, Op.intBits]
  · cases h3
    simp only [conc] at hx
    refine Val.mk hE rfl ?_
    rw [← Option.some.inj hx]
    simp [Op.unary]
  · rename_i kk n
    cases h3
    simp only [conc] at hx
    refine Val.mk hE rfl ?_
    rw [← Option.some.inj hx]
    simp [Op.unary, Op.intArith, SE.den, binV]
  · rename_i kk n
    cases h3
    simp only [conc] at hx
    refine Val.mk hE rfl ?_
    rw [← Option.some.inj hx]
    simp [Op.unary, Op.intBits, SE.den, binV]
  · cases h3
theorem doSliceToArrayPointer_ok (k : TmOK e tm a.tmps) (r : Rel P e h w) {t : TypeId} {x : Operand} (ho : o.op = .sliceToArrayPointer t x) (hd : doSliceToArrayPointer P tm h t x = some (.val v h')) : h' = h ∧ Val P e w a o v := by
  obtain ⟨p, h1, h2⟩ := ob_some hd
  have hx := ev_ok k r h1
  split at h2
  · rename_i n _ b off len c hu
    split at h2
    · rename_i hle
      cases h2
      obtain ⟨q, hq, hV⟩ := conc_slice hx
      refine ⟨rfl, Val.mk (s := Instr.arrayAt t (a.eval x)) (by simp only [execOp, ho]) (V := .pointer (some ⟨q.1, off, none⟩)) (by simp only [conc, hq]) ?_⟩
      rw [hV]
      have : ¬ len < n := by have := Nat.ble_eq.mp hle; omega
      simp [Instr.arrayAt, run_underlying hu, this]
    · cases h2
  · cases h2
theorem doMakeInterface_ok (k : TmOK e tm a.tmps) (r : Rel P e h w) {t : TypeId} {x : Operand} (ho : o.op = .makeInterface t x) (hd : doMakeInterface P tm h t x = some (.val v h')) : h' = h ∧ Val P e w a o v := by
  unfold doMakeInterface at hd
  split at hd
  · cases hd
  · cases hd
  · rename_i h1 h2
    obtain ⟨u, h3, h4⟩ := ob_some hd
    cases h4
    have hx := ev_ok k r h3
    refine ⟨rfl, Val.mk (s := Instr.makeInterface t (a.eval x)) (by simp only [execOp, ho]) (V := .iface t (a.eval x)) (by simp only [conc, hx]) ?_⟩
    cases hu : P.underlying t with
    | none => exact (h2 hu).elim
    | some d =>
      simp only [Instr.makeInterface, Sem.run_bind, run_underlying hu, Result.andThen_ok]
      cases d <;> first | rfl | (exact (h1 _ hu).elim)
theorem doMakeFunc_ok (k : TmOK e tm a.tmps) (r : Rel P e h w) {fn : Fn} {xs ys : Array Operand} (ho : o.op = .makeFunc fn xs ys) (hd : doMakeFunc P tm h fn xs ys = some (.val v h')) : h' = h ∧ Val P e w a o v := by
  obtain ⟨p, h1, h2⟩ := ob_some hd
  obtain ⟨q, h3, h4⟩ := ob_some h2
  cases h4
  have hx := evs_ok k r h1
  have hy := evs_ok k r h3
  refine ⟨rfl, Val.mk (s := Instr.makeFunc fn (xs.map a.eval) (ys.map a.eval)) (by simp only [execOp, ho]) (V := .func fn (xs.map a.eval) (ys.map a.eval)) ?_ ?_⟩
  · simp only [conc, hx, hy]
    congr 2 <;> (apply Array.ext'; simp)
  · simp [Instr.makeFunc]
theorem fieldD_some {t : TypeId} {f : Nat} {fd : Field} (hf : fieldD P t f = some fd) : ∃ fs, P.underlying t = some (.struct fs) ∧ fs[f]? = some fd := by
  unfold fieldD at hf
  split at hf
  · rename_i fs hu; exact ⟨fs, hu, hf⟩
  · cases hf
theorem doFieldAddr_ok (k : TmOK e tm a.tmps) (r : Rel P e h w) {s : TypeId} {x : Operand} {f : Nat} (ho : o.op = .fieldAddr s x f) (hd : doFieldAddr P tm h s x f = some (.val v h')) : h' = h ∧ Val P e w a o v := by
  obtain ⟨p, h1, h2⟩ := ob_some hd
  have hx := ev_ok k r h1
  split at h2
  · rename_i b off
    obtain ⟨fd, h3, h4⟩ := ob_some h2
    obtain ⟨n, h5, h6⟩ := ob_some h4
    obtain ⟨fs, h7, h8⟩ := fieldD_some h3
    cases n with
    | zero => cases h6
    | succ n =>
      cases h6
      obtain ⟨q, hq, hV⟩ := conc_ptr hx
      refine ⟨rfl, Val.mk (s := Instr.fieldAt s (a.eval x) f) (by simp only [execOp, ho]) (V := .pointer (some ⟨q.1, off + fd.offset, none⟩)) (by simp only [conc, hq]) ?_⟩
      rw [hV]
      simp [Instr.fieldAt, run_underlying h7, h8, Instr.sureAddr, fieldPlace, size_ok h5, Addr.add]
  · cases h2
theorem doField_ok (k : TmOK e tm a.tmps) (r : Rel P e h w) {s : TypeId} {x : Operand} {f : Nat} (ho : o.op = .field s x f) (hd : doField P tm h s x f = some (.val v h')) : h' = h ∧ Val P e w a o v := by
  obtain ⟨p, h1, h2⟩ := ob_some hd
  have hx := ev_ok k r h1
  split at h2
  · obtain ⟨fd, h3, h4⟩ := ob_some h2
    obtain ⟨u, h5, h6⟩ := ob_some h4
    cases h6
    obtain ⟨fs, h7, h8⟩ := fieldD_some h3
    obtain ⟨C, hC, hV⟩ := conc_agg hx
    obtain ⟨V, h9, h10⟩ := part_ok h5 hC w
    refine ⟨rfl, Val.mk (s := Instr.field s (a.eval x) f) (by simp only [execOp, ho]) h10 ?_⟩
    rw [hV]
    simp [Instr.field, run_underlying h7, h8, asAgg, h9]
  · cases h2
theorem doIndexAddr_ok (k : TmOK e tm a.tmps) (r : Rel P e h w) {t : TypeId} {x ix : Operand} (ho : o.op = .indexAddr t x ix) (hd : doIndexAddr P tm h t x ix = some (.val v h')) : h' = h ∧ Val P e w a o v := by
  obtain ⟨p, h1, h2⟩ := ob_some hd
  obtain ⟨i, h3, h4⟩ := ob_some h2
  obtain ⟨u, h5, h6⟩ := ob_some h4
  cases h6
  have hx := ev_ok k r h1
  have hi := ev_ok k r h3
  have hE : execOp a.eval o = (do pure (Next.value (← Instr.indexAt t (a.eval x) (a.eval ix)))) := by simp only [execOp, ho]
  refine ⟨rfl, ?_⟩
  unfold indexAddrD at h5
  split at h5
  · rename_i kk i
    simp only [conc] at hi
    obtain ⟨d, hu, h6⟩ := ob_some h5
    split at h6
    · rename_i len el b off
      split at h6
      · rename_i hlt
        have hlt' : (Int.ofNat i) < (len : Int) := by have := Nat.blt_eq.mp hlt; simpa using this
        have h0 : 0 ≤ Int.ofNat i := Int.natCast_nonneg i
        obtain ⟨sz, h7, h8⟩ := ob_some h6
        cases h8
        obtain ⟨q, hq, hV⟩ := conc_ptr hx
        refine Val.mk hE (V := .pointer (some ⟨q.1, off + i * sz, none⟩)) (by simp only [conc, hq]) ?_
        rw [hV, ← Option.some.inj hi]
        simp [Instr.indexAt, run_underlying hu, asIntOf, Instr.sureAddr, size_ok h7, Addr.add, (by simpa using hlt' : i < len)]
      · cases h6
    · rename_i el b off len c
      split at h6
      · rename_i hlt
        have hlt' : (Int.ofNat i) < (len : Int) := by have := Nat.blt_eq.mp hlt; simpa using this
        obtain ⟨sz, h7, h8⟩ := ob_some h6
        cases h8
        obtain ⟨q, hq, hV⟩ := conc_slice hx
        refine Val.mk hE (V := .pointer (some ⟨q.1, off + i * sz, none⟩)) (by simp only [conc, hq]) ?_
        rw [hV, ← Option.some.inj hi]
        simp [Instr.indexAt, run_underlying hu, asIntOf, Instr.sureAddr, size_ok h7, Addr.add, (by simpa using hlt' : i < len)]
      · cases h6
    · cases h6
  · cases h5
theorem doIndex_ok (k : TmOK e tm a.tmps) (r : Rel P e h w) {t : TypeId} {x ix : Operand} (ho : o.op = .index t x ix) (hd : doIndex P tm h t x ix = some (.val v h')) : h' = h ∧ Val P e w a o v := by
  obtain ⟨p, h1, h2⟩ := ob_some hd
  obtain ⟨i, h3, h4⟩ := ob_some h2
  obtain ⟨u, h5, h6⟩ := ob_some h4
  cases h6
  have hx := ev_ok k r h1
  have hi := ev_ok k r h3
  have hE : execOp a.eval o = (do pure (Next.value (← Instr.index t (a.eval x) (a.eval ix)))) := by simp only [execOp, ho]
  refine ⟨rfl, ?_⟩
  unfold indexD at h5
  split at h5
  · rename_i kk i
    simp only [conc] at hi
    obtain ⟨d, hu, h6⟩ := ob_some h5
    split at h6
    · rename_i s
      obtain ⟨c, h7, h8⟩ := ob_some h6
      cases h8
      simp only [conc] at hx
      refine Val.mk hE rfl ?_
      rw [← Option.some.inj hx, ← Option.some.inj hi]
      have hlt : i < s.length := (List.getElem?_eq_some_iff.1 h7).1
      have hget : (⟨s.toArray⟩ : ByteArray)[i]? = some c := by
        have hsz : i < (⟨s.toArray⟩ : ByteArray).size := by rw [size_ba]; exact hlt
        rw [getElem?_pos (⟨s.toArray⟩ : ByteArray) i hsz]
        have hc : s[i] = c := (List.getElem?_eq_some_iff.1 h7).2
        exact congrArg some hc
      simp [Instr.index, run_underlying hu, asIntOf, hget]
    · rename_i len el cs
      split at h6
      · rename_i hlt
        have hlt' : i < len := Nat.blt_eq.mp hlt
        obtain ⟨sz, h7, h8⟩ := ob_some h6
        obtain ⟨C, hC, hV⟩ := conc_agg hx
        obtain ⟨V, h9, h10⟩ := part_ok h8 hC w
        refine Val.mk hE h10 ?_
        rw [hV, ← Option.some.inj hi]
        simp [Instr.index, run_underlying hu, asIntOf, size_ok h7, hlt', h9]
      · cases h6
    · cases h6
  · cases h5
theorem doExtract_ok (k : TmOK e tm a.tmps) (r : Rel P e h w) {x : Operand} {i : Nat} (ho : o.op = .extract x i) (hd : doExtract P tm h x i = some (.val v h')) : h' = h ∧ Val P e w a o v := by
  obtain ⟨p, h1, h2⟩ := ob_some hd
  have hx := ev_ok k r h1
  split at h2
  · obtain ⟨u, h3, h4⟩ := ob_some h2
    cases h4
    obtain ⟨C, hC, hV⟩ := conc_tuple hx
    obtain ⟨V, h5, h6⟩ := concL_get hC i v h3
    refine ⟨rfl, Val.mk (s := Instr.extract (a.eval x) i) (by simp only [execOp, ho]) h5 ?_⟩
    rw [hV]
    simp [Instr.extract, h6]
  · cases h2
end
end Go.Den
