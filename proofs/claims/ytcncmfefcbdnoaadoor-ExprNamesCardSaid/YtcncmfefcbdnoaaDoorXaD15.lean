import Derived.Test.YtcncmfefcbdnoaaDoorXaD14
set_option linter.unusedVariables false
set_option linter.unusedSimpArgs false
namespace Go.Den
section
variable {P : Program} {e : Env} {h h0 h' : H} {w : World} {tm : Tm} {a : Act} {o : Oper} {v : IV}

/-! ### Every operation -/
theorem Eff.of_val (r : Rel P e h w) (hv : h' = h ∧ Val P e w a o v) : Eff P e h w a o v h' := by
  obtain ⟨rfl, V, h1, h2⟩ := hv
  exact ⟨V, w, e, .inl h2, Step.refl r, h1⟩
theorem Eff.of_alloc (r : Rel P e h w) (ha : ∃ b, h' = h.new b ∧ b.rw = true ∧ Alloc P e w a o h.next v b) : Eff P e h w a o v h' := by
  obtain ⟨b, rfl, hrw, c, V, w', obj, h1, h2, h3, h4, h5, h6⟩ := ha
  have hn : e h.next = none := r.dom _ (Nat.le_refl _)
  obtain ⟨h7, h8⟩ := h6 (upd e h.next (w.heap.size, c)) (le_upd hn _) (upd_at _ _)
  exact ⟨V, w', _, .inl h1, Step.new r hrw h2 h3 h4 h5 h8, h7⟩
/-- a call of a function? -/
def isCall (o : Op) : Bool := match o with
  | .call c => match c.callee with
    | .builtin _ => false
    | _ => true
  | _ => false
theorem callD_builtin_ok (k : TmOK e tm a.tmps) (r : Rel P e h w) {c : Call} {b : Builtin} (hb : c.callee = .builtin b) (ho : o.op = .call c) (hd : callD P tm h c = some (.val v h')) : Eff P e h w a o v h' := by
  have hd0 := hd
  obtain ⟨args, h1, h2⟩ := ob_some hd
  have hx := evs_ok k r h1
  obtain ⟨consts, hrun⟩ := call_builtin (P := P) (w := w) (a := a) ho hb
  have hargs : (c.args.map a.eval) = (c.args.toList.map a.eval).toArray := by apply Array.ext'; simp
  rw [hb] at h2
  simp only at h2
  split at h2
  · exact Eff.of_val r (doCall_read_ok k r hb (.inl rfl) ho hd0)
  · obtain ⟨t, h3, h4⟩ := ob_some h2
    obtain ⟨t2, h5, h6⟩ := ob_some h4
    obtain ⟨⟨u, hh⟩, h7, h8⟩ := ob_some h6
    cases h8
    obtain ⟨X, Y, q1, q2, q3⟩ := args2 hx
    obtain ⟨V, w', e', a1, a2, a3⟩ := appendD_ok (ty := o.type) r q1 q2 h7
    refine ⟨V, w', e', .inl ?_, a2, a3⟩
    rw [hrun, hargs, q3]
    simp only [builtin, Sem.run_bind]
    rw [append_ts h3 h5, a1]
    rfl
  · obtain ⟨t, h3, h4⟩ := ob_some h2
    obtain ⟨⟨u, hh⟩, h7, h8⟩ := ob_some h4
    cases h8
    obtain ⟨X, Y, q1, q2, q3⟩ := args2 hx
    obtain ⟨V, w', e', a1, a2, a3⟩ := copyD_ok (ty := o.type) r h3 q1 q2 h7
    refine ⟨V, w', e', .inl ?_, a2, a3⟩
    rw [hrun, hargs, q3]
    simp only [builtin, Sem.run_bind]
    rw [a1]
    rfl
  · obtain ⟨t, h3, h4⟩ := ob_some h2
    obtain ⟨hh, h7, h8⟩ := ob_some h4
    cases h8
    obtain ⟨X, q1, q3⟩ := args1 hx
    obtain ⟨w', e', a1, a2⟩ := clearD_ok (ty := o.type) r h3 q1 h7
    refine ⟨undef, w', e', .inl ?_, a2, rfl⟩
    rw [hrun, hargs, q3]
    simp only [builtin, Sem.run_bind]
    rw [a1]
    rfl
  · exact Eff.of_val r (doCall_read_ok k r hb (.inr (.inl rfl)) ho hd0)
  · exact Eff.of_val r (doCall_read_ok k r hb (.inr (.inl rfl)) ho hd0)
  · exact Eff.of_val r (doCall_read_ok k r hb (.inr (.inr rfl)) ho hd0)
  · exact Eff.of_val r (doCall_read_ok k r hb (.inr (.inr rfl)) ho hd0)
  · cases h2
theorem opDo_ok (k : TmOK e tm a.tmps) (r : Rel P e h w) (hd : opDo P tm h o.op = some (.val v h')) : Eff P e h w a o v h' := by
  cases ho : o.op <;> rw [ho] at hd
  case move x => exact Eff.of_val r (doMove_ok k r (.inl ho) hd)
  case assign x => exact Eff.of_val r (doMove_ok k r (.inr ho) hd)
  case pick c x y => exact Eff.of_val r (doPick_ok k r ho hd)
  case alloc t => exact Eff.of_alloc r (doAlloc_ok (tm := tm) ho hd)
  case box t x => exact Eff.of_alloc r (doBox_ok k r ho hd)
  case build t ps => exact Eff.of_val r (doBuild_ok k r ho hd)
  case buildSlice t n ps => exact Eff.of_alloc r (doBuildSlice_ok k r ho hd)
  case load t x => exact Eff.of_val r (doLoad_ok k r ho hd)
  case store t x y => exact doStore_ok k r ho hd
  case nilCheck x => exact Eff.of_val r (doNilCheck_ok k r ho hd)
  case binOp op t x y u => exact Eff.of_val r (doBinOp_ok k r ho hd)
  case unOp op t x => exact Eff.of_val r (doUnOp_ok k r ho hd)
  case convert s d x =>
    cases hm : makesRow P d with
    | true => exact Eff.of_alloc r (doConvert_row_ok k r hm ho hd)
    | false => exact Eff.of_val r (doConvert_ok k r hm ho hd)
  case sliceToArrayPointer t x => exact Eff.of_val r (doSliceToArrayPointer_ok k r ho hd)
  case makeInterface t x => exact Eff.of_val r (doMakeInterface_ok k r ho hd)
  case makeFunc fn xs ys => exact Eff.of_val r (doMakeFunc_ok k r ho hd)
  case makeMap t x => exact Eff.of_alloc r (doMakeMap_ok (tm := tm) ho hd)
  case makeSlice t x y => exact Eff.of_alloc r (doMakeSlice_ok k r ho hd)
  case slice t x lo hi mx => exact Eff.of_val r (doSlice_ok k r ho hd)
  case fieldAddr s x f => exact Eff.of_val r (doFieldAddr_ok k r ho hd)
  case field s x f => exact Eff.of_val r (doField_ok k r ho hd)
  case indexAddr t x y => exact Eff.of_val r (doIndexAddr_ok k r ho hd)
  case index t x y => exact Eff.of_val r (doIndex_ok k r ho hd)
  case lookup t x y ok => exact Eff.of_val r (doLookup_ok k r ho hd)
  case mapUpdate t x y z => exact doMapUpdate_ok k r ho hd
  case range t x => exact Eff.of_alloc r (doRange_ok k r ho hd)
  case next x s => exact doNext_ok k r ho hd
  case typeAssert x s t ok => exact Eff.of_val r (doTypeAssert_ok k r ho hd)
  case extract x i => exact Eff.of_val r (doExtract_ok k r ho hd)
  case call c =>
    have hd' : callD P tm h c = some (.val v h') := hd
    cases hc : c.callee with
    | builtin b => exact callD_builtin_ok k r hc ho hd'
    | value f =>
      exfalso
      obtain ⟨args, h1, h2⟩ := ob_some hd'
      rw [hc] at h2
      simp only at h2
      obtain ⟨g, h3, h4⟩ := ob_some h2
      split at h4
      · cases h4
      · cases h4
    | invoke x n =>
      exfalso
      obtain ⟨args, h1, h2⟩ := ob_some hd'
      rw [hc] at h2
      simp only at h2
      obtain ⟨g, h3, h4⟩ := ob_some h2
      split at h4
      · obtain ⟨i, h5, h6⟩ := ob_some h4
        obtain ⟨m, h7, h8⟩ := ob_some h6
        split at h8
        · split at h8 <;> cases h8
        · split at h8 <;> cases h8
        · cases h8
      · cases h4
  all_goals cases hd
theorem run_method0 {t : TypeId} {i : TypeInfo} {m : Method} {f : FuncId} {b : Bool} {V R : Value} {n : Nat} {name : String} (hi : P.info? t = some i) (hm : i.methods.find? (fun m => m.name == name) = some m) (hp : m.path.isEmpty = true) (hf : m.func = some (f, b))
    (hr : (receiverAt t (.val V) b (some ((name.splitOn ".").getLastD name))).run P w = .ok R w) : (method (n + 1) t V name).run P w = .ok (f, R) w := by
  have hpath : m.path.toList = [] := by
    have : m.path.size = 0 := by simpa [Array.isEmpty] using hp
    exact List.eq_nil_of_length_eq_zero (by simpa using this)
  unfold method
  simp only [Sem.run_bind, info_ok hi, Result.andThen_ok, hm, hpath, follow, hf, hp, if_true, hr, Sem.run_pure]
def NoCall (x : Option Out) : Prop := ∀ f args, x ≠ some (.call f args)
theorem noCall_none : NoCall none := fun _ _ h => by cases h
theorem noCall_val (v : IV) (h : H) : NoCall (some (.val v h)) := fun _ _ h => by cases h
theorem noCall_ob {α : Type} {x : Option α} {f : α → Option Out} (h : ∀ a, NoCall (f a)) : NoCall (ob x f) := by
  cases x with
  | none => exact noCall_none
  | some a => exact h a
theorem noCall_op (op : Op) (hn : isCall op = false ∧ (∀ c, op ≠ .call c)) : NoCall (opDo P tm h op) := by
  cases op
  case call c => exact absurd rfl (hn.2 c)
  case fieldAddr s x n =>
    refine noCall_ob (fun p => ?_)
    split
    · refine noCall_ob (fun fd => noCall_ob (fun m => ?_))
      cases m
      · exact noCall_none
      · exact noCall_val _ _
    · exact noCall_none
  case build t ps =>
    refine noCall_ob (fun p => noCall_ob (fun q => ?_))
    split
    · rename_i fs hu
      cases sizesD P fs.toList
      · exact noCall_none
      · exact noCall_ob (fun _ => noCall_val _ _)
    · exact noCall_ob (fun _ => noCall_ob (fun _ => noCall_val _ _))
    · exact noCall_none
  case convert s d x => exact noCall_ob (fun _ => noCall_ob (fun _ => noCall_val _ _))
  case makeMap t r => cases r <;> first | exact noCall_val _ _ | exact noCall_none
  all_goals first
    | exact noCall_none
    | (simp only [opDo, doMove, doAssign, doPick, doAlloc, doBox, doBuildSlice, doLoad, doStore, doNilCheck, doBinOp, doUnOp, doSliceToArrayPointer, doMakeInterface, doMakeFunc, doMakeSlice, doSlice, doField, doIndexAddr, doIndex, doLookup, doMapUpdate, doRange, doNext, doTypeAssert, doExtract]
       repeat' (first | exact noCall_val _ _ | exact noCall_none | refine noCall_ob (fun _ => ?_) | split))
theorem opDo_call (k : TmOK e tm a.tmps) (r : Rel P e h w) {f : FuncId} {args : List IV} (hd : opDo P tm h o.op = some (.call f args)) :
    ∃ A, concL e args = some A ∧ (execOp a.eval o).run P w = (callFunc f A.toArray).run P w := by
  cases ho : o.op <;> rw [ho] at hd
  case call c =>
    have hd' : callD P tm h c = some (.call f args) := hd
    obtain ⟨as, h1, h2⟩ := ob_some hd'
    have hx := evs_ok k r h1
    have hargs : (c.args.map a.eval) = (c.args.toList.map a.eval).toArray := by apply Array.ext'; simp
    cases hc : c.callee with
    | builtin b =>
      exfalso
      rw [hc] at h2
      simp only at h2
      split at h2
      all_goals first
        | (cases h2; done)
        | (obtain ⟨t, h3, h4⟩ := ob_some h2
           first
           | (cases h4; done)
           | (obtain ⟨u, h5, h6⟩ := ob_some h4
              first
              | (cases h6; done)
              | (obtain ⟨u2, h7, h8⟩ := ob_some h6; cases h8; done)))
    | value x =>
      rw [hc] at h2
      simp only at h2
      obtain ⟨g, h3, h4⟩ := ob_some h2
      have hg := ev_ok k r h3
      split at h4
      · cases h4
        obtain ⟨A, C, q1, q2, q3⟩ := conc_func hg
        refine ⟨_, concL_append (concL_append q1 hx) q2, ?_⟩
        simp only [execOp, ho, resolve, hc, q3, hargs]
        simp only [Deferred.ofValue, Sem.run_bind, Sem.run_pure, Result.andThen_ok, invoke]
        simp
      · cases h4
    | invoke x name =>
      rw [hc] at h2
      simp only at h2
      obtain ⟨g, h3, h4⟩ := ob_some h2
      have hg := ev_ok k r h3
      split at h4
      · rename_i t v
        obtain ⟨i, h5, h6⟩ := ob_some h4
        obtain ⟨m, h7, h8⟩ := ob_some h6
        obtain ⟨U, hU, hV⟩ := conc_iface hg
        have fin : ∀ (b : Bool) (R : Value) (F : FuncId), m.path.isEmpty = true → m.func = some (F, b) → (receiverAt t (.val U) b (some ((name.splitOn ".").getLastD name))).run P w = .ok R w →
            (execOp a.eval o).run P w = (callFunc F (R :: c.args.toList.map a.eval).toArray).run P w := by
          intro b R F hp hf hr
          have hm := run_method0 (n := P.types.size + 99) (name := name) h5 h7 hp hf hr
          have he : (#[Value.iface t U] ++ (c.args.toList.map a.eval).toArray).extract 1 (#[Value.iface t U] ++ (c.args.toList.map a.eval).toArray).size = (c.args.toList.map a.eval).toArray := by
            apply Array.ext'; simp
            exact List.take_of_length_le (by simp)
          have he0 : (#[Value.iface t U] ++ (c.args.toList.map a.eval).toArray)[0]? = some (Value.iface t U) := by simp
          simp only [execOp, ho, resolve, hc, hV, hargs]
          simp only [Sem.run_bind, Sem.run_pure, Result.andThen_ok, invoke, he0, he, callMethod, run_program]
          have hm' : (method (P.types.size + Made.depth) t U name).run P w = .ok (F, R) w := hm
          rw [hm']
          simp only [Result.andThen_ok]
          congr 2
          apply Array.ext'; simp
        split at h8
        · rename_i F hp hf
          split at h8
          · rename_i el b off hu
            cases h8
            refine ⟨_, concL_mk hU hx, fin true U _ hp hf ?_⟩
            simp [receiverAt, run_underlying hu, Place.get]
          · cases h8
        · rename_i F hp hf
          split at h8
          · rename_i kk hu
            cases h8
            refine ⟨_, concL_mk hU hx, fin false U _ hp hf ?_⟩
            simp [receiverAt, run_underlying hu, Place.get]
          · rename_i fs hu
            cases h8
            refine ⟨_, concL_mk hU hx, fin false U _ hp hf ?_⟩
            simp [receiverAt, run_underlying hu, Place.get]
          · cases h8
        · cases h8
      · cases h4
  all_goals exact absurd hd (noCall_op _ ⟨rfl, fun c hc => by cases hc⟩ f args)
end
end Go.Den
