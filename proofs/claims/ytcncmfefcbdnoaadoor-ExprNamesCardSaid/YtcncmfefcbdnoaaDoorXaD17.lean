import Derived.Test.YtcncmfefcbdnoaaDoorXaD16
import Derived.Orders
set_option linter.unusedVariables false
set_option linter.unusedSimpArgs false
namespace Go.Den
section
variable {P : Program} {e e' : Env} {h h0 h' : H} {w w' : World} {tm tm' : Tm} {a : Act} {o : Oper} {v : IV}

/-! ### What the temporaries are that an operation looks at -/
theorem evs_congr : ∀ {l : List Operand}, (∀ x ∈ l, ev P tm x = ev P tm' x) → evs P tm l = evs P tm' l
  | [], _ => rfl
  | x :: l, hx => by
    have h1 : ∀ t, evs P t (x :: l) = ob (ev P t x) fun a => ob (evs P t l) fun r => some (a :: r) := fun _ => rfl
    rw [h1, h1, hx x (by simp), evs_congr (fun y hy => hx y (by simp [hy]))]
theorem evp_congr : ∀ {l : List (Nat × Operand)}, (∀ x ∈ l, ev P tm x.2 = ev P tm' x.2) → evp P tm l = evp P tm' l
  | [], _ => rfl
  | x :: l, hx => by
    have h1 : ∀ t, evp P t (x :: l) = ob (ev P t x.2) fun a => ob (evp P t l) fun r => some ((x.1, a) :: r) := fun _ => rfl
    rw [h1, h1, hx x (by simp), evp_congr (fun y hy => hx y (by simp [hy]))]
theorem evo_congr {x : Option Operand} (hx : ∀ y, x = some y → ev P tm y = ev P tm' y) : evo P tm x = evo P tm' x := by
  cases x with
  | none => rfl
  | some y => simp only [evo, hx y rfl]
theorem opDo_congr (op : Op) (hx : ∀ x ∈ op.operands, ev P tm x = ev P tm' x) : opDo P tm h op = opDo P tm' h op := by
  cases op <;> simp only [Op.operands] at hx
  case move x => have := hx x (by simp); simp only [opDo, doMove, this]
  case assign x => have := hx x (by simp); simp only [opDo, doAssign, this]
  case pick c x y => simp only [opDo, doPick, hx c (by simp), hx x (by simp), hx y (by simp)]
  case alloc t => rfl
  case box t x => simp only [opDo, doBox, hx x (by simp)]
  case build t ps => have hp := evp_congr (P := P) (tm := tm) (tm' := tm') (l := ps.toList) (fun x hm => hx x.2 (List.mem_toArray.2 (List.mem_map.2 ⟨x, hm, rfl⟩))); simp only [opDo, doBuild, hp]
  case buildSlice t n ps => have hp := evp_congr (P := P) (tm := tm) (tm' := tm') (l := ps.toList) (fun x hm => hx x.2 (List.mem_toArray.2 (List.mem_map.2 ⟨x, hm, rfl⟩))); simp only [opDo, doBuildSlice, hp]
  case load t x => simp only [opDo, doLoad, hx x (by simp)]
  case store t x y => simp only [opDo, doStore, hx x (by simp), hx y (by simp)]
  case nilCheck x => simp only [opDo, doNilCheck, hx x (by simp)]
  case binOp op t x y u => simp only [opDo, doBinOp, hx x (by simp), hx y (by simp)]
  case unOp op t x => simp only [opDo, doUnOp, hx x (by simp)]
  case convert s d x => simp only [opDo, doConvert, hx x (by simp)]
  case sliceToArrayPointer t x => simp only [opDo, doSliceToArrayPointer, hx x (by simp)]
  case makeInterface t x => simp only [opDo, doMakeInterface, hx x (by simp)]
  case makeFunc fn xs ys => simp only [opDo, doMakeFunc, evs_congr (P := P) (tm := tm) (tm' := tm') (l := xs.toList) (fun x hm => hx x (by simp [Array.mem_toList_iff.1 hm])), evs_congr (P := P) (tm := tm) (tm' := tm') (l := ys.toList) (fun x hm => hx x (by simp [Array.mem_toList_iff.1 hm]))]
  case makeMap t r => rfl
  case makeSlice t x y => simp only [opDo, doMakeSlice, hx x (by simp), hx y (by simp)]
  case slice t x lo hi mx => simp only [opDo, doSlice, hx x (by simp), evo_congr (x := lo) (fun y hy => hx y (by simp [hy])), evo_congr (x := hi) (fun y hy => hx y (by simp [hy])), evo_congr (x := mx) (fun y hy => hx y (by simp [hy]))]
  case fieldAddr s x f => simp only [opDo, doFieldAddr, hx x (by simp)]
  case field s x f => simp only [opDo, doField, hx x (by simp)]
  case indexAddr t x y => simp only [opDo, doIndexAddr, hx x (by simp), hx y (by simp)]
  case index t x y => simp only [opDo, doIndex, hx x (by simp), hx y (by simp)]
  case lookup t x y ok => simp only [opDo, doLookup, hx x (by simp), hx y (by simp)]
  case mapUpdate t x y z => simp only [opDo, doMapUpdate, hx x (by simp), hx y (by simp), hx z (by simp)]
  case range t x => simp only [opDo, doRange, hx x (by simp)]
  case next x s => simp only [opDo, doNext, hx x (by simp)]
  case typeAssert x s t ok => simp only [opDo, doTypeAssert, hx x (by simp)]
  case extract x i => simp only [opDo, doExtract, hx x (by simp)]
  case call c =>
    have hargs := evs_congr (P := P) (tm := tm) (tm' := tm') (l := c.args.toList) (fun x hm => hx x (by simp [Call.operands, Array.mem_toList_iff.1 hm]))
    simp only [opDo, doCall, callD, hargs]
    cases hc : c.callee with
    | builtin b => rfl
    | value f => simp only [hx f (by simp [Call.operands, hc])]
    | invoke x n => simp only [hx x (by simp [Call.operands, hc])]
  all_goals rfl

/-! ### What looks at temporaries alone -/
def Indep (F : H → Option Out) : Prop := ∀ h v h', F h = some (.val v h') → ∀ h1 : H, h1.asm = h.asm → F h1 = some (.val v h1)
theorem indep_none : Indep (fun _ => none) := fun h v h' hh => by cases hh
theorem indep_val (v : IV) : Indep (fun h => some (.val v h)) := fun h u h' hh h1 _ => by cases hh; rfl
theorem indep_ob {α : Type} {x : Option α} {f : α → H → Option Out} (hf : ∀ a, Indep (f a)) : Indep (fun h => ob x fun a => f a h) := by
  cases x with
  | none => exact indep_none
  | some a => exact hf a
theorem pure_indep (op : Op) (hc : cls P op = .p) : Indep (fun h => opDo P tm h op) := by
  cases op <;> simp only [cls] at hc
  case convert s d x => split at hc <;> cases hc
  case call c => split at hc <;> cases hc
  case fieldAddr s x f =>
    simp only [opDo, doFieldAddr]
    refine indep_ob (fun p => ?_)
    cases p with
    | ptr b o =>
      refine indep_ob (fun fd => indep_ob (fun n => ?_))
      cases n with
      | zero => exact indep_none
      | succ n => exact indep_val _
    | _ => exact indep_none
  case build t ps =>
    simp only [opDo, doBuild]
    refine indep_ob (fun p => indep_ob (fun q => ?_))
    split
    · rename_i fs hu
      cases sizesD P fs.toList
      · exact indep_none
      · exact indep_ob (fun _ => indep_val _)
    · exact indep_ob (fun _ => indep_ob (fun _ => indep_val _))
    · exact indep_none
  case binOp op t x y u =>
    simp only [opDo, doBinOp]
    refine indep_ob (fun p => indep_ob (fun q => ?_))
    split
    · intro h v h' hh h1 ha
      obtain ⟨z, q1, q2⟩ := ob_some hh
      cases q2
      show (ob (binOpD P h1.asm op t p q) fun v => some (Out.val v h1)) = _
      rw [ha, ob_mk q1]
    · exact indep_none
  all_goals first
    | (cases hc; done)
    | exact indep_none
    | (simp only [opDo, doMove, doAssign, doPick, doNilCheck, doUnOp, doSliceToArrayPointer, doMakeInterface, doMakeFunc, doField, doIndexAddr, doIndex, doTypeAssert, doExtract]
       repeat' (first | exact indep_val _ | exact indep_none | refine indep_ob (fun _ => ?_) | split))

/-! ### The classes -/
theorem read_ok (hc : cls P o.op = .p ∨ cls P o.op = .l) (k : TmOK e tm a.tmps) (r : Rel P e h w) (hd : opDo P tm h o.op = some (.val v h')) : h' = h ∧ Val P e w a o v := by
  cases ho : o.op <;> rw [ho] at hd hc
  case move x => exact doMove_ok k r (.inl ho) hd
  case assign x => exact doMove_ok k r (.inr ho) hd
  case pick c x y => exact doPick_ok k r ho hd
  case build t ps => exact doBuild_ok k r ho hd
  case load t x => exact doLoad_ok k r ho hd
  case nilCheck x => exact doNilCheck_ok k r ho hd
  case binOp op t x y u => exact doBinOp_ok k r ho hd
  case unOp op t x => exact doUnOp_ok k r ho hd
  case convert s d x =>
    cases hm : makesRow P d with
    | true =>
      exfalso
      simp only [cls] at hc
      unfold makesRow at hm
      split at hm
      · rename_i el hu
        rw [hu] at hc
        rcases hc with hc | hc <;> cases hc
      · cases hm
    | false => exact doConvert_ok k r hm ho hd
  case sliceToArrayPointer t x => exact doSliceToArrayPointer_ok k r ho hd
  case makeInterface t x => exact doMakeInterface_ok k r ho hd
  case makeFunc fn xs ys => exact doMakeFunc_ok k r ho hd
  case slice t x lo hi mx => exact doSlice_ok k r ho hd
  case fieldAddr s x f => exact doFieldAddr_ok k r ho hd
  case field s x f => exact doField_ok k r ho hd
  case indexAddr t x y => exact doIndexAddr_ok k r ho hd
  case index t x y => exact doIndex_ok k r ho hd
  case lookup t x y ok => exact doLookup_ok k r ho hd
  case typeAssert x s t ok => exact doTypeAssert_ok k r ho hd
  case extract x i => exact doExtract_ok k r ho hd
  case call c =>
    simp only [cls] at hc
    split at hc
    · rename_i hcc; exact doCall_read_ok k r hcc (.inl rfl) ho hd
    · rename_i hcc; exact doCall_read_ok k r hcc (.inr (.inl rfl)) ho hd
    · rename_i hcc; exact doCall_read_ok k r hcc (.inr (.inr rfl)) ho hd
    · rcases hc with hc | hc <;> cases hc
  all_goals first
    | (cases hd; done)
    | (exfalso; simp only [cls] at hc; rcases hc with hc | hc <;> cases hc)
theorem alloc_ok (hc : cls P o.op = .a) (k : TmOK e tm a.tmps) (r : Rel P e h0 w) (hd : opDo P tm h o.op = some (.val v h')) : ∃ b, h' = h.new b ∧ b.rw = true ∧ Alloc P e w a o h.next v b := by
  cases ho : o.op <;> rw [ho] at hd hc
  case alloc t => exact doAlloc_ok (tm := tm) ho hd
  case box t x => exact doBox_ok k r ho hd
  case buildSlice t n ps => exact doBuildSlice_ok k r ho hd
  case convert s d x =>
    cases hm : makesRow P d with
    | true => exact doConvert_row_ok k r hm ho hd
    | false =>
      exfalso
      simp only [cls] at hc
      split at hc
      · rename_i hu; simp [makesRow, hu] at hm
      · cases hc
  case makeMap t x => exact doMakeMap_ok (tm := tm) ho hd
  case makeSlice t x y => exact doMakeSlice_ok k r ho hd
  case range t x => exact doRange_ok k r ho hd
  case call c =>
    exfalso
    simp only [cls] at hc
    split at hc <;> cases hc
  all_goals first
    | (cases hd; done)
    | (exfalso; simp only [cls] at hc; cases hc)
theorem valD_some {tm : Tm} {g : H} {op : Op} {r : IV × H} (hv : valD P tm g op = some r) : opDo P tm g op = some (.val r.1 r.2) := by
  obtain ⟨x, h1, h2⟩ := ob_some hv
  cases x with
  | val v h => cases h2; exact h1
  | call f args => cases h2
theorem actD_some {call : CallFn} {tm : Tm} {g : H} {op : Op} {r : IV × H} (hv : actD P call tm g op = some r) : Does P call tm g op r.1 r.2 := by
  obtain ⟨x, h1, h2⟩ := ob_some hv
  cases x with
  | val v h => cases h2; exact .inl h1
  | call f args => exact .inr ⟨f, args, h1, h2⟩
end

/-! ### Equal values -/
mutual
theorem eqIV_eq : ∀ (a b : IV), eqIV a b = true → a = b
  | .int k n, b, h => by
    cases b with
    | int k' n' =>
      simp only [eqIV] at h
      split at h
      · rename_i hk
        have := kindN_inj hk
        rw [eqZ_eq] at h
        have h2 : n = n' := by simpa using h
        rw [this, h2]
      · cases h
    | _ => simp [eqIV] at h
  | .sint k n, b, h => by
    cases b with
    | sint k' n' =>
      simp only [eqIV] at h
      split at h
      · rename_i hk
        rw [kindN_inj hk, eqSE_eq n n' h]
      · cases h
    | _ => simp [eqIV] at h
  | .optr i, b, h => by
    cases b with
    | optr j => simp only [eqIV] at h; rw [Nat.eq_of_beq_eq_true h]
    | _ => simp [eqIV] at h
  | .bool x, b, h => by
    cases b with
    | bool y => cases x <;> cases y <;> first | rfl | (simp [eqIV] at h)
    | _ => cases x <;> simp [eqIV] at h
  | .str s, b, h => by
    cases b with
    | str s' => simp only [eqIV] at h; rw [eqU_eq] at h; have : s = s' := by simpa using h
                rw [this]
    | _ => simp [eqIV] at h
  | .ptr x y, b, h => by
    cases b with
    | ptr x' y' =>
      simp only [eqIV] at h
      split at h
      · rename_i hk
        rw [Nat.eq_of_beq_eq_true hk, Nat.eq_of_beq_eq_true h]
      · cases h
    | _ => simp [eqIV] at h
  | .nilPtr, b, h => by cases b <;> simp [eqIV] at h <;> rfl
  | .slice x y z u, b, h => by
    cases b with
    | slice x' y' z' u' =>
      simp only [eqIV] at h
      split at h
      · rename_i h1 h2 h3
        rw [Nat.eq_of_beq_eq_true h1, Nat.eq_of_beq_eq_true h2, Nat.eq_of_beq_eq_true h3, Nat.eq_of_beq_eq_true h]
      · cases h
    | _ => simp [eqIV] at h
  | .nilSlice, b, h => by cases b <;> simp [eqIV] at h <;> rfl
  | .map x, b, h => by
    cases b with
    | map y => simp only [eqIV] at h; rw [Nat.eq_of_beq_eq_true h]
    | _ => simp [eqIV] at h
  | .nilMap, b, h => by cases b <;> simp [eqIV] at h <;> rfl
  | .func fn x y, b, h => by
    cases b with
    | func fn' x' y' =>
      cases fn <;> cases fn' <;> simp only [eqIV] at h <;> first | (cases h; done) | skip
      split at h
      · rename_i h1 h2
        rw [Nat.eq_of_beq_eq_true h1, eqIVs_eq x x' h2, eqIVs_eq y y' h]
      · cases h
    | _ => cases fn <;> simp [eqIV] at h
  | .nilFunc, b, h => by cases b <;> simp [eqIV] at h <;> rfl
  | .iface t x, b, h => by
    cases b with
    | iface t' x' =>
      simp only [eqIV] at h
      split at h
      · rename_i hk
        rw [Nat.eq_of_beq_eq_true hk, eqIV_eq x x' h]
      · cases h
    | _ => simp [eqIV] at h
  | .nilIface, b, h => by cases b <;> simp [eqIV] at h <;> rfl
  | .agg l, b, h => by
    cases b with
    | agg l' => simp only [eqIV] at h; rw [eqIVs_eq l l' h]
    | _ => simp [eqIV] at h
  | .tuple l, b, h => by
    cases b with
    | tuple l' => simp only [eqIV] at h; rw [eqIVs_eq l l' h]
    | _ => simp [eqIV] at h
theorem eqIVs_eq : ∀ (a b : List IV), eqIVs a b = true → a = b
  | [], b, h => by cases b with
    | nil => rfl
    | cons x l => simp [eqIVs] at h
  | x :: l, b, h => by
    cases b with
    | nil => simp [eqIVs] at h
    | cons y r =>
      simp only [eqIVs] at h
      split at h
      · rename_i h1
        rw [eqIV_eq x y h1, eqIVs_eq l r h]
      · cases h
end
end Go.Den
