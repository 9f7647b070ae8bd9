import Derived.Test.YtcncmfefcbdnoaaDoorXaD15
import Derived.Tactics
set_option linter.unusedVariables false
set_option linter.unusedSimpArgs false
namespace Go.Den
/-- A call answers. -/
def Answers (P : Program) (f : FuncId) (A : Array Value) (w : World) (K : Value → World → Prop) : Prop :=
  (∃ V w', (callFunc f A).run P w = .ok (.value V) w' ∧ K V w') ∨
  ((callFunc f A).run P w = .ok (.enter f A) w ∧ Calls P f A w (fun x w' => match x with | .returned V => K V w' | _ => False))
/-- What the evaluator says of calls is so. -/
def Sound (P : Program) (call : CallFn) : Prop := ∀ (f : FuncId) (args : List IV) (h : H) (v : IV) (h' : H), call f args h = some (v, h') →
  ∀ (e : Env) (w : World) (A : List Value), Rel P e h w → concL e args = some A → Answers P f A.toArray w (fun V w' => ∃ e', Step P e h w e' h' w' ∧ conc e' v = some V)
section
variable {P : Program} {e : Env} {h h0 h' : H} {w : World} {tm tm' : Tm} {a : Act} {o : Oper} {v : IV} {call : CallFn} {ops : Array Oper} {Q : Exit → Act → World → Prop} {sz : Nat}

/-- one operation, done -/
def Does (P : Program) (call : CallFn) (tm : Tm) (h : H) (op : Op) (v : IV) (h' : H) : Prop :=
  opDo P tm h op = some (.val v h') ∨ ∃ f args, opDo P tm h op = some (.call f args) ∧ call f args h = some (v, h')
theorem oper_wp (hs : Sound P call) (k : TmOK e tm a.tmps) (r : Rel P e h w) (hd : Does P call tm h o.op v h') {K : Act → World → Prop}
    (hK : ∀ V w' e', Step P e h w e' h' w' → conc e' v = some V → K (a.put o.dst V) w') : o.wp P a w K Q := by
  rcases hd with hd | ⟨f, args, hd, hc⟩
  · obtain ⟨V, w', e', hrun, hst, hcv⟩ := opDo_ok k r hd
    rcases hrun with hrun | ⟨hrun, rfl⟩
    · unfold Oper.wp; rw [hrun]; exact hK V w' e' hst hcv
    · unfold Oper.wp; rw [hrun]; exact hK undef w' e' hst hcv
  · obtain ⟨A, hA, hrun⟩ := opDo_call k r hd
    rcases hs f args h v h' hc e w A r hA with ⟨V, w', h1, e', h2, h3⟩ | ⟨h1, h2⟩
    · unfold Oper.wp; rw [hrun, h1]; exact hK V w' e' h2 h3
    · unfold Oper.wp
      rw [hrun, h1]
      refine Calls.mono h2 (fun x w' hx => ?_)
      cases x with
      | returned V => obtain ⟨e', h4, h5⟩ := hx; exact hK V w' e' h4 h5
      | panicked c => exact hx.elim
      | outgrown => exact hx.elim
theorem wantedD_ok (hk : ∀ j b, o.guard = some (j, b) → ∀ g d, ops[j]? = some g → g.dst = some d → ∀ v, tm.get d = some v → ∃ V, conc e v = some V ∧ a.tmps[d]? = some V) {b : Bool} (hw : wantedD tm ops o = some b) : Region.wanted o (yielded ops a.tmps) = b := by
  unfold wantedD at hw
  unfold Region.wanted
  cases hg : o.guard with
  | none => rw [hg] at hw; cases hw; rfl
  | some p =>
    rw [hg] at hw
    obtain ⟨g, h1, h2⟩ := ob_some hw
    obtain ⟨d, h3, h4⟩ := ob_some h2
    obtain ⟨j, want⟩ := p
    have hk' := hk j want hg g d h1 h3
    have hy : yielded ops a.tmps j = match a.tmps[d]? with | some (.bool b) => some b | _ => none := by
      unfold yielded
      simp only [h1, Option.bind_some, h3]
      rfl
    split at h4
    · rename_i x hx
      obtain ⟨V, h5, h6⟩ := hk' _ hx
      simp only [conc] at h5; cases h5
      cases h4
      simp only
      rw [hy, h6]
      show (some x == some want) = (x == want)
      cases x <;> cases want <;> rfl
    · rename_i hx
      obtain ⟨V, h5, h6⟩ := hk' _ hx
      simp only [conc, concL] at h5; cases h5
      cases h4
      simp only
      rw [hy, h6]
      rfl
    · cases h4
theorem putD_ok (k : TmOK e tm a.tmps) {d : Option Tmp} {V : Value} (hsz : a.tmps.size = sz) (hc : conc e v = some V) (hp : putD tm sz d v = some tm') : TmOK e tm' (a.put d V).tmps ∧ (a.put d V).tmps.size = sz ∧ (a.put d V).defers = a.defers := by
  cases d with
  | none => cases hp; exact ⟨k, hsz, rfl⟩
  | some t =>
    have hp' : @Bool.rec (fun _ => Option Tm) none (some (tm.put t v)) (Nat.blt t sz) = some tm' := hp
    cases hb : Nat.blt t sz with
    | false => rw [hb] at hp'; cases hp'
    | true =>
      rw [hb] at hp'
      cases hp'
      exact ⟨k.put (by rw [hsz]; exact Nat.blt_eq.mp hb) hc, by simp [Act.put, hsz], rfl⟩
theorem stepOp_some {next : Tm → H → Option (Tm × H)} {r : Tm × H} (hd : stepOp P call sz ops o next tm h = some r) :
    (wantedD tm ops o = some false ∧ ∃ tm1, putD tm sz o.dst undefIV = some tm1 ∧ next tm1 h = some r) ∨
    (wantedD tm ops o = some true ∧ ∃ v h1 tm1, Does P call tm h o.op v h1 ∧ putD tm sz o.dst v = some tm1 ∧ next tm1 h1 = some r) := by
  obtain ⟨b, h1, h2⟩ := ob_some hd
  cases b with
  | false =>
    obtain ⟨tm1, h3, h4⟩ := ob_some h2
    exact .inl ⟨h1, tm1, h3, h4⟩
  | true =>
    obtain ⟨x, h3, h4⟩ := ob_some h2
    cases x with
    | val v h1' =>
      obtain ⟨tm1, h5, h6⟩ := ob_some h4
      exact .inr ⟨h1, v, h1', tm1, .inl h3, h5, h6⟩
    | call f args =>
      obtain ⟨y, h5, h6⟩ := ob_some h4
      obtain ⟨tm1, h7, h8⟩ := ob_some h6
      exact .inr ⟨h1, y.1, y.2, tm1, .inr ⟨f, args, h3, h5⟩, h7, h8⟩
theorem opsD_ok (hs : Sound P call) (a0 : Act) : ∀ (l : List Oper) {e : Env} {h : H} {w : World} {tm : Tm} {a : Act} {r : Tm × H}, opsD P call sz ops l tm h = some r →
    TmOK e tm a.tmps → Rel P e h w → a.tmps.size = sz → a.defers = a0.defers →
    (∀ e' a' w', Step P e h w e' r.2 w' → TmOK e' r.1 a'.tmps → a'.tmps.size = sz → a'.defers = a0.defers → Q .normal a' w') → wpList P ops Q l a w
  | [], e, h, w, tm, a, r, hd, k, hr, hsz, hdf, hQ => by
    cases hd
    exact hQ e a w (Step.refl hr) k hsz hdf
  | o :: l, e, h, w, tm, a, r, hd, k, hr, hsz, hdf, hQ => by
    have hd' : stepOp P call sz ops o (opsD P call sz ops l) tm h = some r := hd
    have hg : ∀ j b, o.guard = some (j, b) → ∀ g d, ops[j]? = some g → g.dst = some d → ∀ v, tm.get d = some v → ∃ V, conc e v = some V ∧ a.tmps[d]? = some V := fun _ _ _ _ _ _ _ v hv => k _ v hv
    rcases stepOp_some hd' with ⟨h1, tm1, h2, h3⟩ | ⟨h1, v, h1', tm1, h2, h3, h4⟩
    · have hw := wantedD_ok hg h1
      simp only [wpList, hw]
      obtain ⟨k1, k2, k3⟩ := putD_ok (V := undef) k hsz rfl h2
      simp only [Bool.false_eq_true, if_false]
      exact opsD_ok hs a0 l h3 k1 hr k2 (k3.trans hdf) hQ
    · have hw := wantedD_ok hg h1
      simp only [wpList, hw, if_true]
      refine .inl (oper_wp hs k hr h2 (fun V w' e' hst hcv => ?_))
      obtain ⟨k1, k2, k3⟩ := putD_ok (k.mono hst.le) hsz hcv h3
      exact opsD_ok hs a0 l h4 k1 hst.rel k2 (k3.trans hdf) (fun e2 a2 w2 hst2 => hQ e2 a2 w2 (hst.trans hst2))
/-- A region in the order of its text. -/
theorem regionD_ok (hs : Sound P call) {id : Nat} {r : Tm × H} (hd : opsD P call sz ops ops.toList tm h = some r) (k : TmOK e tm a.tmps) (hr : Rel P e h w) (hsz : a.tmps.size = sz)
    (hQ : ∀ e' a' w', Step P e h w e' r.2 w' → TmOK e' r.1 a'.tmps → a'.tmps.size = sz → a'.defers = a.defers → Q .normal a' w') : (Code.region id ops false).wp P Q a w :=
  wp_region_list (opsD_ok hs a ops.toList hd k hr hsz rfl hQ)

/-! ### What a call hands back -/
def resV (tmps : Array Value) (x : ResultVar) : Sem Value := match x with
  | .tmp t => pure (tmps.getD t undef)
  | .cell b t => do Go.loadVar t (← asAddr (tmps.getD b undef))
theorem resD_ok (k : TmOK e tm a.tmps) (r : Rel P e h w) {x : ResultVar} (hd : resD P tm h x = some v) : ∃ V, conc e v = some V ∧ (resV a.tmps x).run P w = .ok V w := by
  cases x with
  | tmp t =>
    obtain ⟨V, h1, h2⟩ := k t v hd
    exact ⟨V, h1, by simp [resV, Array.getD_eq_getD_getElem?, h2]⟩
  | cell b t =>
    obtain ⟨p, h1, h2⟩ := ob_some hd
    obtain ⟨U, h3, h4⟩ := k b p h1
    split at h2
    · obtain ⟨q, hq, rfl⟩ := conc_ptr h3
      obtain ⟨V, h5, h6⟩ := loadVar_ok r hq h2
      exact ⟨V, h5, by simp [resV, Array.getD_eq_getD_getElem?, h4, asAddr, h6]⟩
    · cases h2
theorem resL_ok (k : TmOK e tm a.tmps) (r : Rel P e h w) : ∀ {l : List ResultVar} {vs : List IV}, resL P tm h l = some vs → ∃ L, concL e vs = some L ∧ L.length = l.length ∧ (l.mapM (resV a.tmps)).run P w = .ok L w
  | [], vs, hd => by cases hd; exact ⟨[], rfl, rfl, by simp⟩
  | x :: l, vs, hd => by
    obtain ⟨v, h1, h2⟩ := ob_some hd
    obtain ⟨r1, h3, h4⟩ := ob_some h2
    cases h4
    obtain ⟨V, h5, h6⟩ := resD_ok k r h1
    obtain ⟨L, h7, h8, h9⟩ := resL_ok k r h3
    refine ⟨V :: L, concL_mk h5 h7, by simp [h8], ?_⟩
    rw [List.mapM_cons]
    simp only [Sem.run_bind, h6, Result.andThen_ok, h9, Sem.run_pure]
theorem run_results_of {fn : Func} {L : List Value} (hrun : (fn.results.toList.mapM (resV a.tmps)).run P w = .ok L w) :
    (results fn a.tmps).run P w = .ok (if h : L.toArray.size = 1 then L.toArray[0] else .tuple L.toArray) w := by
  have h0 : results fn a.tmps = (do
      let vs ← fn.results.mapM (resV a.tmps)
      pure (if h : vs.size = 1 then vs[0] else .tuple vs)) := rfl
  rw [h0, Array.mapM_eq_mapM_toList]
  simp only [Sem.run_bind, map_eq_pure_bind, hrun, Result.andThen_ok, Sem.run_pure]
theorem resultsD_ok (k : TmOK e tm a.tmps) (r : Rel P e h w) {fn : Func} (hd : resultsD P fn tm h = some v) : ∃ V, conc e v = some V ∧ (results fn a.tmps).run P w = .ok V w := by
  unfold resultsD at hd
  split at hd
  · rename_i hl
    cases hd
    have := run_results_of (P := P) (w := w) (a := a) (fn := fn) (L := []) (by rw [hl]; simp)
    exact ⟨.tuple #[], rfl, by rw [this]; rfl⟩
  · rename_i x hl
    obtain ⟨V, h1, h2⟩ := resD_ok k r hd
    have := run_results_of (P := P) (w := w) (a := a) (fn := fn) (L := [V]) (by rw [hl, List.mapM_cons]; simp only [Sem.run_bind, h2, Result.andThen_ok]; simp)
    exact ⟨V, h1, by rw [this]; rfl⟩
  · rename_i hn1 hn2
    obtain ⟨vs, h1, h2⟩ := ob_some hd
    cases h2
    obtain ⟨L, h3, h4, h5⟩ := resL_ok k r h1
    have := run_results_of (P := P) (w := w) (a := a) (fn := fn) h5
    refine ⟨.tuple L.toArray, by simp only [conc, h3], ?_⟩
    rw [this]
    have hl : L.length ≠ 1 := by
      rw [h4]
      intro hv
      cases hr : fn.results.toList with
      | nil => exact hn1 hr
      | cons x l =>
        rw [hr] at hv
        cases l with
        | nil => exact hn2 x hr
        | cons y l => simp at hv
    simp [hl]
end
end Go.Den
