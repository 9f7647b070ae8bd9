import Derived.Test.YtcncmfefcbdnoaaDoorXaD6
set_option linter.unusedVariables false
set_option linter.unusedSimpArgs false
namespace Go.Den
section
variable {P : Program} {e : Env} {h h' : H} {w : World} {tm : Tm} {a : Act} {o : Oper} {v : IV}

/-! ### Maps -/
/-- The entries, one by one. -/
def EntsOK (e : Env) (es : List (IV × IV)) (E : List MapEntry) : Prop := E.length = es.length ∧ ∀ (i : Nat) (k v : IV), es[i]? = some (k, v) → ∃ m : MapEntry, E[i]? = some m ∧ conc e k = some m.key ∧ conc e v = some m.val
theorem EntsOK.cons {es : List (IV × IV)} {E : List MapEntry} {k v : IV} (h : EntsOK e ((k, v) :: es) E) : ∃ m R, E = m :: R ∧ conc e k = some m.key ∧ conc e v = some m.val ∧ EntsOK e es R := by
  cases E with
  | nil => exact absurd h.1 (by simp)
  | cons m R =>
    obtain ⟨m', h1, h2, h3⟩ := h.2 0 k v rfl
    simp at h1; subst h1
    refine ⟨_, R, rfl, h2, h3, by simpa using h.1, fun i k v hi => ?_⟩
    obtain ⟨m2, h4, h5, h6⟩ := h.2 (i + 1) k v (by simpa using hi)
    exact ⟨m2, by simpa using h4, h5, h6⟩
theorem eqBA (x y : List UInt8) : ((⟨x.toArray⟩ : ByteArray) == ⟨y.toArray⟩) = (x == y) := by
  rw [beq_toListBytes, toList_ba, toList_ba]
theorem findKey_ok {k : List UInt8} : ∀ (es : List (IV × IV)) (E : List MapEntry) (i : Nat), EntsOK e es E → ∀ {x : Option IV}, findKey k es = some x →
    match x with
    | some v => ∃ j V, j < E.length ∧ Instr.findNow .string (.string ⟨k.toArray⟩) E i = some (some (i + j, V)) ∧ conc e v = some V ∧ es[j]? = some (.str k, v) ∧ ∀ v', putKey k v' es = some (es.set j (.str k, v'))
    | none => Instr.findNow .string (.string ⟨k.toArray⟩) E i = some none ∧ ∀ v', putKey k v' es = some (es ++ [(.str k, v')])
  | [], E, i, hE, x, hx => by
    cases hx
    cases E with
    | nil => exact ⟨rfl, fun v' => rfl⟩
    | cons m R => exact absurd hE.1 (by simp)
  | (ky, vv) :: es, E, i, hE, x, hx => by
    obtain ⟨m, R, rfl, h1, h2, h3⟩ := hE.cons
    cases ky with
    | str y =>
      have hx' : @Bool.rec (fun _ => Option (Option IV)) (findKey k es) (some (some vv)) (eqU k y) = some x := hx
      have hp : ∀ v', putKey k v' ((.str y, vv) :: es) = @Bool.rec (fun _ => Option (List (IV × IV))) (ob (putKey k v' es) fun l => some ((.str y, vv) :: l)) (some ((.str y, v') :: es)) (eqU k y) := fun v' => rfl
      simp only [conc] at h1
      have h1' := Option.some.inj h1
      cases hb : eqU k y with
      | true =>
        rw [hb] at hx'
        cases hx'
        have hky : k = y := by rw [eqU_eq] at hb; simpa using hb
        subst hky
        refine ⟨0, m.val, by simp, ?_, h2, rfl, fun v' => by rw [hp, hb]; rfl⟩
        simp [Instr.findNow, Instr.sameNow, ← h1', eqBA]
      | false =>
        rw [hb] at hx'
        have hky : ((⟨k.toArray⟩ : ByteArray) == ⟨y.toArray⟩) = false := by rw [eqBA, ← eqU_eq, hb]
        have ih := findKey_ok es R (i + 1) h3 (show findKey k es = some x from hx')
        have hf : Instr.findNow .string (.string ⟨k.toArray⟩) (m :: R) i = Instr.findNow .string (.string ⟨k.toArray⟩) R (i + 1) := by
          simp only [Instr.findNow, Instr.sameNow, ← h1', hky]
        cases x with
        | none => exact ⟨by rw [hf]; exact ih.1, fun v' => by rw [hp, hb]; show ob (putKey k v' es) _ = _; rw [ih.2 v']; rfl⟩
        | some v =>
          obtain ⟨j, V, h4, h5, h6, h7, h8⟩ := ih
          exact ⟨j + 1, V, by simpa using h4, by rw [hf, h5]; simp; omega, h6, by simpa using h7, fun v' => by rw [hp, hb]; show ob (putKey k v' es) _ = _; rw [h8 v']; rfl⟩
    | _ => cases hx
theorem run_checkKey_string (b : Bool) (n : Nat) {t : TypeId} (ht : P.underlying t = some .string) (k : ByteArray) : (Instr.checkKey b (n + 1) t (.string k)).run P w = .ok () w := by
  simp [Instr.checkKey, run_underlying ht]
theorem map_at (r : Rel P e h w) {b : Nat} {es : List (IV × IV)} {p : Nat × (Nat → Nat)} (hb : h.m.get b = some (.map es)) (hp : e b = some p) : ∃ E clk, w.heap[p.1]? = some (.map E clk) ∧ EntsOK e es E.toList := by
  obtain ⟨E, clk, h1, h2, h3⟩ := r.at hb hp
  exact ⟨E, clk, h1, h2, fun i k v hi => by obtain ⟨m, q1, q2, q3⟩ := h3 i k v hi; exact ⟨m, by simpa using q1, q2, q3⟩⟩
theorem run_getObj_map {b : Nat} {E : Array MapEntry} {clk : Nat} (hb : w.heap[b]? = some (.map E clk)) : (getObj b).run P w = .ok (.map E clk) w := by
  simp [getObj, Sem.run, hb]
theorem lookupD_ok (r : Rel P e h w) {t : TypeId} {x k : IV} {X K : Value} {ok : Bool} (hx : conc e x = some X) (hk : conc e k = some K) (hd : lookupD P h t x k ok = some v) : ∃ V, conc e v = some V ∧ (Instr.lookup t X K ok).run P w = .ok V w := by
  unfold lookupD at hd
  split at hd
  · rename_i kt el ks hu
    split at hd
    · rename_i hkt
      simp only [conc] at hk; cases hk
      obtain ⟨es, h1, h2⟩ := ob_some hd
      obtain ⟨fr, h3, h4⟩ := ob_some h2
      have key : ∀ E : Array MapEntry, EntsOK e es E.toList → (do
          Instr.checkKey E.isEmpty 10000 kt (.string ⟨ks.toArray⟩)
          let (v, ok') ← match ← Instr.findKey kt (.string ⟨ks.toArray⟩) E.toList with
            | some (_, v) => pure (v, true)
            | none => pure (← zeroValue el, false)
          pure (if ok then .tuple #[v, .bool ok'] else v) : Sem Value).run P w = .ok ((conc e v).getD undef) w ∧ (conc e v).isSome := by
        intro E hE
        have hf := findKey_ok es E.toList 0 hE h3
        cases fr with
        | some u =>
          obtain ⟨j, V, h5, h6, h7, h8, h9⟩ := hf
          cases ok with
          | true =>
            cases h4
            constructor
            · simp [run_checkKey_string _ _ hkt, Instr.findKey, run_underlying hkt, h6, conc, concL, h7]
            · simp [conc, concL, h7]
          | false =>
            cases h4
            constructor
            · simp [run_checkKey_string _ _ hkt, Instr.findKey, run_underlying hkt, h6, h7]
            · simp [h7]
        | none =>
          obtain ⟨z, h5, h6⟩ := ob_some h4
          obtain ⟨i, Z, h7, h8, h9⟩ := zero_ok h5
          have h10 := ofValue_ok (e := e) h9
          have h11 := run_zeroValue' h7 h8 w
          cases ok with
          | true =>
            cases h6
            constructor
            · simp [run_checkKey_string _ _ hkt, Instr.findKey, run_underlying hkt, hf.1, conc, concL, h10, h11]
            · simp [conc, concL, h10]
          | false =>
            cases h6
            constructor
            · simp [run_checkKey_string _ _ hkt, Instr.findKey, run_underlying hkt, hf.1, h10, h11]
            · simp [h10]
      have fin : ∀ E : Array MapEntry, EntsOK e es E.toList → (Instr.lookup t X (.string ⟨ks.toArray⟩) ok).run P w = (do
          Instr.checkKey E.isEmpty 10000 kt (.string ⟨ks.toArray⟩)
          let (v, ok') ← match ← Instr.findKey kt (.string ⟨ks.toArray⟩) E.toList with
            | some (_, v) => pure (v, true)
            | none => pure (← zeroValue el, false)
          pure (if ok then .tuple #[v, .bool ok'] else v) : Sem Value).run P w → ∃ V, conc e v = some V ∧ (Instr.lookup t X (.string ⟨ks.toArray⟩) ok).run P w = .ok V w := by
        intro E hE hl
        obtain ⟨q1, q2⟩ := key E hE
        obtain ⟨V, hV⟩ := Option.isSome_iff_exists.1 q2
        exact ⟨V, hV, by rw [hl, q1, hV]; rfl⟩
      split at h1
      · cases h1
        simp only [conc] at hx; cases hx
        refine fin #[] ⟨rfl, by simp⟩ ?_
        unfold Instr.lookup
        simp only [Sem.run_bind, run_underlying hu, Result.andThen_ok, Sem.run_pure]
        rfl
      · obtain ⟨blk, h5, h6⟩ := ob_some h1
        split at h6
        · cases h6
          obtain ⟨p, hp, rfl⟩ := conc_map hx
          obtain ⟨E, clk, h7, h8⟩ := map_at r h5 hp
          refine fin E h8 ?_
          unfold Instr.lookup
          simp only [Sem.run_bind, run_underlying hu, Result.andThen_ok, Sem.run_pure, run_getObj_map h7]
          rfl
        · cases h6
      · cases h1
    · cases hd
  · cases hd
theorem doLookup_ok (k : TmOK e tm a.tmps) (r : Rel P e h w) {t : TypeId} {x y : Operand} {ok : Bool} (ho : o.op = .lookup t x y ok) (hd : doLookup P tm h t x y ok = some (.val v h')) : h' = h ∧ Val P e w a o v := by
  obtain ⟨p, h1, h2⟩ := ob_some hd
  obtain ⟨q, h3, h4⟩ := ob_some h2
  obtain ⟨u, h5, h6⟩ := ob_some h4
  cases h6
  obtain ⟨V, h7, h8⟩ := lookupD_ok r (ev_ok k r h1) (ev_ok k r h3) h5
  exact ⟨rfl, Val.mk (s := Instr.lookup t (a.eval x) (a.eval y) ok) (by simp only [execOp, ho]) h7 h8⟩

/-! ### Types -/
theorem info_ok {t : TypeId} {i : TypeInfo} (hi : P.info? t = some i) : (typeInfo t).run P w = .ok i w := by simp [typeInfo, hi]
theorem hasM_any {name : String} {sig : TypeId} : ∀ (l : List Method), l.any (fun m => m.name == name && m.sig == sig) = hasM name sig l
  | [] => rfl
  | m :: l => by
    have h1 : hasM name sig (m :: l) = @Bool.rec (fun _ => Bool) (hasM name sig l) (@Bool.rec (fun _ => Bool) (hasM name sig l) true (m.name == name)) (Nat.beq m.sig sig) := rfl
    have h2 : (m.sig == sig) = Nat.beq m.sig sig := by rw [Bool.eq_iff_iff]; simp [Nat.beq_eq]
    rw [h1, List.any_cons, hasM_any l, h2]
    cases (m.name == name) <;> cases Nat.beq m.sig sig <;> rfl
theorem lacks_filter {got : Array Method} : ∀ (want : List (String × TypeId)), lacks want got.toList = !(want.filter fun (name, sig) => !got.any fun m => m.name == name && m.sig == sig).isEmpty
  | [] => rfl
  | p :: want => by
    have h1 : lacks (p :: want) got.toList = @Bool.rec (fun _ => Bool) true (lacks want got.toList) (hasM p.1 p.2 got.toList) := rfl
    have h2 : got.any (fun m => m.name == p.1 && m.sig == p.2) = hasM p.1 p.2 got.toList := by rw [← hasM_any, Array.any_toList]
    rw [h1, List.filter_cons]
    simp only [h2]
    cases hasM p.1 p.2 got.toList with
    | true => simp only [Bool.not_true, Bool.false_eq_true, if_false]; exact lacks_filter want
    | false => simp
theorem least_cons (x : String) (l : List String) : ∃ s, Instr.least (x :: l) = some s := ⟨_, rfl⟩
theorem missing_false {want : Array (String × TypeId)} {got : Array Method} (h : lacks want.toList got.toList = false) : Instr.missingMethod want got = none := by
  rw [lacks_filter] at h
  have h' : (want.toList.filter fun (name, sig) => !got.any fun m => m.name == name && m.sig == sig) = [] := by simpa using h
  unfold Instr.missingMethod
  rw [h']
  rfl
theorem missing_true {want : Array (String × TypeId)} {got : Array Method} (h : lacks want.toList got.toList = true) : ∃ s, Instr.missingMethod want got = some s := by
  rw [lacks_filter] at h
  unfold Instr.missingMethod
  generalize hf : (want.toList.filter fun (name, sig) => !got.any fun m => m.name == name && m.sig == sig) = f at h
  cases f with
  | nil => simp at h
  | cons p r =>
    simp only [List.map_cons]
    have key : ∀ (x : String) (l : List String), ∃ s, (let (unexported, exported) := (x :: l).partition (·.contains '.'); Instr.least exported <|> Instr.least (unexported.map fun id => (id.splitOn ".").getLastD id)) = some s := by
      intro x l
      simp only [List.partition_eq_filter_filter]
      cases hx : (x :: l).filter (not ∘ fun x => x.contains '.') with
      | cons y ys => obtain ⟨s, hs⟩ := least_cons y ys; exact ⟨s, by rw [hs]; rfl⟩
      | nil =>
        cases hy : (x :: l).filter (fun x => x.contains '.') with
        | cons y ys => obtain ⟨s, hs⟩ := least_cons ((y.splitOn ".").getLastD y) (ys.map fun id => (id.splitOn ".").getLastD id); exact ⟨s, by rw [List.map_cons, hs]; rfl⟩
        | nil =>
          exfalso
          rw [List.filter_eq_nil_iff] at hx hy
          have h1 := hx x (by simp)
          have h2 := hy x (by simp)
          simp at h1 h2
          exact h2 h1
    exact key _ _
theorem doTypeAssert_ok (k : TmOK e tm a.tmps) (r : Rel P e h w) {x : Operand} {s t : TypeId} {ok : Bool} (ho : o.op = .typeAssert x s t ok) (hd : doTypeAssert P tm h x t ok = some (.val v h')) : h' = h ∧ Val P e w a o v := by
  obtain ⟨p, h1, h2⟩ := ob_some hd
  obtain ⟨q, h3, h4⟩ := ob_some h2
  have hx := ev_ok k r h1
  have hE : execOp a.eval o = (do pure (Next.value (← Instr.typeAssert (a.eval x) s t ok))) := by simp only [execOp, ho]
  obtain ⟨u, hu, h5⟩ := ob_some h3
  -- what holds
  have holds : ∀ {c : IV} {C : Value}, conc e c = some C → q = some c → (Instr.typeAssert (a.eval x) s t ok).run P w = .ok (if ok then .tuple #[C, .bool true] else C) w → h' = h ∧ Val P e w a o v := by
    intro c C hc hq hrun
    subst hq
    cases ok with
    | true => cases h4; exact ⟨rfl, Val.mk hE (V := .tuple #[C, .bool true]) (by simp [conc, concL, hc]) hrun⟩
    | false => cases h4; exact ⟨rfl, Val.mk hE hc hrun⟩
  have fails : q = none → (ok = true → (Instr.typeAssert (a.eval x) s t ok).run P w = (do pure (.tuple #[← zeroValue t, .bool false]) : Sem Value).run P w) → h' = h ∧ Val P e w a o v := by
    intro hq hrun
    subst hq
    cases ok with
    | false => cases h4
    | true =>
      obtain ⟨z, h6, h7⟩ := ob_some h4
      cases h7
      obtain ⟨i, Z, h7, h8, h9⟩ := zero_ok h6
      have h10 := ofValue_ok (e := e) h9
      have h11 := run_zeroValue' h7 h8 w
      exact ⟨rfl, Val.mk hE (V := .tuple #[Z, .bool false]) (by simp [conc, concL, h10]) (by rw [hrun rfl]; simp [h11])⟩
  split at h5
  · cases h5
    simp only [conc] at hx
    refine fails rfl (fun hk => ?_)
    rw [← Option.some.inj hx, hk]
    simp [Instr.typeAssert, run_underlying hu]
  · rename_i want ty vy
    obtain ⟨i, h6, h7⟩ := ob_some h5
    obtain ⟨U, hU, hV⟩ := conc_iface hx
    split at h7
    · rename_i hm'
      have hm := missing_false hm'
      cases h7
      refine holds hx rfl ?_
      rw [hV]
      simp [Instr.typeAssert, run_underlying hu, info_ok h6, hm]
    · rename_i hm'
      obtain ⟨m, hm⟩ := missing_true hm'
      cases h7
      refine fails rfl (fun hk => ?_)
      rw [hV, hk]
      simp [Instr.typeAssert, run_underlying hu, info_ok h6, hm]
  · rename_i hni
    cases h5
    simp only [conc] at hx
    refine fails rfl (fun hk => ?_)
    rw [← Option.some.inj hx, hk]
    cases u <;> first | (exact (hni _ rfl rfl).elim) | (exact (hni _ rfl).elim) | simp [Instr.typeAssert, run_underlying hu]
  · rename_i ty vy hni
    obtain ⟨U, hU, hV⟩ := conc_iface hx
    split at h5
    · rename_i hb
      cases h5
      have hty := Nat.eq_of_beq_eq_true hb
      subst hty
      refine holds hU rfl ?_
      rw [hV]
      cases u <;> first | (exact (hni _ _ _ rfl rfl).elim) | (exact (hni _ rfl).elim) | simp [Instr.typeAssert, run_underlying hu]
    · rename_i hb
      cases h5
      have hty : ty ≠ t := fun he => by subst he; simp at hb
      refine fails rfl (fun hk => ?_)
      rw [hV, hk]
      cases u <;> first | (exact (hni _ _ _ rfl rfl).elim) | (exact (hni _ rfl).elim) | simp [Instr.typeAssert, run_underlying hu, hty]
  · cases h5

/-! ### Lengths, the least, the greatest -/
theorem call_builtin {c : Call} {b : Builtin} (ho : o.op = .call c) (hb : c.callee = .builtin b) :
    ∃ consts, (execOp a.eval o).run P w = (builtin b c.argTypes o.type consts (c.args.map a.eval)).run P w := by
  refine ⟨c.args.map fun | .const _ => true | _ => false, ?_⟩
  simp only [execOp, ho, resolve, hb]
  simp only [Sem.run_bind, Sem.run_pure, Result.andThen_ok, invoke]
  rfl
theorem lenD_ok (r : Rel P e h w) {c : Call} {x : IV} {X : Value} {t : TypeId} (hx : conc e x = some X) (hd : lenD P h t x = some v) (ts : Array TypeId) (ht : ts[0]? = some t) (ty : TypeId) : ∃ V, conc e v = some V ∧ (Builtin.len_ ts ty #[X]).run P w = .ok V w := by
  obtain ⟨u, hu, h1⟩ := ob_some hd
  split at h1
  · cases h1; simp only [conc] at hx; cases hx
    exact ⟨_, rfl, by simp [Builtin.len_, ht, run_underlying hu, goInt, size_ba]⟩
  · cases h1; obtain ⟨p, hp, rfl⟩ := conc_slice hx
    exact ⟨_, rfl, by simp [Builtin.len_, ht, run_underlying hu, goInt]⟩
  · cases h1; simp only [conc] at hx; cases hx
    exact ⟨_, rfl, by simp [Builtin.len_, ht, run_underlying hu, goInt]⟩
  · cases h1; simp only [conc] at hx; cases hx
    exact ⟨_, rfl, by simp [Builtin.len_, ht, run_underlying hu, goInt]⟩
  · obtain ⟨blk, h2, h3⟩ := ob_some h1
    split at h3
    · cases h3
      obtain ⟨p, hp, rfl⟩ := conc_map hx
      obtain ⟨E, clk, h4, h5⟩ := map_at r h2 hp
      refine ⟨_, rfl, ?_⟩
      have hl := h5.1
      simp at hl
      simp [Builtin.len_, ht, run_underlying hu, goInt, run_getObj_map h4, hl]
    · cases h3
  · cases h1
end
end Go.Den
