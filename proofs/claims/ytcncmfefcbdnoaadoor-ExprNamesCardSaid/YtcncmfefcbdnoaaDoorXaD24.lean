import Derived.Test.YtcncmfefcbdnoaaDoorXaD23
import Derived.KernelRfl
set_option linter.unusedVariables false
set_option linter.unusedSimpArgs false
noncomputable section
namespace Go.Den
/-! ### The program, looked at once -/
def edgesB (j : Nat) (l : List Edge) : Bool := @List.rec Edge (fun _ => Bool) true (fun e _ ih => @Bool.rec (fun _ => Bool) ih (@Bool.rec (fun _ => Bool) false ih (Nat.blt e.on j)) (Region.binds .any e)) l
def apartB (ops : Array Oper) (m : Nat) (o : Oper) (l : List (Nat × Oper)) : Bool := @List.rec (Nat × Oper) (fun _ => Bool) true (fun p _ ih => @Bool.rec (fun _ => Bool) (@Bool.rec (fun _ => Bool) false ih (p.2.apart ops o)) ih (bit m p.1)) l
def drawnGo (ops : Array Oper) (l : List Oper) : Nat → T Nat → List (Nat × Oper) → Bool :=
  @List.rec Oper (fun _ => Nat → T Nat → List (Nat × Oper) → Bool) (fun _ _ _ => true) (fun o _ ih j acc el =>
    @Bool.rec (fun _ => Bool) false (@Bool.rec (fun _ => Bool) false (ih (j + 1) (acc.put j (maskL acc o.after.toList)) ((j, o) :: el)) (apartB ops (maskL acc o.after.toList) o el)) (edgesB j o.after.toList)) l
def drawnB (ops : Array Oper) : Bool := drawnGo ops ops.toList 0 .nil []
def codeB (c : Code) : Bool := @Code.rec (fun _ => Bool) true (fun _ ops draw => @Bool.rec (fun _ => Bool) true (drawnB ops) draw) (fun _ _ a b => @Bool.rec (fun _ => Bool) false b a) (fun _ _ _ a b => @Bool.rec (fun _ => Bool) false b a)
  (fun _ _ b => b) (fun _ b => b) (fun _ _ _ _ _ _ => true) (fun _ => true) (fun _ _ => true) (fun _ => true) (fun _ => true) true (fun _ => true) c
def funcB (fn : Func) : Bool := @Option.rec Code (fun _ => Bool) true (fun c => @Bool.rec (fun _ => Bool) false (codeB c) (!(fn.name == "runtime.NumGoroutine"))) fn.body
def funcsB (l : List Func) : Bool := @List.rec Func (fun _ => Bool) true (fun fn _ ih => @Bool.rec (fun _ => Bool) false ih (funcB fn)) l
theorem edgesB_mem {j : Nat} : ∀ {l : List Edge}, edgesB j l = true → ∀ e ∈ l, Region.binds .any e = true → e.on < j
  | [], _, e, he, _ => by cases he
  | x :: l, h, e, he, hb => by
    have h' : @Bool.rec (fun _ => Bool) (edgesB j l) (@Bool.rec (fun _ => Bool) false (edgesB j l) (Nat.blt x.on j)) (Region.binds .any x) = true := h
    cases hx : Region.binds .any x with
    | false =>
      rw [hx] at h'
      rcases List.mem_cons.1 he with rfl | he
      · rw [hx] at hb; cases hb
      · exact edgesB_mem h' e he hb
    | true =>
      rw [hx] at h'
      cases hl : Nat.blt x.on j with
      | false => rw [hl] at h'; cases h'
      | true =>
        rw [hl] at h'
        rcases List.mem_cons.1 he with rfl | he
        · exact Nat.blt_eq.mp hl
        · exact edgesB_mem h' e he hb
theorem apartB_mem {ops : Array Oper} {m : Nat} {o : Oper} : ∀ {l : List (Nat × Oper)}, apartB ops m o l = true → ∀ p ∈ l, bit m p.1 = true ∨ p.2.apart ops o = true
  | [], _, p, hp => by cases hp
  | x :: l, h, p, hp => by
    have h' : @Bool.rec (fun _ => Bool) (@Bool.rec (fun _ => Bool) false (apartB ops m o l) (x.2.apart ops o)) (apartB ops m o l) (bit m x.1) = true := h
    cases hb : bit m x.1 with
    | true =>
      rw [hb] at h'
      rcases List.mem_cons.1 hp with rfl | hp
      · exact .inl hb
      · exact apartB_mem h' p hp
    | false =>
      rw [hb] at h'
      cases ha : x.2.apart ops o with
      | false => rw [ha] at h'; cases h'
      | true =>
        rw [ha] at h'
        rcases List.mem_cons.1 hp with rfl | hp
        · exact .inr ha
        · exact apartB_mem h' p hp
theorem drawnGo_ok {ops : Array Oper} : ∀ (l : List Oper) (j : Nat) (el : List (Nat × Oper)), drawnGo ops l j (accN ops.toList j) el = true → (∀ k o, l[k]? = some o → ops.toList[j + k]? = some o) →
    (∀ i o, i < j → ops.toList[i]? = some o → (i, o) ∈ el) → ∀ k o, l[k]? = some o → edgesB (j + k) o.after.toList = true ∧ ∀ i oi, i < j + k → ops.toList[i]? = some oi → bit (msk ops.toList (j + k)) i = true ∨ oi.apart ops o = true
  | [], j, el, h, hL, hel, k, o, hk => by simp at hk
  | x :: l, j, el, h, hL, hel, k, o, hk => by
    have hx : ops.toList[j]? = some x := hL 0 x rfl
    have hm : maskL (accN ops.toList j) x.after.toList = msk ops.toList j := by simp only [msk, hx]
    have ha : (accN ops.toList j).put j (maskL (accN ops.toList j) x.after.toList) = accN ops.toList (j + 1) := by simp only [accN, hx]
    have h' : @Bool.rec (fun _ => Bool) false (@Bool.rec (fun _ => Bool) false (drawnGo ops l (j + 1) ((accN ops.toList j).put j (maskL (accN ops.toList j) x.after.toList)) ((j, x) :: el)) (apartB ops (maskL (accN ops.toList j) x.after.toList) x el)) (edgesB j x.after.toList) = true := h
    rw [ha, hm] at h'
    cases he : edgesB j x.after.toList with
    | false => rw [he] at h'; cases h'
    | true =>
      rw [he] at h'
      cases hap : apartB ops (msk ops.toList j) x el with
      | false => rw [hap] at h'; cases h'
      | true =>
        rw [hap] at h'
        cases k with
        | zero =>
          simp at hk; subst hk
          exact ⟨he, fun i oi hi hoi => apartB_mem hap _ (hel i oi (by omega) hoi)⟩
        | succ k =>
          have := drawnGo_ok l (j + 1) ((j, x) :: el) h' (fun k o hk => by have := hL (k + 1) o (by simpa using hk); rwa [show j + (k + 1) = j + 1 + k by omega] at this) (fun i oi hi hoi => by
            rcases Nat.lt_or_ge i j with hh | hh
            · exact List.mem_cons_of_mem _ (hel i oi hh hoi)
            · have : i = j := by omega
              subst this
              rw [hx] at hoi; cases hoi
              exact List.mem_cons_self) k o (by simpa using hk)
          rw [show j + (k + 1) = j + 1 + k by omega]
          exact this
theorem drawnB_ok {ops : Array Oper} (h : drawnB ops = true) : DrawnOK ops := by
  have key := drawnGo_ok (ops := ops) ops.toList 0 [] h (fun k o hk => by simpa using hk) (fun i o hi => by omega)
  refine ⟨fun j o hj e he hb => ?_, fun i j oi oj hij hi hj => ?_⟩
  · have := (key j o hj).1
    rw [Nat.zero_add] at this
    exact edgesB_mem this e (Array.mem_toList_iff.2 he) hb
  · have := (key j oj hj).2 i oi (by omega) hi
    rw [Nat.zero_add] at this
    exact this
theorem codeB_ok : ∀ (c : Code), codeB c = true → CodeOK c
  | .skip, _ => trivial
  | .region id ops draw, h => fun hd => by
    subst hd
    exact drawnB_ok h
  | .seq a b, h => by
    have h' : @Bool.rec (fun _ => Bool) false (codeB b) (codeB a) = true := h
    cases ha : codeB a with
    | false => rw [ha] at h'; cases h'
    | true => rw [ha] at h'; exact ⟨codeB_ok a ha, codeB_ok b h'⟩
  | .cond _ a b, h => by
    have h' : @Bool.rec (fun _ => Bool) false (codeB b) (codeB a) = true := h
    cases ha : codeB a with
    | false => rw [ha] at h'; cases h'
    | true => rw [ha] at h'; exact ⟨codeB_ok a ha, codeB_ok b h'⟩
  | .block _ b, h => codeB_ok b h
  | .loop b, h => codeB_ok b h
  | .rangeFunc .., _ => trivial
  | .exit _, _ => trivial
  | .scope _, _ => trivial
  | .label _, _ => trivial
  | .goto _, _ => trivial
  | .ret, _ => trivial
  | .refuse _, _ => trivial
theorem funcsB_mem : ∀ {l : List Func}, funcsB l = true → ∀ fn ∈ l, funcB fn = true
  | [], _, fn, hf => by cases hf
  | x :: l, h, fn, hf => by
    have h' : @Bool.rec (fun _ => Bool) false (funcsB l) (funcB x) = true := h
    cases hx : funcB x with
    | false => rw [hx] at h'; cases h'
    | true =>
      rw [hx] at h'
      rcases List.mem_cons.1 hf with rfl | hf
      · exact hx
      · exact funcsB_mem h' fn hf
theorem static_of {P : Program} (hm : P.follows .mixedOrders = true) (h : funcsB P.funcs.toList = true) : Static P := by
  have key : ∀ (f : FuncId) (fn : Func) (c : Code), P.funcs[f]? = some fn → fn.body = some c → CodeOK c ∧ (fn.name == "runtime.NumGoroutine") = false := by
    intro f fn c hf hb
    have hx := funcsB_mem h fn (Array.mem_toList_iff.2 (Array.mem_of_getElem? hf))
    unfold funcB at hx
    rw [hb] at hx
    have hx' : @Bool.rec (fun _ => Bool) false (codeB c) (!(fn.name == "runtime.NumGoroutine")) = true := hx
    cases hn : (fn.name == "runtime.NumGoroutine") with
    | true => rw [hn] at hx'; cases hx'
    | false => rw [hn] at hx'; exact ⟨codeB_ok c hx', rfl⟩
  exact ⟨hm, fun f fn c hf hb => (key f fn c hf hb).1, fun f fn c hf hb => (key f fn c hf hb).2⟩
end Go.Den
