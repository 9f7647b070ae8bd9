import Derived.Test.YtcncmfefcbdnoaaDoorXaD26
set_option linter.unusedVariables false
set_option linter.unusedSimpArgs false
noncomputable section
namespace Go.Den
/-! ### The memory that a law begins with -/
/-- a block that may not be written -/
def ro (l : List IV) : Blk := .cells 0 l.length [] (listT l 0 .nil) 2
def putL (l : List (Nat × Blk)) : T Blk := @List.rec (Nat × Blk) (fun _ => T Blk) .nil (fun p _ ih => ih.put p.1 p.2) l
def baseE (gs : Nat) (ρ : Nat → Int) (ω : Nat → Addr) : Env := ⟨fun g => if g ≤ gs then some (g, fun _ => 0) else none, ρ, ω⟩
theorem putL_get : ∀ {l : List (Nat × Blk)} {i : Nat} {b : Blk}, (putL l).get i = some b → (i, b) ∈ l
  | [], i, b, h => by rw [show putL [] = T.nil from rfl, get_nil] at h; cases h
  | p :: l, i, b, h => by
    have h' : ((putL l).put p.1 p.2).get i = some b := h
    rw [get_put] at h'
    by_cases hi : i = p.1
    · rw [if_pos hi] at h'; cases h'; subst hi; exact List.mem_cons_self
    · rw [if_neg hi] at h'; exact List.mem_cons_of_mem _ (putL_get h')
theorem baseE_at {gs g : Nat} {ρ : Nat → Int} {ω : Nat → Addr} (hg : g ≤ gs) : (baseE gs ρ ω) g = some (g, fun _ => 0) := if_pos hg
theorem rel_base {P : Program} {w : World} {ρ : Nat → Int} {ω : Nat → Addr} {asm : Asm} (l : List (Nat × Blk)) (ha : AsmOK asm ρ)
    (hl : ∀ p ∈ l, p.1 < P.globals.size ∧ BlkOK P (baseE P.globals.size ρ ω) p.2 (p.1, fun _ => 0) w) : Rel P (baseE P.globals.size ρ ω) ⟨P.globals.size + 1, putL l, asm⟩ w := by
  refine ⟨fun id hid => ?_, fun i j a b p q hi hj hp hq hpq => ?_, fun id b hb => ?_, fun g hg => ⟨_, baseE_at hg, rfl⟩, ha⟩
  · have hid' : P.globals.size + 1 ≤ id := hid
    exact if_neg (by omega)
  · have h1 := (hl _ (putL_get hi)).1
    have h2 := (hl _ (putL_get hj)).1
    rw [baseE_at (by omega)] at hp hq
    cases hp; cases hq
    exact hpq
  · have h1 := hl _ (putL_get hb)
    exact ⟨_, baseE_at (by omega), h1.2⟩
theorem ro_ok {P : Program} {e : Env} {w : World} {g : Nat} {l : List IV} {L : List Value} (hc : concL e l = some L) (hw : ∃ (cur : Array Value) (t : TypeId) (fr : Nat × Nat), w.heap[g]? = some (.cells cur t fr) ∧ ∀ (i : Nat) (V : Value), L[i]? = some V → cur[i]? = some V) :
    BlkOK P e (ro l) (g, fun _ => 0) w := by
  obtain ⟨cur, t, fr, h1, h2⟩ := hw
  have hlen := concL_length hc
  refine ⟨cur, t, fr, h1, fun h => absurd rfl h, ?_, fun h => absurd rfl h, fun o v hv => ?_, fun h => by cases h⟩
  · rcases Nat.lt_or_ge cur.size l.length with hlt | hge
    · exfalso
      have hx : cur.size < L.length := by omega
      have := h2 cur.size L[cur.size] (List.getElem?_eq_getElem hx)
      simp at this
    · exact hge
  · have := cell_listT hv
    obtain ⟨V, h3, h4⟩ := concL_get hc o v this
    exact ⟨V, h3, h2 o V h4⟩
theorem cells_of_var {P : Program} {w : World} {n : String} {g : Nat} {cs : Array Value} (hg : P.globalNamed n = some g) (h : w.var? P n = some cs) : ∃ t fr, w.heap[g]? = some (.cells cs t fr) := by
  simp only [World.var?, hg, Option.bind_some] at h
  split at h
  · rename_i c t fr hb
    cases h
    exact ⟨t, fr, hb⟩
  · cases h
end Go.Den
