import Derived.Test.YtcncmfefcbdnoaaDoorCKn
import Derived.LaidHandle
import Derived.LaidLaws
import Derived.LaidSub
import Derived.Lib.LaidU8
set_option linter.unusedVariables false
set_option linter.unusedSectionVars false
set_option maxRecDepth 100000
noncomputable section
namespace Go.Proofs.YtcncmfefcbdnoaaDoor
open Go.Den Go.Proofs Go.Extern Go.RowKit Go.ChangeShapes
variable [Interp]
/-! ### The memory that every law of this seat begins with -/
def baseL : List (Nat × Blk) := [(0, ro [.iface 121 (.agg [.ptr 9 29])]), (1, ro [.iface 156 (.optr 0)]), (2, ro [.iface 156 (.optr 1)])]
theorem b_et : Tryd.prog.globalNamed "errors.errorType" = some 0 := by kernel_rfl
theorem b_er : Tryd.prog.globalNamed "strconv.ErrRange" = some 1 := by kernel_rfl
theorem b_es : Tryd.prog.globalNamed "strconv.ErrSyntax" = some 2 := by kernel_rfl
theorem b_rt : (Tryd.prog.cutTypes.find? (·.1 == "internal/reflectlite.rtype")).map (·.2) = some 121 := by kernel_rfl
theorem b_size : Tryd.prog.types.size = 201 := by kernel_rfl
theorem b_gsize : Tryd.prog.globals.size = 9 := by kernel_rfl
theorem b_oneRow : ((List.range 201).filter fun t => Tryd.prog.rowNamed t [101, 114, 114, 111, 114]) = [29] := by kernel_rfl
theorem b_star : "*" ++ "errors.errorString" = "*errors.errorString" := by decide
theorem b_row (u : TypeId) (h : Tryd.prog.typeName? 3 u = some "*errors.errorString") : u = 156 :=
  typeName_ptr_named (nm := "errors.errorString") (by rw [b_star]; kernel_rfl) (by kernel_rfl) (by decide) u (by rw [b_star]; exact h)
/-- the handle's cell -/
theorem b_handle {W : World} {hs : List (String × DataW Unit)} (h : handlesMet Tryd.prog hs W) (hm : ("errors.errorType", Rows.laid_errors_errorType) ∈ hs) : ∃ (cur : Array Value) (t : TypeId) (fr : Nat × Nat), W.heap[(0 : Nat)]? = some (.cells cur t fr) ∧ ∀ (i : Nat) (V : Value), [Value.iface 121 (.agg #[.pointer (some ⟨9, 29, none⟩)])][i]? = some V → cur[i]? = some V := by
  obtain ⟨name, u, ty, e1, e2, e3, e4, e5⟩ := h _ hm
  have en : name = [101, 114, 114, 111, 114] := (Option.some.inj e1).symm
  subst en
  obtain rfl := Option.some.inj (b_rt.symm.trans e2)
  have hm : ty ∈ (List.range 201).filter fun t => Tryd.prog.rowNamed t [101, 114, 114, 111, 114] := List.mem_filter.2 ⟨List.mem_range.2 (by rw [← b_size]; exact e3), e4⟩
  rw [b_oneRow] at hm
  obtain rfl := List.mem_singleton.1 hm
  have hh : typeHandle Tryd.prog 29 = .pointer (some ⟨9, 29, none⟩) := by kernel_rfl
  rw [hh] at e5
  obtain ⟨t, fr, hb⟩ := cells_of_var b_et e5
  exact ⟨_, t, fr, hb, fun i V hV => by simpa using hV⟩
/-- a sentinel's cell -/
theorem b_sentinel {W : World} {n : String} {g : Nat} {text : List UInt8} {l : List (String × DataW Unit)} (h : laidMet Tryd.prog l W) (hm : (n, DataW.iface "*errors.errorString" (.ptr (.agg [.lit (.string text)]))) ∈ l) (hg : Tryd.prog.globalNamed n = some g) (ht : (Tryd.prog.globals[g]?).map (·.type) = some 29) :
    ∃ a : Addr, ∃ (cur : Array Value) (t : TypeId) (fr : Nat × Nat), W.heap[g]? = some (.cells cur t fr) ∧ ∀ (i : Nat) (V : Value), [Value.iface 156 (.pointer (some a))][i]? = some V → cur[i]? = some V := by
  obtain ⟨ps, hv, hnd, hok⟩ := h
  have key : ∀ {l : List (String × DataW Unit)} {qs : List MemPlace}, DataW.LaidVars Tryd.prog W l qs → (∀ x ∈ qs, x ∈ ps) → (n, DataW.iface "*errors.errorString" (.ptr (.agg [.lit (.string text)]))) ∈ l →
      ∃ cs fuel p, W.var? Tryd.prog n = some cs ∧ DataW.trod (fun _ => ()) Tryd.prog W 0 (fun _ => true) false fuel 29 cs.toList = some (DataW.iface "*errors.errorString" (.ptr (.agg [.lit (.string text)])), p) ∧ ∀ x ∈ MemPlace.row ⟨g, 0, none⟩ cs.size, x ∈ ps := by
    intro l
    induction l with
    | nil => intro qs _ _ hm; cases hm
    | cons y r ih =>
      intro qs hq hs hm
      obtain ⟨n', d'⟩ := y
      obtain ⟨g', t, cs, fuel, p, q, h1, h2, h3, h4, h5, h6⟩ := hq
      rcases List.mem_cons.1 hm with e | e
      · cases e
        rw [hg] at h1; cases h1
        rw [ht] at h2; cases h2
        exact ⟨cs, fuel, p, h3, h4, fun x hx => hs x (by rw [h6]; simp [hx])⟩
      · exact ih h5 (fun x hx => hs x (by rw [h6]; simp [hx])) e
  obtain ⟨cs, fuel, p, h3, h4, h5⟩ := key hv (fun _ h => h) hm
  obtain ⟨t, fr, hb⟩ := cells_of_var hg h3
  obtain ⟨a, s, h6, _⟩ := errorString_of_trod (ti := 29) (tp := 156) (te := 158) (ts := 9) Tryd.underlying29 b_row Tryd.underlying156 Tryd.underlying158 rfl rfl Tryd.underlying9 (by kernel_rfl) (by kernel_rfl) h4 (fun u v hcs => by
    have hz : cs.size = 1 := by rw [← Array.length_toList, hcs]; rfl
    refine (hok g 0 (h5 _ (by rw [hz]; simp [MemPlace.row]))).2 u v ?_
    simp only [World.cell?, hb]
    have : cs = #[.iface u v] := by apply Array.ext'; exact hcs
    rw [this]; rfl)
  refine ⟨a, cs, t, fr, hb, fun i V hV => ?_⟩
  rw [← Array.getElem?_toList, h6]; exact hV
theorem base_rel {W : World} {laid : List (String × DataW Unit)} (h : laidMetH Tryd.prog laid W) (h1 : ("errors.errorType", Rows.laid_errors_errorType) ∈ laid) (h2 : ("strconv.ErrRange", Rows.laid_strconv_ErrRange) ∈ laid) (h3 : ("strconv.ErrSyntax", Rows.laid_strconv_ErrSyntax) ∈ laid)
    (asm : Asm) (ρ : Nat → Dy) (ha : AsmOK asm ρ) : ∃ ω, Rel Tryd.prog (baseE 9 ρ ω) ⟨9 + 1, putL baseL, asm⟩ W := by
  obtain ⟨hm, hh⟩ := laidMetH_iff.1 h
  obtain ⟨a, ra⟩ := b_sentinel (n := "strconv.ErrRange") hm (List.mem_filter.2 ⟨h2, by rfl⟩) b_er (by kernel_rfl)
  obtain ⟨b, rb⟩ := b_sentinel (n := "strconv.ErrSyntax") hm (List.mem_filter.2 ⟨h3, by rfl⟩) b_es (by kernel_rfl)
  have rh := b_handle hh (List.mem_filter.2 ⟨h1, by rfl⟩)
  refine ⟨fun i => match i with | 0 => a | _ => b, ?_⟩
  have := rel_base (P := Tryd.prog) (w := W) (ρ := ρ) (ω := fun i => match i with | 0 => a | _ => b) (asm := asm) baseL ha (fun p hp => by
    rw [b_gsize]
    simp only [baseL, List.mem_cons, List.mem_nil_iff, or_false] at hp
    rcases hp with rfl | rfl | rfl
    · exact ⟨by decide, ro_ok rfl rh⟩
    · exact ⟨by decide, ro_ok rfl ra⟩
    · exact ⟨by decide, ro_ok rfl rb⟩)
  rw [b_gsize] at this
  exact this
theorem base_ro : ∀ id b, (putL baseL).get id = some b → b.rw = false := putL_ro fun p hp => by
  simp only [baseL, List.mem_cons, List.mem_nil_iff, or_false] at hp
  rcases hp with rfl | rfl | rfl <;> rfl
end Go.Proofs.YtcncmfefcbdnoaaDoor
