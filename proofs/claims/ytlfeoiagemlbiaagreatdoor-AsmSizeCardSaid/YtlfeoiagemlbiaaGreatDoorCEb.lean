/- Constants: what a sign makes of two numbers. -/
import Derived.Test.YtlfeoiagemlbiaaGreatDoorCEa
set_option linter.unusedVariables false
set_option linter.unusedSectionVars false
set_option linter.unusedSimpArgs false
set_option maxRecDepth 100000
noncomputable section
namespace Go.Proofs.YtlfeoiagemlbiaaGreatDoor
open Go.Den Go.Proofs Go.Extern Go.RowKit
variable [Mex]
noncomputable def ofE : SE := .app 49 (.v 0) (.v 1) (.v 2)
noncomputable def ofV : SE := .app 48 (.v 0) (.v 1) (.v 2)
/-- an error at a token -/
noncomputable def faultB (p e : SE) : OB := .cells 118 [.str [116, 111, 107, 101, 110], .sint .i64 p, .iface 70 (.sint .i64 e)] 0
noncomputable def faultP (b : Nat) : IV := .iface 114 (.ptr b 0)
noncomputable def ofC (ok : Bool) : Ctr := ⟨[.sstr (.v 0), .sint .i64 (.v 1), .sint .i64 (.v 2), .sint .i64 (.v 3)], 9 + 1, [], inBF (.v 1) ++ inBF (.v 2) ++ [(.eq, ofE, .n 0, ok)], bif ok then .tuple [.sint .i64 ofV, .nilIface] else .tuple [.sint .i64 ofV, faultP (9 + 1)], [], bif ok then [] else [faultB (.v 3) ofE]⟩
noncomputable def fsOf : Func := Tryz.f223
noncomputable def ofT : Tm := putLT [(0, .sstr (.v 0)), (1, .sint .i64 (.v 1)), (2, .sint .i64 (.v 2)), (3, .sint .i64 (.v 3))]
noncomputable def ofS (F : List Fact) : SRes := startS Tryz.prog call7 fsOf 100000 (stpL []) (bodyOf fsOf) (ofC true) ofT F
noncomputable def ofSg (i : Nat) : List UInt8 := match i with
  | 0 => [124] | 1 => [94] | 2 => [38] | 3 => [45] | 4 => [43] | 5 => [42] | _ => [62, 62]
noncomputable def ofSh : SE := .bin .shl .i64 (.n 1) (.v 2)
/-- what is reckoned -/
noncomputable def ofR (i : Nat) : SE := match i with
  | 0 => .bin .or .i64 (.v 1) (.v 2)
  | 1 => .bin .xor .i64 (.v 1) (.v 2)
  | 2 => .bin .and .i64 (.v 1) (.v 2)
  | 3 => .bin .add .i64 (.v 1) (.bin .sub .i64 (.n 0) (.v 2))
  | 4 => .bin .add .i64 (.v 1) (.v 2)
  | 5 => .app 47 (.v 1) (.v 2) (.n 0)
  | 6 => .bin .shr .i64 (.v 1) (.v 2)
  | _ => .app 47 (.v 1) ofSh (.n 0)
noncomputable def ofQ (i : Nat) (b : Bool) : Fact := (.seq, .v 0, .lit (ofSg i), b)
noncomputable def ofB : List Fact := inBF (.v 1) ++ inBF (.v 2)
noncomputable def ofN6 : List Fact := ofB ++ [ofQ 0 false, ofQ 1 false, ofQ 2 false, ofQ 3 false, ofQ 4 false, ofQ 5 false]
noncomputable def ofF8 : List Fact := ofN6 ++ [(.lt, .v 2, .n 0, false), (.lt, .n 40, .v 2, false)]
noncomputable def ofG (i : Nat) : List Fact := match i with
  | 0 => ofB ++ [ofQ 0 true]
  | 1 => ofB ++ [ofQ 0 false, ofQ 1 true]
  | 2 => ofB ++ [ofQ 0 false, ofQ 1 false, ofQ 2 true]
  | 3 => ofB ++ [ofQ 0 false, ofQ 1 false, ofQ 2 false, ofQ 3 true]
  | 4 => ofB ++ [ofQ 0 false, ofQ 1 false, ofQ 2 false, ofQ 3 false, ofQ 4 true]
  | 5 => ofB ++ [ofQ 0 false, ofQ 1 false, ofQ 2 false, ofQ 3 false, ofQ 4 false, ofQ 5 true]
  | 6 => ofF8 ++ [ofQ 6 true]
  | _ => ofF8 ++ [ofQ 6 false] ++ inBF ofSh
noncomputable def ofBad : List Need := [.i ofV (.n 0), .i (.v 3) (.v 3), .i ofE (.n 14)]
noncomputable def ofBadB (F : List Fact) : Bool := needsB Tryz.prog 9 fsOf (ofC false) [] (ofS F) ofBad
noncomputable def ofChk (i : Nat) : Bool := needsB Tryz.prog 9 fsOf (ofC true) [] (ofS (ofG i ++ inBF (ofR i))) [.i ofV (ofR i)] && ofBadB (ofG i ++ [(.lt, ofR i, .n (-1099511627776), true)]) && ofBadB (ofG i ++ [(.lt, ofR i, .n (-1099511627776), false), (.lt, .n 1099511627776, ofR i, true)])
theorem of_ck : allBytes ofChk 8 = true := by kernel_rfl
noncomputable def ofE1 : List Fact := ofN6 ++ [(.lt, .v 2, .n 0, true)]
noncomputable def ofE2 : List Fact := ofN6 ++ [(.lt, .v 2, .n 0, false), (.lt, .n 40, .v 2, true)]
theorem of_e1 : ofBadB ofE1 = true := by kernel_rfl
theorem of_e2 : ofBadB ofE2 = true := by kernel_rfl
theorem inBF_ok {ρ : Rho} {t : SE} {x : Int} (h : t.den ρ = x) (h1 : -1099511627776 ≤ x) (h2 : x ≤ 1099511627776) : ∀ f ∈ inBF t, f.holds ρ := fl_cons (ltN (by rw [h, den_n]; exact h1)) (fl_cons (ltN (by rw [h, den_n]; exact h2)) fl_nil)
theorem shlF64 {b : Int} (h1 : 0 ≤ b) (h2 : b ≤ 40) : binV .shl .i64 1 b = 2 ^ b.toNat ∧ 1 ≤ (2 : Int) ^ b.toNat ∧ (2 : Int) ^ b.toNat ≤ 1099511627776 := by
  obtain ⟨n, rfl⟩ : ∃ n : Nat, b = n := ⟨b.toNat, by omega⟩
  have hn : n ≤ 40 := by omega
  have key : ∀ n : Nat, n ≤ 40 → binV .shl .i64 1 (n : Int) = 2 ^ n ∧ 1 ≤ (2 : Int) ^ n ∧ (2 : Int) ^ n ≤ 1099511627776 := by decide
  simpa using key n hn
theorem shr64 {a b : Int} (h1 : 0 ≤ b) (h2 : b ≤ 40) : binV .shr .i64 a b = a.fdiv (2 ^ b.toNat) := by
  simp only [binV]
  show a.fdiv (2 ^ Nat.min b.toNat 64) = _
  rw [show Nat.min b.toNat 64 = b.toNat from Nat.min_eq_left (by omega)]
theorem of_post (ok : Bool) (ρ : Rho) (hF : ∀ x ∈ (ofC ok).facts, x.holds ρ) : ∃ (F : List Fact) (rn : List (Nat × Nat)) (L : List Need), (∀ x ∈ F, x.holds ρ) ∧ needsB Tryz.prog 9 fsOf (ofC ok) rn (startS Tryz.prog call7 fsOf 100000 (stpL []) (bodyOf fsOf) (ofC ok) ofT F) L = true ∧ ∀ n ∈ L, n.ok ρ ρ := by
  have hB : ∀ x ∈ ofB, x.holds ρ := fun x hx => hF x (List.mem_append_left _ hx)
  have h1 := of_ltN (hB _ List.mem_cons_self)
  have h2 := of_ltN (hB _ (List.mem_cons_of_mem _ List.mem_cons_self))
  have h3 := of_ltN (hB _ (List.mem_cons_of_mem _ (List.mem_cons_of_mem _ List.mem_cons_self)))
  have h4 := of_ltN (hB _ (List.mem_cons_of_mem _ (List.mem_cons_of_mem _ (List.mem_cons_of_mem _ List.mem_cons_self))))
  have h5 : Fact.holds ρ (.eq, ofE, .n 0, ok) := hF _ (List.mem_append_right _ List.mem_cons_self)
  simp only [den_n] at h1 h2 h3 h4
  obtain ⟨s, hs⟩ : ∃ s, s = (SE.v 0).str ρ := ⟨_, rfl⟩
  obtain ⟨x, hx⟩ : ∃ x, x = (SE.v 1).den ρ := ⟨_, rfl⟩
  obtain ⟨y, hy⟩ : ∃ y, y = (SE.v 2).den ρ := ⟨_, rfl⟩
  rw [← hx] at h1 h2
  rw [← hy] at h3 h4
  have eE : ofE.den ρ = ((ofF s x y).2 : Int) := by rw [hs, hx, hy]; rfl
  have eV : ofV.den ρ = (ofF s x y).1 := by rw [hs, hx, hy]; rfl
  have hS : startS Tryz.prog call7 fsOf 100000 (stpL []) (bodyOf fsOf) (ofC ok) ofT = ofS := by funext F; cases ok <;> rfl
  rw [hS]
  have q : ∀ i b, decide (s = ofSg i) = b → Fact.holds ρ (ofQ i b) := fun i b h => seqB b (by rw [← hs]; exact h)
  have qt : ∀ i, s = ofSg i → Fact.holds ρ (ofQ i true) := fun i h => q i true (by simpa using h)
  have qn : ∀ i, s ≠ ofSg i → Fact.holds ρ (ofQ i false) := fun i h => q i false (by simpa using h)
  -- one of eight
  have fin : ∀ i, i < 8 → (∀ f ∈ ofG i, f.holds ρ) → ofF s x y = withinF ((ofR i).den ρ) → ∃ (F : List Fact) (rn : List (Nat × Nat)) (L : List Need), (∀ x ∈ F, x.holds ρ) ∧ needsB Tryz.prog 9 fsOf (ofC ok) rn (ofS F) L = true ∧ ∀ n ∈ L, n.ok ρ ρ := by
    intro i hi hG hw
    have hc := allBytes_ok of_ck i hi
    unfold ofChk at hc
    simp only [Bool.and_eq_true] at hc
    have bad : (ofF s x y).2 = 14 → (ofF s x y).1 = 0 → ∀ n ∈ ofBad, n.ok ρ ρ := fun e1 e2 => nd_cons (by show ofV.den ρ = 0; rw [eV, e2]) (nd_cons rfl (nd_cons (by show ofE.den ρ = 14; rw [eE, e1]; rfl) nd_nil))
    have hno : (ofF s x y).2 ≠ 0 → ok = false := fun h => by
      cases ok with
      | false => rfl
      | true => have := of_eqT h5; rw [eE] at this; omega
    by_cases c1 : (ofR i).den ρ < -big
    · have e : ofF s x y = (0, 14) := by rw [hw]; unfold withinF; rw [if_pos c1]
      have ho := hno (by rw [e]; decide)
      subst ho
      exact ⟨_, [], _, fl_app hG (fl_cons (ltT (by rw [den_n]; exact c1)) fl_nil), hc.1.2, bad (by rw [e]) (by rw [e])⟩
    · by_cases c2 : big < (ofR i).den ρ
      · have e : ofF s x y = (0, 14) := by rw [hw]; unfold withinF; rw [if_neg c1, if_pos c2]
        have ho := hno (by rw [e]; decide)
        subst ho
        exact ⟨_, [], _, fl_app hG (fl_cons (ltN (by rw [den_n]; unfold big at c1; omega)) (fl_cons (ltT (by rw [den_n]; exact c2)) fl_nil)), hc.2, bad (by rw [e]) (by rw [e])⟩
      · have e : ofF s x y = ((ofR i).den ρ, 0) := by rw [hw]; unfold withinF; rw [if_neg c1, if_neg c2]
        have ho : ok = true := by
          cases ok with
          | true => rfl
          | false => have := of_eqN h5; rw [eE, e] at this; exact absurd rfl this
        subst ho
        unfold big at c1 c2
        exact ⟨_, [], _, fl_app hG (inBF_ok rfl (by omega) (by omega)), hc.1.1, nd_cons (by show ofV.den ρ = _; rw [eV, e]) nd_nil⟩
  have e0 : (SE.v 1).den ρ = x := hx.symm
  have e1 : (SE.v 2).den ρ = y := hy.symm
  by_cases s0 : s = [124]
  · exact fin 0 (by omega) (fl_app hB (fl_cons (qt 0 s0) fl_nil)) (by unfold ofF; rw [if_pos s0]; show _ = withinF (binV .or .i64 ((SE.v 1).den ρ) ((SE.v 2).den ρ)); rw [e0, e1])
  by_cases s1 : s = [94]
  · exact fin 1 (by omega) (fl_app hB (fl_cons (qn 0 s0) (fl_cons (qt 1 s1) fl_nil))) (by unfold ofF; rw [if_neg s0, if_pos s1]; show _ = withinF (binV .xor .i64 ((SE.v 1).den ρ) ((SE.v 2).den ρ)); rw [e0, e1])
  by_cases s2 : s = [38]
  · exact fin 2 (by omega) (fl_app hB (fl_cons (qn 0 s0) (fl_cons (qn 1 s1) (fl_cons (qt 2 s2) fl_nil)))) (by unfold ofF; rw [if_neg s0, if_neg s1, if_pos s2]; show _ = withinF (binV .and .i64 ((SE.v 1).den ρ) ((SE.v 2).den ρ)); rw [e0, e1])
  by_cases s3 : s = [45]
  · exact fin 3 (by omega) (fl_app hB (fl_cons (qn 0 s0) (fl_cons (qn 1 s1) (fl_cons (qn 2 s2) (fl_cons (qt 3 s3) fl_nil))))) (by unfold ofF; rw [if_neg s0, if_neg s1, if_neg s2, if_pos s3]; show _ = withinF (IntKind.i64.wrap ((SE.v 1).den ρ + IntKind.i64.wrap (0 - (SE.v 2).den ρ))); rw [e0, e1, wrap64 (z := 0 - y) (by omega) (by omega), wrap64 (by omega) (by omega), show x + (0 - y) = x - y by omega])
  by_cases s4 : s = [43]
  · exact fin 4 (by omega) (fl_app hB (fl_cons (qn 0 s0) (fl_cons (qn 1 s1) (fl_cons (qn 2 s2) (fl_cons (qn 3 s3) (fl_cons (qt 4 s4) fl_nil)))))) (by unfold ofF; rw [if_neg s0, if_neg s1, if_neg s2, if_neg s3, if_pos s4]; show _ = withinF (IntKind.i64.wrap ((SE.v 1).den ρ + (SE.v 2).den ρ)); rw [e0, e1, wrap64 (by omega) (by omega)])
  by_cases s5 : s = [42]
  · exact fin 5 (by omega) (fl_app hB (fl_cons (qn 0 s0) (fl_cons (qn 1 s1) (fl_cons (qn 2 s2) (fl_cons (qn 3 s3) (fl_cons (qn 4 s4) (fl_cons (qt 5 s5) fl_nil))))))) (by unfold ofF; rw [if_neg s0, if_neg s1, if_neg s2, if_neg s3, if_neg s4, if_pos s5]; show _ = withinF (mulF ((SE.v 1).den ρ) ((SE.v 2).den ρ)); rw [e0, e1])
  have hN6 : ∀ f ∈ ofN6, f.holds ρ := fl_app hB (fl_cons (qn 0 s0) (fl_cons (qn 1 s1) (fl_cons (qn 2 s2) (fl_cons (qn 3 s3) (fl_cons (qn 4 s4) (fl_cons (qn 5 s5) fl_nil))))))
  have bad : ofF s x y = (0, 14) → ∀ n ∈ ofBad, n.ok ρ ρ := fun e => nd_cons (by show ofV.den ρ = 0; rw [eV, e]) (nd_cons rfl (nd_cons (by show ofE.den ρ = 14; rw [eE, e]; rfl) nd_nil))
  have hno : ofF s x y = (0, 14) → ok = false := fun h => by
    cases ok with
    | false => rfl
    | true => have := of_eqT h5; rw [eE, h] at this; exact absurd this (by decide)
  by_cases b0 : y < 0
  · have e : ofF s x y = (0, 14) := by unfold ofF; rw [if_neg s0, if_neg s1, if_neg s2, if_neg s3, if_neg s4, if_neg s5, if_pos b0]
    have ho := hno e
    subst ho
    exact ⟨ofE1, [], _, fl_app hN6 (fl_cons (ltT (by rw [e1, den_n]; exact b0)) fl_nil), of_e1, bad e⟩
  by_cases b1 : 40 < y
  · have e : ofF s x y = (0, 14) := by unfold ofF; rw [if_neg s0, if_neg s1, if_neg s2, if_neg s3, if_neg s4, if_neg s5, if_neg b0, if_pos b1]
    have ho := hno e
    subst ho
    exact ⟨ofE2, [], _, fl_app hN6 (fl_cons (ltN (by rw [e1, den_n]; omega)) (fl_cons (ltT (by rw [e1, den_n]; exact b1)) fl_nil)), of_e2, bad e⟩
  have hF8 : ∀ f ∈ ofF8, f.holds ρ := fl_app hN6 (fl_cons (ltN (by rw [e1, den_n]; omega)) (fl_cons (ltN (by rw [e1, den_n]; omega)) fl_nil))
  obtain ⟨l1, l2, l3⟩ := shlF64 (b := y) (by omega) (by omega)
  have eSh : ofSh.den ρ = 2 ^ y.toNat := by show binV .shl .i64 1 ((SE.v 2).den ρ) = _; rw [e1, l1]
  by_cases s6 : s = [62, 62]
  · exact fin 6 (by omega) (fl_app hF8 (fl_cons (qt 6 s6) fl_nil)) (by unfold ofF; rw [if_neg s0, if_neg s1, if_neg s2, if_neg s3, if_neg s4, if_neg s5, if_neg b0, if_neg b1, if_pos s6]; show _ = withinF (binV .shr .i64 ((SE.v 1).den ρ) ((SE.v 2).den ρ)); rw [e0, e1, shr64 (by omega) (by omega)])
  · exact fin 7 (by omega) (fl_app (fl_app hF8 (fl_cons (qn 6 s6) fl_nil)) (inBF_ok eSh (by omega) l3)) (by unfold ofF; rw [if_neg s0, if_neg s1, if_neg s2, if_neg s3, if_neg s4, if_neg s5, if_neg b0, if_neg b1, if_neg s6]; show _ = withinF (mulF ((SE.v 1).den ρ) (ofSh.den ρ)); rw [e0, eSh])
theorem of_ctr (ok : Bool) (ht : enterD (ofC ok).args fsOf.ntmps 0 .nil = some ofT) : CtrOK Tryz.prog 223 (ofC ok) :=
  ctr_fin (fuel := 100000) (stp := stpL []) gsz mixed (runD_ok static kn7_ok 20) Tryz.func223 (by kernel_rfl) (show fsOf.body = some (bodyOf fsOf) by kernel_rfl) (by kernel_rfl) ht (of_post ok)
noncomputable def gOf : Gn := gC Tryz.prog 9 (ofC true) [ofC false]
theorem gOf_ok : GoodAt Tryz.prog 223 gOf := good_C gsz (by kernel_rfl) (two (of_ctr true (by kernel_rfl)) (of_ctr false (by kernel_rfl)))
noncomputable def kn8 : Known := knCons 223 (gRun Tryz.prog kn7 20 223 gOf) kn7
theorem kn8_ok : KnownOK Tryz.prog kn8 := knCons_ok (good_runC static kn7_ok 20 gOf_ok) kn7_ok
noncomputable def call8 : CallFn := runD Tryz.prog kn8 20
end Go.Proofs.YtlfeoiagemlbiaaGreatDoor
