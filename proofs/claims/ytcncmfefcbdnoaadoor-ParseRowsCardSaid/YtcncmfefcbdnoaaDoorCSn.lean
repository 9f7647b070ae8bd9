/- How many bytes of some kinds a text begins with. -/
import Derived.Test.YtcncmfefcbdnoaaDoorCKd
import Derived.Test.YtcncmfefcbdnoaaDoorCBase
set_option linter.unusedVariables false
set_option linter.unusedSectionVars false
set_option maxRecDepth 100000
noncomputable section
namespace Go.Proofs.YtcncmfefcbdnoaaDoor
open Go.Den Go.Proofs Go.Extern Go.RowKit
variable [Msr]
theorem gsz : Tryd.prog.globals.size = 9 := by kernel_rfl
theorem mixed : Tryd.prog.follows .mixedOrders = true := by kernel_rfl
noncomputable def kn1 : Known := knCons 26 (gRun Tryd.prog kn 10 26 (gC Tryd.prog 9 kindC [])) kn
theorem kn1_ok : KnownOK Tryd.prog kn1 := knCons_ok (good_runC static kn_ok 10 (good_C gsz (by kernel_rfl) (fun x hx => by simp only [List.mem_singleton] at hx; subst hx; exact kind_ok))) kn_ok
noncomputable def bodyOf (f : Func) : Code := @Option.rec Code (fun _ => Code) .skip (fun c => c) f.body
noncomputable def intsB (l : List Nat) : List IV := l.map fun n => .int .i64 (Int.ofNat n)
noncomputable def call1 : CallFn := runD Tryd.prog kn1 20
noncomputable def fs0 : Func := Tryd.f25
/-- the text is not too long -/
noncomputable def short (t : SE) : Fact := (.lt, tLen t, .n 1000000, true)
noncomputable def spanC (ks : List Nat) (sym : Nat) : Ctr := ⟨[.sstr (.v 0), .slice (9 + 1) 0 ks.length ks.length], 9 + 2, [(9 + 1, (OB.cells 3 (intsB ks) 0).blk)], [short (.v 0)], .sint .i64 (.app sym (.v 0) (.n 0) (.n 0)), [(9 + 1, .cells 3 (intsB ks) 0)], []⟩
noncomputable def spanT (ks : List Nat) : Tm := putLT [(0, .sstr (.v 0)), (1, .slice (9 + 1) 0 ks.length ks.length)]
noncomputable def spanL (ks : List Nat) (sym : Nat) : Lp :=
  let r := startS Tryd.prog call1 fs0 100000 (stpL [0]) (bodyOf fs0) (spanC ks sym) (spanT ks) []
  ⟨0, srB r, srK r, ⟨[(0, .sstr (.v 0)), (1, .slice (9 + 1) 0 ks.length ks.length), (5, .sint .i64 (.v 1))], (spanC ks sym).hl, 9 + 2⟩⟩
/-- a span of the kinds that a test says -/
noncomputable def spanI (p : UInt8 → Bool) (_ : Nat) (ρ0 ρ : Rho) (n : Nat) : Prop := ∃ j : Nat, (ρ 0) = (ρ0 0) ∧ (ρ 1).i = (j : Int) ∧ j ≤ tw p (ρ0 0).s ∧ n = (ρ0 0).s.length - j ∧ (ρ0 0).s.length < 1000000
noncomputable def spanF (b : Bool) : List Fact := [(.lt, .v 1, tLen (.v 0), b), (.lt, .v 1, .n 0, false)]
noncomputable def kdT : SE := .app 13 (tByte (.v 0) (.v 1)) (.n 0) (.n 0)
theorem span_start {ks : List Nat} {sym : Nat} {p : UInt8 → Bool} (ht : enterD (spanC ks sym).args fs0.ntmps 0 .nil = some (spanT ks)) (hc : chkStop Tryd.prog 9 [(0, .v 0), (1, .n 0)] [] (spanL ks sym).can 0 (startS Tryd.prog call1 fs0 100000 (stpL [0]) (bodyOf fs0) (spanC ks sym) (spanT ks) []) = true)
    (hl : ([spanL ks sym].all (lpB (spanC ks sym).nx)) = true)
    (hround : ∀ (ρ0 ρ : Rho) (n : Nat), spanI p 0 ρ0 ρ n → ∃ F : List Fact, (∀ x ∈ F, x.holds ρ) ∧ OutP Tryd.prog 9 fs0 (spanC ks sym) [spanL ks sym] (spanI p) ρ0 ρ (some (0, n)) (roundS Tryd.prog call1 fs0.ntmps 100000 (stpL [0]) 0 (spanL ks sym) F)) : CtrOK Tryd.prog 25 (spanC ks sym) := by
  refine ctr_loops (loops := [spanL ks sym]) (inv := spanI p) (fuel := 100000) (stp := stpL [0]) gsz mixed (runD_ok static kn1_ok 20) Tryd.func25 (by kernel_rfl) (show fs0.body = some (bodyOf fs0) by kernel_rfl) (by kernel_rfl) ht hl ?_ ?_
  · intro ρ hF
    refine ⟨[], (fun x hx => by cases hx), .stop 0 (spanL ks sym) [(0, .v 0), (1, .n 0)] [] ((ρ 0).s.length) rfl (fun i m h => by cases h) rfl rfl hc rfl ?_⟩
    have h1 := hF _ (List.mem_singleton.2 rfl)
    have h2 : decide (((ρ 0).s.length : Int) < 1000000) = true := h1
    exact ⟨0, rfl, rfl, Nat.zero_le _, by simp, by have := of_decide_eq_true h2; omega⟩
  · intro i lp hlp ρ0 ρ n hF hI
    cases i with
    | succ i => simp at hlp
    | zero =>
      simp at hlp; subst hlp
      exact hround ρ0 ρ n hI

theorem span_lt {s : List UInt8} {j : Nat} {p : UInt8 → Bool} (hj : j ≤ tw p s) : j ≤ s.length := Nat.le_trans hj (tw_le s)
/-- the end of the text -/
theorem span_end {ks : List Nat} {sym : Nat} {p : UInt8 → Bool} {ρ0 ρ : Rho} {n : Nat} (hI : spanI p 0 ρ0 ρ n) (hlt : ¬ (ρ 1).i < ((ρ 0).s.length : Int)) (hsym : ∀ ρ : Rho, ((SE.app sym (.v 0) (.n 0) (.n 0)).den ρ) = tw p (ρ 0).s)
    (hr : needsOf Tryd.prog 9 fs0 (spanC ks sym) [] (roundS Tryd.prog call1 fs0.ntmps 100000 (stpL [0]) 0 (spanL ks sym) (spanF false)) = some [.i (.app sym (.v 0) (.n 0) (.n 0)) (.v 1)]) :
    ∃ F : List Fact, (∀ x ∈ F, x.holds ρ) ∧ OutP Tryd.prog 9 fs0 (spanC ks sym) [spanL ks sym] (spanI p) ρ0 ρ (some (0, n)) (roundS Tryd.prog call1 fs0.ntmps 100000 (stpL [0]) 0 (spanL ks sym) F) := by
  obtain ⟨j, h1, h2, h3, h4, h5⟩ := hI
  refine ⟨spanF false, fun x hx => ?_, .fin [] _ hr fun n hn => ?_⟩
  · simp only [spanF, List.mem_cons, List.mem_nil_iff, or_false] at hx
    rcases hx with rfl | rfl
    · show decide ((ρ 1).i < ((ρ 0).s.length : Int)) = false
      simpa using hlt
    · show decide ((ρ 1).i < 0) = false
      simp; omega
  · rw [List.mem_singleton] at hn
    subst hn
    show (SE.app sym (.v 0) (.n 0) (.n 0)).den ρ0 = (ρ 1).i
    rw [hsym, h2]
    rw [h1, h2] at hlt
    have := span_lt h3
    rw [tw_stop h3 (fun h => by omega) this]
/-- a byte that is none of these -/
theorem span_out {ks : List Nat} {sym : Nat} {p : UInt8 → Bool} {ρ0 ρ : Rho} {n : Nat} (G : List Fact) (hI : spanI p 0 ρ0 ρ n) (hlt : (ρ 1).i < ((ρ 0).s.length : Int)) (hG : ∀ x ∈ G, x.holds ρ) (hp : p (((ρ 0).s[((ρ 1).i).toNat]?).getD 0) = false) (hsym : ∀ ρ : Rho, ((SE.app sym (.v 0) (.n 0) (.n 0)).den ρ) = tw p (ρ 0).s)
    (hr : needsOf Tryd.prog 9 fs0 (spanC ks sym) [] (roundS Tryd.prog call1 fs0.ntmps 100000 (stpL [0]) 0 (spanL ks sym) (spanF true ++ G)) = some [.i (.app sym (.v 0) (.n 0) (.n 0)) (.v 1)]) :
    ∃ F : List Fact, (∀ x ∈ F, x.holds ρ) ∧ OutP Tryd.prog 9 fs0 (spanC ks sym) [spanL ks sym] (spanI p) ρ0 ρ (some (0, n)) (roundS Tryd.prog call1 fs0.ntmps 100000 (stpL [0]) 0 (spanL ks sym) F) := by
  obtain ⟨j, h1, h2, h3, h4, h5⟩ := hI
  refine ⟨spanF true ++ G, fun x hx => ?_, .fin [] _ hr fun n hn => ?_⟩
  · rcases List.mem_append.1 hx with hx | hx
    · simp only [spanF, List.mem_cons, List.mem_nil_iff, or_false] at hx
      rcases hx with rfl | rfl
      · show decide ((ρ 1).i < ((ρ 0).s.length : Int)) = true
        simpa using hlt
      · show decide ((ρ 1).i < 0) = false
        simp; omega
    · exact hG x hx
  · rw [List.mem_singleton] at hn
    subst hn
    show (SE.app sym (.v 0) (.n 0) (.n 0)).den ρ0 = (ρ 1).i
    rw [hsym, h2]
    rw [h1, h2] at hp
    rw [tw_stop h3 (fun h => by simpa using hp) (span_lt h3)]
/-- one more byte -/
theorem span_more {ks : List Nat} {sym : Nat} {p : UInt8 → Bool} {ρ0 ρ : Rho} {n : Nat} (G : List Fact) (hI : spanI p 0 ρ0 ρ n) (hlt : (ρ 1).i < ((ρ 0).s.length : Int)) (hG : ∀ x ∈ G, x.holds ρ) (hp : p (((ρ 0).s[((ρ 1).i).toNat]?).getD 0) = true)
    (hr : chkAgain Tryd.prog 9 [(0, .v 0), (1, .bin .add .i64 (.v 1) (.n 1))] [] (spanL ks sym).can 0 (roundS Tryd.prog call1 fs0.ntmps 100000 (stpL [0]) 0 (spanL ks sym) (spanF true ++ G)) = true) :
    ∃ F : List Fact, (∀ x ∈ F, x.holds ρ) ∧ OutP Tryd.prog 9 fs0 (spanC ks sym) [spanL ks sym] (spanI p) ρ0 ρ (some (0, n)) (roundS Tryd.prog call1 fs0.ntmps 100000 (stpL [0]) 0 (spanL ks sym) F) := by
  obtain ⟨j, h1, h2, h3, h4, h5⟩ := hI
  rw [h1, h2] at hp
  rw [h1, h2] at hlt
  have hjl : j < (ρ0 0).s.length := by omega
  refine ⟨spanF true ++ G, fun x hx => ?_, .again 0 n (spanL ks sym) _ [] ((ρ0 0).s.length - (j + 1)) rfl rfl (by omega) hr rfl ⟨j + 1, h1, ?_, tw_next h3 hjl (by simpa using hp), rfl, h5⟩⟩
  · rcases List.mem_append.1 hx with hx | hx
    · simp only [spanF, List.mem_cons, List.mem_nil_iff, or_false] at hx
      rcases hx with rfl | rfl
      · show decide ((ρ 1).i < ((ρ 0).s.length : Int)) = true
        rw [h1, h2]; simpa using hlt
      · show decide ((ρ 1).i < 0) = false
        simp; omega
    · exact hG x hx
  · show IntKind.i64.wrap ((ρ 1).i + 1) = _
    rw [h2, wrap64 (by omega) (by omega)]
    simp
noncomputable def kdF (k : Nat) (b : Bool) : Fact := (.eq, .n (Int.ofNat k), kdT, b)
theorem kdF_ok {ρ : Rho} {k : Nat} {b : Bool} (h : (kindF (((ρ 0).s[((ρ 1).i).toNat]?).getD 0).toNat == k) = b) : (kdF k b).holds ρ := by
  show (((k : Nat) : Int) == ((kindF (((ρ 0).s[((ρ 1).i).toNat]?).getD 0).toNat : Nat) : Int)) = b
  rw [int_beq]; exact h
theorem span_blank : CtrOK Tryd.prog 25 (spanC [0] 14) := by
  refine span_start (p := isBlank) (by kernel_rfl) (by kernel_rfl) (by kernel_rfl) (fun ρ0 ρ n hI => ?_)
  by_cases hlt : (ρ 1).i < ((ρ 0).s.length : Int)
  · cases h0 : (kindF (((ρ 0).s[((ρ 1).i).toNat]?).getD 0).toNat == 0) with
    | true => exact span_more [kdF 0 true] hI hlt (fl_cons (kdF_ok h0) fl_nil) h0 (by kernel_rfl)
    | false => exact span_out [kdF 0 false] hI hlt (fl_cons (kdF_ok h0) fl_nil) h0 (fun ρ => rfl) (by kernel_rfl)
  · exact span_end hI hlt (fun ρ => rfl) (by kernel_rfl)
theorem span_num : CtrOK Tryd.prog 25 (spanC [1, 2] 16) := by
  refine span_start (p := isNum) (by kernel_rfl) (by kernel_rfl) (by kernel_rfl) (fun ρ0 ρ n hI => ?_)
  by_cases hlt : (ρ 1).i < ((ρ 0).s.length : Int)
  · cases h0 : (kindF (((ρ 0).s[((ρ 1).i).toNat]?).getD 0).toNat == 1) with
    | true => exact span_more [kdF 1 true] hI hlt (fl_cons (kdF_ok h0) fl_nil) (by simp [isNum, h0]) (by kernel_rfl)
    | false =>
      cases h1 : (kindF (((ρ 0).s[((ρ 1).i).toNat]?).getD 0).toNat == 2) with
      | true => exact span_more [kdF 1 false, kdF 2 true] hI hlt (fl_cons (kdF_ok h0) (fl_cons (kdF_ok h1) fl_nil)) (by simp [isNum, h1]) (by kernel_rfl)
      | false => exact span_out [kdF 1 false, kdF 2 false] hI hlt (fl_cons (kdF_ok h0) (fl_cons (kdF_ok h1) fl_nil)) (by simp [isNum, h0, h1]) (fun ρ => rfl) (by kernel_rfl)
  · exact span_end hI hlt (fun ρ => rfl) (by kernel_rfl)
theorem span_word : CtrOK Tryd.prog 25 (spanC [1, 2, 3] 15) := by
  refine span_start (p := isWord) (by kernel_rfl) (by kernel_rfl) (by kernel_rfl) (fun ρ0 ρ n hI => ?_)
  by_cases hlt : (ρ 1).i < ((ρ 0).s.length : Int)
  · cases h0 : (kindF (((ρ 0).s[((ρ 1).i).toNat]?).getD 0).toNat == 1) with
    | true => exact span_more [kdF 1 true] hI hlt (fl_cons (kdF_ok h0) fl_nil) (by simp [isWord, h0]) (by kernel_rfl)
    | false =>
      cases h1 : (kindF (((ρ 0).s[((ρ 1).i).toNat]?).getD 0).toNat == 2) with
      | true => exact span_more [kdF 1 false, kdF 2 true] hI hlt (fl_cons (kdF_ok h0) (fl_cons (kdF_ok h1) fl_nil)) (by simp [isWord, h1]) (by kernel_rfl)
      | false =>
        cases h2 : (kindF (((ρ 0).s[((ρ 1).i).toNat]?).getD 0).toNat == 3) with
        | true => exact span_more [kdF 1 false, kdF 2 false, kdF 3 true] hI hlt (fl_cons (kdF_ok h0) (fl_cons (kdF_ok h1) (fl_cons (kdF_ok h2) fl_nil))) (by simp [isWord, h2]) (by kernel_rfl)
        | false => exact span_out [kdF 1 false, kdF 2 false, kdF 3 false] hI hlt (fl_cons (kdF_ok h0) (fl_cons (kdF_ok h1) (fl_cons (kdF_ok h2) fl_nil))) (by simp [isWord, h0, h1, h2]) (fun ρ => rfl) (by kernel_rfl)
  · exact span_end hI hlt (fun ρ => rfl) (by kernel_rfl)
end Go.Proofs.YtcncmfefcbdnoaaDoor
