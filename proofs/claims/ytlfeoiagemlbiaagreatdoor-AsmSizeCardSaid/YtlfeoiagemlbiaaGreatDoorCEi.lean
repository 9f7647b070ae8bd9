/- Constants: rows and numbers at every depth; the whole. -/
import Derived.Test.YtlfeoiagemlbiaaGreatDoorCEh
set_option linter.unusedVariables false
set_option linter.unusedSectionVars false
set_option linter.unusedSimpArgs false
set_option maxRecDepth 100000
noncomputable section
namespace Go.Proofs.YtlfeoiagemlbiaaGreatDoor
open Go.Den Go.Proofs Go.Extern Go.RowKit
abbrev mexI (x : Nat → Dy → Dy → Dy → Dy) (m : Nat) : Mex := ⟨m, x⟩
abbrev intI (x : Nat → Dy → Dy → Dy → Dy) (m : Nat) : Interp := @instInterpOfMsr (@instMsrOfMex (mexI x m))
def badM (f : Nat) : Bool := Nat.beq f 38 || Nat.beq f 39
theorem agree_M (x : Nat → Dy → Dy → Dy → Dy) (m m' : Nat) (f : Nat) (h : badM f = false) : (intI x m).Φ f = (intI x m').Φ f := by
  funext a b c
  show @symΦ (@instMsrOfMex (mexI x m)) f a b c = @symΦ (@instMsrOfMex (mexI x m')) f a b c
  unfold symΦ
  split <;> first
  | rfl
  | (show @exΦ (mexI x m) _ a b c = @exΦ (mexI x m') _ a b c
     unfold exΦ
     split <;> first
     | rfl
     | (exact absurd h (by decide)))
section
variable [Mex]
noncomputable def rowC39 (b ok : Bool) : Ctr := rowC b 39 ok
theorem row_clean (b ok : Bool) : (cleanH badM (rowC b 39 ok).h0.m && cleanH badM (rowC b 39 ok).h1.m && cleanL badM (rowC b 39 ok).args && cleanV badM (rowC b 39 ok).v && (exFs b).all (cleanF badM)) = true := match b, ok with
  | false, false => by kernel_rfl
  | false, true => by kernel_rfl
  | true, false => by kernel_rfl
  | true, true => by kernel_rfl
theorem one_clean (b ok : Bool) : (cleanH badM (oneC b 39 ok).h0.m && cleanH badM (oneC b 39 ok).h1.m && cleanL badM (oneC b 39 ok).args && cleanV badM (oneC b 39 ok).v && (exFs b).all (cleanF badM)) = true := match b, ok with
  | false, false => by kernel_rfl
  | false, true => by kernel_rfl
  | true, false => by kernel_rfl
  | true, true => by kernel_rfl
theorem f_clean (b ok : Bool) : (cleanF badM (.lt, .v 4, .n 0, false) && cleanF badM (.lt, .n 6, .v 4, false) && cleanF badM (.eq, roV 42 b, .n 0, ok) && cleanF badM (.eq, onV 42 b, .n 0, ok)) = true := match b, ok with
  | false, false => by kernel_rfl
  | false, true => by kernel_rfl
  | true, false => by kernel_rfl
  | true, true => by kernel_rfl
end
theorem row_down (x : Nat → Dy → Dy → Dy → Dy) (m : Nat) (b ok : Bool) (h : @CtrOK (intI x m) Tryz.prog 217 (rowC b 39 ok)) : @CtrOK (intI x (m + 1)) Tryz.prog 217 (rowC b 38 ok) := by
  have hc := @row_clean (mexI x m) b ok
  have hf := @f_clean (mexI x m) b ok
  simp only [Bool.and_eq_true] at hc hf
  refine CtrOK.inst (agree_M x m (m + 1)) rfl h rfl hc.1.1.1.1 hc.1.1.1.2 hc.1.1.2 hc.1.2 (fun ρ hF y hy => ?_)
  have key : ∀ z : Fact, cleanF badM z = true → z ∈ (rowC b 38 ok).facts → @Fact.holds (intI x m) ρ z := fun z h1 h2 => (fact_inst (agree_M x m (m + 1)) h1).2 (hF z h2)
  rcases List.mem_append.1 hy with hy | hy
  · exact key y (List.all_eq_true.1 hc.2 y hy) (List.mem_append_left _ hy)
  · simp only [List.mem_cons, List.mem_nil_iff, or_false] at hy
    rcases hy with rfl | rfl | rfl | rfl
    · exact key _ hf.1.1.1 (List.mem_append_right _ (List.mem_cons_self))
    · exact key _ hf.1.1.2 (List.mem_append_right _ (List.mem_cons_of_mem _ List.mem_cons_self))
    · have h1 := hF (exM 38 (.v 3) (.v 4)) (List.mem_append_right _ (List.mem_cons_of_mem _ (List.mem_cons_of_mem _ List.mem_cons_self)))
      have h2 : (17 - (ρ 3).i) * 7 + (6 - (ρ 4).i) < ((m + 1 : Nat) : Int) - 1 := @of_ltT (intI x (m + 1)) _ _ _ h1
      refine @ltT (intI x m) _ _ _ ?_
      show (17 - (ρ 3).i) * 7 + (6 - (ρ 4).i) < (m : Int)
      omega
    · exact key _ hf.1.2 (List.mem_append_right _ (List.mem_cons_of_mem _ (List.mem_cons_of_mem _ (List.mem_cons_of_mem _ List.mem_cons_self))))
theorem one_down (x : Nat → Dy → Dy → Dy → Dy) (m : Nat) (b ok : Bool) (h : @CtrOK (intI x m) Tryz.prog 220 (oneC b 39 ok)) : @CtrOK (intI x (m + 1)) Tryz.prog 220 (oneC b 38 ok) := by
  have hc := @one_clean (mexI x m) b ok
  have hf := @f_clean (mexI x m) b ok
  simp only [Bool.and_eq_true] at hc hf
  refine CtrOK.inst (agree_M x m (m + 1)) rfl h rfl hc.1.1.1.1 hc.1.1.1.2 hc.1.1.2 hc.1.2 (fun ρ hF y hy => ?_)
  have key : ∀ z : Fact, cleanF badM z = true → z ∈ (oneC b 38 ok).facts → @Fact.holds (intI x m) ρ z := fun z h1 h2 => (fact_inst (agree_M x m (m + 1)) h1).2 (hF z h2)
  rcases List.mem_append.1 hy with hy | hy
  · exact key y (List.all_eq_true.1 hc.2 y hy) (List.mem_append_left _ hy)
  · simp only [List.mem_cons, List.mem_nil_iff, or_false] at hy
    rcases hy with rfl | rfl
    · have h1 := hF (exM 38 (.v 3) (.n 6)) (List.mem_append_right _ List.mem_cons_self)
      have h2 : (17 - (ρ 3).i) * 7 + (6 - 6) < ((m + 1 : Nat) : Int) - 1 := @of_ltT (intI x (m + 1)) _ _ _ h1
      refine @ltT (intI x m) _ _ _ ?_
      show (17 - (ρ 3).i) * 7 + (6 - 6) < (m : Int)
      omega
    · exact key _ hf.2 (List.mem_append_right _ (List.mem_cons_of_mem _ List.mem_cons_self))
section
variable [Mex]
theorem ctrs_b (b ok : Bool) : (ctrB 9 (rowC b 38 ok) && ctrB 9 (oneC b 38 ok) && ctrB 9 (rowC b 39 ok) && ctrB 9 (oneC b 39 ok)) = true := match b, ok with
  | false, false => by kernel_rfl
  | false, true => by kernel_rfl
  | true, false => by kernel_rfl
  | true, true => by kernel_rfl
theorem all2 {p : Ctr → Bool} {c d : Ctr} (h1 : p c = true) (h2 : p d = true) : ([c, d].all p) = true := by simp only [List.all_cons, List.all_nil, h1, h2, Bool.and_self]
theorem gRow_ok (m : Nat) (hb : ∀ b ok, ctrB 9 (rowC b m ok) = true) (h : ∀ b ok, CtrOK Tryz.prog 217 (rowC b m ok)) : GoodAt Tryz.prog 217 (gRow m) :=
  good_or (good_C gsz (all2 (hb _ _) (hb _ _)) (two (h false true) (h false false))) (good_C gsz (all2 (hb _ _) (hb _ _)) (two (h true true) (h true false)))
theorem gOne_ok (m : Nat) (hb : ∀ b ok, ctrB 9 (oneC b m ok) = true) (h : ∀ b ok, CtrOK Tryz.prog 220 (oneC b m ok)) : GoodAt Tryz.prog 220 (gOne m) :=
  good_or (good_C gsz (all2 (hb _ _) (hb _ _)) (two (h false true) (h false false))) (good_C gsz (all2 (hb _ _) (hb _ _)) (two (h true true) (h true false)))
theorem cb (b ok : Bool) : ctrB 9 (rowC b 38 ok) = true ∧ ctrB 9 (oneC b 38 ok) = true ∧ ctrB 9 (rowC b 39 ok) = true ∧ ctrB 9 (oneC b 39 ok) = true := by
  have := ctrs_b b ok
  simp only [Bool.and_eq_true] at this
  exact ⟨this.1.1.1, this.1.1.2, this.1.2, this.2⟩
/-- one level more, out of all below -/
theorem up (hr : ∀ b ok, CtrOK Tryz.prog 217 (rowC b 38 ok)) (ho : ∀ b ok, CtrOK Tryz.prog 220 (oneC b 38 ok)) :
    (∀ b ok, CtrOK Tryz.prog 217 (rowC b 39 ok)) ∧ (∀ b ok, CtrOK Tryz.prog 220 (oneC b 39 ok)) := by
  have k1 : KnownOK Tryz.prog kn11 := knCons_ok (gOne_ok 38 (fun b ok => (cb b ok).2.1) ho) (knCons_ok (gRow_ok 38 (fun b ok => (cb b ok).1) hr) kn10_ok)
  have o : ∀ b ok, CtrOK Tryz.prog 220 (oneC b 39 ok) := fun b ok => match b, ok with
    | false, false => one_ctr k1 false false (by kernel_rfl) rfl
    | false, true => one_ctr k1 false true (by kernel_rfl) rfl
    | true, false => one_ctr k1 true false (by kernel_rfl) rfl
    | true, true => one_ctr k1 true true (by kernel_rfl) rfl
  have k2 : KnownOK Tryz.prog kn12 := knCons_ok (gOne_ok 39 (fun b ok => (cb b ok).2.2.2) o) (knCons_ok (gRow_ok 38 (fun b ok => (cb b ok).1) hr) kn10_ok)
  exact ⟨fun b ok => match b, ok with
    | false, false => row_ctr k2 false false (by kernel_rfl) rfl rfl rfl
    | false, true => row_ctr k2 false true (by kernel_rfl) rfl rfl rfl
    | true, false => row_ctr k2 true false (by kernel_rfl) rfl rfl rfl
    | true, true => row_ctr k2 true true (by kernel_rfl) rfl rfl rfl, o⟩
theorem vac {f : FuncId} {c : Ctr} (h : ∀ ρ : Rho, (∀ x ∈ c.facts, x.holds ρ) → False) : CtrOK Tryz.prog f c := fun e w A r hF hA => (h e.ρ hF).elim
end
theorem all_M (x : Nat → Dy → Dy → Dy → Dy) : ∀ m : Nat, (∀ b ok, @CtrOK (intI x m) Tryz.prog 217 (rowC b 39 ok)) ∧ (∀ b ok, @CtrOK (intI x m) Tryz.prog 220 (oneC b 39 ok))
  | 0 => by
    letI : Mex := mexI x 0
    refine ⟨fun b ok => vac fun ρ hF => ?_, fun b ok => vac fun ρ hF => ?_⟩
    · obtain ⟨l, n, p, d, h⟩ := exFs_at (b := b) (fun y hy => hF y (List.mem_append_left _ hy))
      have f2 : Fact.holds ρ (.lt, .n 6, .v 4, false) := hF _ (List.mem_append_right _ (List.mem_cons_of_mem _ List.mem_cons_self))
      have f3 : Fact.holds ρ (exM 39 (.v 3) (.v 4)) := hF _ (List.mem_append_right _ (List.mem_cons_of_mem _ (List.mem_cons_of_mem _ List.mem_cons_self)))
      have k2 : (ρ 4).i ≤ 6 := by have h := of_ltN f2; rw [den_n] at h; exact h
      have k3 : (17 - (ρ 3).i) * 7 + (6 - (ρ 4).i) < ((0 : Nat) : Int) := of_ltT f3
      have h1 := h.hd; have h2 := h.dl
      omega
    · obtain ⟨l, n, p, d, h⟩ := exFs_at (b := b) (fun y hy => hF y (List.mem_append_left _ hy))
      have f3 : Fact.holds ρ (exM 39 (.v 3) (.n 6)) := hF _ (List.mem_append_right _ List.mem_cons_self)
      have k3 : (17 - (ρ 3).i) * 7 + (6 - 6) < ((0 : Nat) : Int) := of_ltT f3
      have h1 := h.hd; have h2 := h.dl
      omega
  | m + 1 => by
    letI : Mex := mexI x (m + 1)
    obtain ⟨h1, h2⟩ := all_M x m
    exact up (fun b ok => row_down x m b ok (h1 b ok)) (fun b ok => one_down x m b ok (h2 b ok))
section
variable [Mex]
theorem row_all (b ok : Bool) : CtrOK Tryz.prog 217 (rowC b 39 ok) := (all_M (Mex.x) Mex.m).1 b ok
noncomputable def kn13 : Known := knCons 217 (gRow 39) kn10
theorem kn13_ok : KnownOK Tryz.prog kn13 := knCons_ok (gRow_ok 39 (fun b ok => (cb b ok).2.2.1) row_all) kn10_ok
noncomputable def call13 : CallFn := runD Tryz.prog kn13 20
end
end Go.Proofs.YtlfeoiagemlbiaaGreatDoor
