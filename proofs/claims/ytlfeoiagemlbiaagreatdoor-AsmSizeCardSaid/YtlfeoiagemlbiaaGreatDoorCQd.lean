/- The reference's registers: the contract. -/
import Derived.Test.YtlfeoiagemlbiaaGreatDoorCQl
import Derived.Test.YtlfeoiagemlbiaaGreatDoorCPb
import Derived.Test.YtlfeoiagemlbiaaGreatDoorXs4
set_option linter.unusedVariables false
set_option linter.unusedSectionVars false
set_option linter.unusedSimpArgs false
set_option maxRecDepth 100000
noncomputable section
namespace Go.Proofs.YtlfeoiagemlbiaaGreatDoor
open Go.Den Go.Proofs Go.Extern Go.RowKit
variable [Mqc]
noncomputable def knq3 : Known := knCons 25 (gRun Tryz.prog knq2 20 25 gLx) knq2
theorem knq3_ok : KnownOK Tryz.prog knq3 := knCons_ok (good_runC static knq2_ok 20 gLx_ok) knq2_ok
noncomputable def callq3 : CallFn := runD Tryz.prog knq3 20
noncomputable def tkQ : OB := .rows 78 4 tokFs (.v 0) 1
noncomputable def fsQg : Func := Tryz.f27
noncomputable def qgFs : List Fact := [(.lt, .v 1, .n 0, false), (.lt, .v 2, .n 0, false), (.le, rgA, tRows (.v 0), true)]
noncomputable def qgC (ok : Bool) : Ctr := ⟨[rgV], 9 + 2, [(9 + 1, tkQ.blk)], qgFs ++ [(.eq, rg 70, .n 1, ok)], bif ok then .tuple [.sint .i64 (rg 71), .bool true] else .tuple [.int .i64 0, .bool false], [(9 + 1, tkQ)], []⟩
noncomputable def qgS (F : List Fact) : SRes := startS Tryz.prog callq3 fsQg 100000 (stpL []) (bodyOf fsQg) (qgC true) rgT F
noncomputable def qgOne : List Fact := qgFs ++ [(.eq, .v 2, .n 1, true), (.lt, .n 0, .v 2, true), (.lt, rgX, tRows (.v 0), true), (.lt, rgX, .n 0, false)]
noncomputable def qgNm : List Fact := qgOne ++ [(.eq, rgK, .n 1, true)]
noncomputable def qgNo (k : Nat) : List Fact := @Nat.rec (fun _ => List Fact) [] (fun i ih => ih ++ [(.seq, rgTx, .lit (regText i), false)]) k
noncomputable def qgIt (k : Nat) : List Fact := qgNm ++ (qgNo k ++ [(.seq, rgTx, .lit (regText k), true)])
noncomputable def qgOut (ok : Bool) (F : List Fact) (L : List Need) : Bool := needsB Tryz.prog 9 fsQg (qgC ok) [] (qgS F) (L ++ [.r (.v 0) (.v 0)])
theorem qg_no : (qgOut false (qgFs ++ [(.eq, .v 2, .n 1, false)]) [] && qgOut false (qgOne ++ [(.eq, rgK, .n 1, false)]) [] && qgOut false (qgNm ++ qgNo 16) []) = true := by kernel_rfl
theorem qg_yes : allBytes (fun k => qgOut true (qgIt k) [.i (rg 71) (.n (Int.ofNat k))]) 16 = true := by kernel_rfl
theorem qgNo_ok {ρ : Rho} {s : List UInt8} (hs : rgTx.str ρ = s) : ∀ k : Nat, (∀ i, i < k → s ≠ regText i) → ∀ x ∈ qgNo k, x.holds ρ
  | 0, _ => fl_nil
  | k + 1, h => fl_app (qgNo_ok hs k (fun i hi => h i (by omega))) (fl_cons (seqN (by rw [hs]; exact h k (by omega))) fl_nil)
theorem qg_ctr (ok : Bool) (ht : enterD (qgC ok).args fsQg.ntmps 0 .nil = some rgT) (hS : startS Tryz.prog callq3 fsQg 100000 (stpL []) (bodyOf fsQg) (qgC ok) rgT = qgS) : CtrOK Tryz.prog 27 (qgC ok) := by
  have hck := qg_no
  simp only [Bool.and_eq_true] at hck
  obtain ⟨⟨c1, c2⟩, c3⟩ := hck
  refine ctr_fin (fuel := 100000) (stp := stpL []) gsz mixed (runD_ok static knq3_ok 20) Tryz.func27 (by kernel_rfl) (show fsQg.body = some (bodyOf fsQg) by kernel_rfl) (by kernel_rfl) ht (fun ρ hF => ?_)
  show ∃ (F : List Fact) (rn : List (Nat × Nat)) (L : List Need), _ ∧ needsB _ _ _ _ _ (startS Tryz.prog callq3 fsQg 100000 (stpL []) (bodyOf fsQg) (qgC ok) rgT F) _ = true ∧ _
  rw [hS]
  have hB : ∀ x ∈ qgFs, x.holds ρ := fun x hx => hF x (List.mem_append_left _ hx)
  have f2 : Fact.holds ρ (.lt, .v 1, .n 0, false) := hB _ List.mem_cons_self
  have f3 : Fact.holds ρ (.lt, .v 2, .n 0, false) := hB _ (List.mem_cons_of_mem _ List.mem_cons_self)
  have f4 : Fact.holds ρ (.le, rgA, tRows (.v 0), true) := hB _ (List.mem_cons_of_mem _ (List.mem_cons_of_mem _ List.mem_cons_self))
  have k2 : 0 ≤ (ρ 1).i := by have h := of_ltN f2; rw [den_n] at h; exact h
  have k3 : 0 ≤ (ρ 2).i := by have h := of_ltN f3; rw [den_n] at h; exact h
  have k4 : (ρ 1).i + (ρ 2).i ≤ (((ρ 0).r.length : Nat) : Int) := of_leT f4
  obtain ⟨o, ho⟩ : ∃ o : Nat, (ρ 1).i = (o : Int) := ⟨(ρ 1).i.toNat, by omega⟩
  obtain ⟨n, hn⟩ : ∃ n : Nat, (ρ 2).i = (n : Int) := ⟨(ρ 2).i.toNat, by omega⟩
  obtain ⟨l, hl⟩ : ∃ l, l = (ρ 0).r := ⟨_, rfl⟩
  have hon : o + n ≤ l.length := by rw [hl]; omega
  have eR : regF ((SE.v 0).D ρ).r ((SE.v 1).D ρ).i.toNat ((SE.v 2).D ρ).i.toNat = regF l o n := by
    rw [show ((SE.v 1).D ρ).i = (o : Int) from ho, show ((SE.v 2).D ρ).i = (n : Int) from hn, Int.toNat_natCast, Int.toNat_natCast, hl]; rfl
  have e70 : (rg 70).den ρ = b01 (regF l o n).isSome := by show b01 (regF _ _ _).isSome = _; rw [eR]
  have e71 : (rg 71).den ρ = optI (regF l o n) := by show optI (regF _ _ _) = _; rw [eR]
  have hok : ok = (regF l o n).isSome := by
    have h : Fact.holds ρ (.eq, rg 70, .n 1, ok) := hF _ (List.mem_append_right _ List.mem_cons_self)
    cases ok with
    | true => have := of_eqT h; rw [e70] at this; cases hh : (regF l o n).isSome with
      | true => rfl
      | false => rw [hh] at this; exact absurd this (by decide)
    | false => have := of_eqN h; rw [e70] at this; cases hh : (regF l o n).isSome with
      | true => rw [hh] at this; exact absurd rfl this
      | false => rfl
  have e1 : (SE.v 1).den ρ = (o : Int) := ho
  have e2 : (SE.v 2).den ρ = (n : Int) := hn
  have eX : rgX.den ρ = (o : Int) := by show (SE.v 1).den ρ + 0 = _; rw [e1]; simp
  have hrow : (tRows (.v 0)).den ρ = (l.length : Int) := by show (((ρ 0).r.length : Nat) : Int) = _; rw [hl]
  have hcell : ∀ j : Nat, cellAt (ρ 0).r (rgX.den ρ).toNat ((j : Nat) : Int).toNat = cellAt l o j := fun j => by rw [eX, Int.toNat_natCast, Int.toNat_natCast, hl]
  have hK : rgK.den ρ = tkK l o := congrArg Prod.fst (hcell 0)
  have hT : rgTx.str ρ = tkT l o := congrArg Prod.snd (hcell 1)
  have no : ∀ F : List Fact, (∀ x ∈ F, x.holds ρ) → qgOut false F [] = true → regF l o n = none → ∃ (F : List Fact) (rn : List (Nat × Nat)) (L : List Need), (∀ x ∈ F, x.holds ρ) ∧ needsB Tryz.prog 9 fsQg (qgC ok) rn (qgS F) L = true ∧ ∀ n ∈ L, n.ok ρ ρ := by
    intro F hG hc hR
    have : ok = false := by rw [hok, hR]; rfl
    subst this
    exact ⟨F, [], _, hG, hc, nd_cons rfl nd_nil⟩
  by_cases hn1 : n = 1
  · have hone : ∀ x ∈ qgOne, x.holds ρ := fl_app hB (fl_cons (eqF_ok (by rw [e2, hn1]; rfl)) (fl_cons (ltT (by rw [e2, den_n]; omega)) (fl_cons (ltT (by rw [eX, hrow]; omega)) (fl_cons (ltN (by rw [eX, den_n]; omega)) fl_nil))))
    by_cases hk : tkK l o = 1
    · have hnm : ∀ x ∈ qgNm, x.holds ρ := fl_app hone (fl_cons (eqF_ok (by rw [hK, hk])) fl_nil)
      have hR : regF l o n = regN (tkT l o) := by unfold regF; rw [if_pos ⟨hn1, hk⟩]
      cases hq : regN (tkT l o) with
      | none =>
        have hall : ∀ i, i < 16 → tkT l o ≠ regText i := fun i hi he => by
          rw [he, regN_text hi] at hq; cases hq
        exact no _ (fl_app hnm (qgNo_ok hT 16 hall)) c3 (hR.trans hq)
      | some k =>
        obtain ⟨hk16, hkt⟩ := regN_some hq
        have hbefore : ∀ i, i < k → tkT l o ≠ regText i := fun i hi he => by
          rw [he, regN_text (by omega)] at hq
          have := Option.some.inj hq
          omega
        have : ok = true := by rw [hok, hR, hq]; rfl
        subst this
        refine ⟨qgIt k, [], _, fl_app hnm (fl_app (qgNo_ok hT k hbefore) (fl_cons (seqT (by rw [hT, hkt])) fl_nil)), allBytes_ok qg_yes k hk16, nd_cons ?_ (nd_cons rfl nd_nil)⟩
        show (rg 71).den ρ = (k : Int)
        rw [e71, hR, hq]; rfl
    · exact no _ (fl_app hone (fl_cons (neF_ok (by rw [hK]; exact hk)) fl_nil)) c2 (by unfold regF; rw [if_neg (fun h => hk h.2)])
  · exact no _ (fl_app hB (fl_cons (neF_ok (by rw [e2]; omega)) fl_nil)) c1 (by unfold regF; rw [if_neg (fun h => hn1 h.1)])
noncomputable def gQg : Gn := gC Tryz.prog 9 (qgC true) [qgC false]
theorem gQg_ok : GoodAt Tryz.prog 27 gQg := good_C gsz (by kernel_rfl) (two (qg_ctr true (by kernel_rfl) rfl) (qg_ctr false (by kernel_rfl) rfl))
noncomputable def knq4 : Known := knCons 27 (gRun Tryz.prog knq3 20 27 gQg) knq3
theorem knq4_ok : KnownOK Tryz.prog knq4 := knCons_ok (good_runC static knq3_ok 20 gQg_ok) knq3_ok
noncomputable def callq4 : CallFn := runD Tryz.prog knq4 20
end Go.Proofs.YtlfeoiagemlbiaaGreatDoor
