/- The reference's texts in quotes: the contract. -/
import Derived.Test.YtlfeoiagemlbiaaGreatDoorCQo
import Derived.Test.YtlfeoiagemlbiaaGreatDoorCCl
set_option linter.unusedVariables false
set_option linter.unusedSectionVars false
set_option linter.unusedSimpArgs false
set_option maxRecDepth 100000
noncomputable section
namespace Go.Proofs.YtlfeoiagemlbiaaGreatDoor
open Go.Den Go.Proofs Go.Extern Go.RowKit
variable [Mqa]
noncomputable def fsQu : Func := Tryz.f99
noncomputable def quC : Ctr := ⟨[.sstr (.v 0)], 9 + 1, [], [short (.v 0), (.lt, .n 0, tLen (.v 0), true)], .sint .i64 (.app 94 (.v 0) (.n 0) (.n 0)), [], []⟩
noncomputable def quS (F : List Fact) : SRes := startS Tryz.prog callq0 fsQu 100000 (stpL [0]) (bodyOf fsQu) quC nmT F
noncomputable def quCan : Go.Den.Can := ⟨[(0, .sstr (.v 0)), (3, .sint .i64 (.v 1))], [], 9 + 1⟩
noncomputable def quLp : Lp := ⟨0, srB (quS []), srK (quS []), quCan⟩
theorem qu_stop : (chkStop Tryz.prog 9 [(0, .v 0), (1, .n 1)] [] quCan 0 (quS []) && lpB (9 + 1) quLp) = true := by kernel_rfl
noncomputable def quRd (F : List Fact) : SRes := roundS Tryz.prog callq0 fsQu.ntmps 100000 (stpL [0]) 0 quLp F
noncomputable def quNd (v : SE) (F : List Fact) : Bool := needsB Tryz.prog 9 fsQu quC [] (quRd F) [.i (.app 94 (.v 0) (.n 0) (.n 0)) v]
theorem qu_end : quNd (.n (-1)) [(.lt, .v 1, tLen (.v 0), false)] = true := by kernel_rfl
noncomputable def quF (c : Nat) : List Fact := [(.lt, .v 1, tLen (.v 0), true), (.lt, .v 1, .n 0, false), (.eq, nmBy, .n (Int.ofNat c), true)]
noncomputable def quB (c : Nat) : Bool := bif Nat.beq c 34 then quNd nmNx (quF c) else bif isText (UInt8.ofNat c) then chkAgain Tryz.prog 9 [(0, .v 0), (1, nmNx)] [] quCan 0 (quRd (quF c)) else quNd (.n (-1)) (quF c)
theorem qu_all : allBytes quB 256 = true := by kernel_rfl
noncomputable def quI (i : Nat) (ρ0 ρ : Rho) (n : Nat) : Prop := ∃ (c : UInt8) (r : List UInt8) (j : Nat), i = 0 ∧ ρ 0 = ρ0 0 ∧ (ρ0 0).s = c :: r ∧ r.length < 999999 ∧ (ρ 1).i = ((j + 1 : Nat) : Int) ∧ j ≤ tw isText r ∧ n = r.length - j
theorem qu_fin {ρ0 ρ : Rho} {cur : Option (Nat × Nat)} {v : SE} {F : List Fact} (h : quNd v F = true) (h1 : quoF (ρ0 0).s = v.den ρ) : OutP Tryz.prog 9 fsQu quC [quLp] quI ρ0 ρ cur (quRd F) :=
  .fin [] _ (needsB_ok h) (nd_cons h1 nd_nil)
theorem qu_loop (ρ0 ρ : Rho) (n : Nat) (hI : quI 0 ρ0 ρ n) : ∃ F : List Fact, (∀ x ∈ F, x.holds ρ) ∧ OutP Tryz.prog 9 fsQu quC [quLp] quI ρ0 ρ (some (0, n)) (quRd F) := by
  obtain ⟨c, r, j, _, h0, hs, hsh, h1, hj, hn⟩ := hI
  have hlen : (tLen (.v 0)).den ρ = ((r.length + 1 : Nat) : Int) := by show ((ρ 0).s.length : Int) = _; rw [h0, hs]; simp
  have e1 : (SE.v 1).den ρ = ((j + 1 : Nat) : Int) := h1
  have hjl := Nat.le_trans hj (tw_le r)
  have hq : quoF (ρ0 0).s = if (r.drop (tw isText r)).head? = some 34 then ((tw isText r + 2 : Nat) : Int) else -1 := by rw [hs]; rfl
  by_cases hlt : j < r.length
  · obtain ⟨b, hb⟩ : ∃ b, b = (r[j]?).getD 0 := ⟨_, rfl⟩
    have hbv : nmBy.den ρ = (b.toNat : Int) := by
      show ((((ρ 0).s[((SE.v 1).den ρ).toNat]?).getD 0).toNat : Int) = _
      rw [e1, h0, hs, Int.toNat_natCast, List.getElem?_cons_succ, hb]
    have hF : ∀ x ∈ quF b.toNat, x.holds ρ := fl_cons (ltT (by rw [e1, hlen]; omega)) (fl_cons (ltN (by rw [e1, den_n]; omega)) (fl_cons (eqF_ok hbv) fl_nil))
    have hck := allBytes_ok qu_all b.toNat (UInt8.toNat_lt b)
    unfold quB at hck
    rw [show UInt8.ofNat b.toNat = b by simp] at hck
    have hnx : nmNx.den ρ = ((j + 1 + 1 : Nat) : Int) := by
      show IntKind.i64.wrap ((SE.v 1).den ρ + 1) = _
      rw [e1, wrap64 (by omega) (by omega)]; simp
    have hhead : (r.drop j).head? = some b := by rw [List.head?_drop, List.getElem?_eq_getElem hlt, hb, List.getElem?_eq_getElem hlt]; rfl
    cases h34 : Nat.beq b.toNat 34 with
    | true =>
      rw [h34, cond_true] at hck
      have hb34 : b = 34 := UInt8.toNat_inj.1 (Nat.eq_of_beq_eq_true h34)
      have htw : tw isText r = j := tw_stop hj (fun _ => by rw [← hb, hb34]; decide) hjl
      exact ⟨_, hF, qu_fin hck (by rw [hq, htw, hhead, hb34, if_pos rfl, hnx])⟩
    | false =>
      rw [h34, cond_false] at hck
      have hb34 : b ≠ 34 := fun h => by rw [h] at h34; exact absurd h34 (by decide)
      cases ht : isText b with
      | true =>
        rw [ht, cond_true] at hck
        exact ⟨_, hF, .again 0 n quLp _ _ (r.length - (j + 1)) rfl rfl (by omega) hck rfl ⟨c, r, j + 1, rfl, h0, hs, hsh, hnx, tw_next hj hlt (by rw [← hb]; exact ht), rfl⟩⟩
      | false =>
        rw [ht, cond_false] at hck
        have htw : tw isText r = j := tw_stop hj (fun _ => by rw [← hb]; exact ht) hjl
        exact ⟨_, hF, qu_fin hck (by rw [hq, htw, hhead, if_neg (fun h => hb34 (Option.some.inj h))]; rfl)⟩
  · have htw : tw isText r = j := tw_stop hj (fun h => absurd h hlt) hjl
    refine ⟨_, fl_cons (ltN (by rw [e1, hlen]; omega)) fl_nil, qu_fin qu_end ?_⟩
    rw [hq, htw, show r.drop j = [] from List.drop_eq_nil_of_le (by omega), if_neg (by simp)]; rfl
theorem qu_ctr : CtrOK Tryz.prog 99 quC := by
  have hst := qu_stop
  rw [Bool.and_eq_true] at hst
  refine ctr_loops (loops := [quLp]) (inv := quI) (fuel := 100000) (stp := stpL [0]) gsz mixed (runD_ok static knq0_ok 20) Tryz.func99 (by kernel_rfl) (show fsQu.body = some (bodyOf fsQu) by kernel_rfl) (by kernel_rfl) (show enterD quC.args fsQu.ntmps 0 .nil = some nmT by kernel_rfl) (by show (lpB (9 + 1) quLp && true) = true; rw [hst.2]; rfl) (fun ρ hF => ?_) ?_
  · have h1 := short_of (hF _ List.mem_cons_self)
    have h2 : Fact.holds ρ (.lt, .n 0, tLen (.v 0), true) := hF _ (List.mem_cons_of_mem _ List.mem_cons_self)
    have h3 : (0 : Int) < ((ρ 0).s.length : Int) := of_ltT h2
    cases hs : (ρ 0).s with
    | nil => rw [hs] at h3; exact absurd h3 (by decide)
    | cons c r =>
      have h4 : (ρ 0).s.length = r.length + 1 := by rw [hs]; rfl
      exact ⟨[], fl_nil, .stop 0 quLp _ [] r.length rfl (fun i m h => by cases h) rfl rfl hst.1 rfl ⟨c, r, 0, rfl, rfl, hs, by omega, rfl, Nat.zero_le _, rfl⟩⟩
  · intro i lp hlp ρ0 ρ n hF hI
    match i, hlp with
    | 0, hlp =>
      obtain rfl : quLp = lp := Option.some.inj hlp
      exact qu_loop ρ0 ρ n hI
    | i + 1, hlp => simp at hlp
noncomputable def gQu : Gn := gC Tryz.prog 9 quC []
theorem gQu_ok : GoodAt Tryz.prog 99 gQu := good_C gsz (by kernel_rfl) (one1 qu_ctr)
noncomputable def knq1 : Known := knCons 99 (gRun Tryz.prog knq0 20 99 gQu) (knCons 98 (gRun Tryz.prog knq0 20 98 gNm) knq0)
theorem knq1_ok : KnownOK Tryz.prog knq1 := knCons_ok (good_runC static knq0_ok 20 gQu_ok) (knCons_ok (good_runC static knq0_ok 20 gNm_ok) knq0_ok)
noncomputable def callq1 : CallFn := runD Tryz.prog knq1 20
end Go.Proofs.YtlfeoiagemlbiaaGreatDoor
