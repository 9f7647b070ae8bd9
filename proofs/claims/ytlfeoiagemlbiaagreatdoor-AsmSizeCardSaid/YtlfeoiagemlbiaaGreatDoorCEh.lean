/- Constants: numbers with signs between: the contract. -/
import Derived.Test.YtlfeoiagemlbiaaGreatDoorCEg
set_option linter.unusedVariables false
set_option linter.unusedSectionVars false
set_option linter.unusedSimpArgs false
set_option maxRecDepth 100000
noncomputable section
namespace Go.Proofs.YtlfeoiagemlbiaaGreatDoor
open Go.Den Go.Proofs Go.Extern Go.RowKit
variable [Mex]
noncomputable def rwInv (b : Bool) (i x : Nat) (ρ0 ρ : Rho) (m : Nat) : Prop := ∃ (l n : Rw) (p d lvl q : Nat) (a : Int), i = 0 ∧ ExAt b ρ0 l n p d ∧ (ρ0 4).i = (lvl : Int) ∧ lvl ≤ 5 ∧ (17 - (d : Int)) * 7 + (6 - (lvl : Int)) < (Mex.m : Int) ∧ ExAt b ρ l n q d ∧ ρ 0 = ρ0 0 ∧ ρ 1 = ρ0 1 ∧ ρ 6 = ρ0 6 ∧ (ρ 4).i = (lvl : Int) ∧ (ρ 5).i = a ∧
  (x = 0 → ∃ k, m = l.length - q + 1 ∧ l.length - q < k ∧ -big ≤ a ∧ a ≤ big ∧ exF l n d lvl p = loopF l lvl (exF l n d (lvl + 1)) k a q) ∧
  (x = 1 → (exF l n d lvl p).v = a ∧ (exF l n d lvl p).at_ = q ∧ (ρ 7).i = ((exF l n d lvl p).eat : Int) ∧ (ρ 8).i = ((exF l n d lvl p).err : Int) ∧ (exF l n d lvl p).err ≠ 0)
theorem ExAt.sub {b : Bool} {ρ : Rho} {l n : Rw} {p d q : Nat} (h : ExAt b ρ l n p d) {a v pp e : SE} (ha : a.den ρ = (q : Int)) (hq : q ≤ l.length) : ExAt b (subρ (rwSx a v pp e) ρ) l n q d :=
  ⟨h.hl, by cases b <;> exact h.hn, ha, h.hd, h.ll, h.nl, hq, h.dl⟩
theorem s8_lv {s : List UInt8} : (∀ x ∈ s8, s ≠ x) → levelS s = 9 := by
  intro h
  unfold levelS
  have q : ∀ x ∈ s8, ¬ s = x := h
  rw [if_neg (q [124] (by decide)), if_neg (q [94] (by decide)), if_neg (q [38] (by decide)), if_neg (q [60, 60] (by decide)), if_neg (q [62, 62] (by decide)), if_neg (q [43] (by decide)), if_neg (q [45] (by decide)), if_neg (q [42] (by decide))]
theorem s8_or (s : List UInt8) : (∀ x ∈ s8, s ≠ x) ∨ ∃ i, i < 8 ∧ s = s8at i ∧ ∀ x ∈ s8.take i, s ≠ x := by
  by_cases h0 : s = s8at 0
  · exact .inr ⟨0, by omega, h0, by simp⟩
  by_cases h1 : s = s8at 1
  · exact .inr ⟨1, by omega, h1, fun x hx => by simp [s8] at hx; subst hx; exact h0⟩
  by_cases h2 : s = s8at 2
  · exact .inr ⟨2, by omega, h2, fun x hx => by simp [s8] at hx; rcases hx with rfl | rfl; exact h0; exact h1⟩
  by_cases h3 : s = s8at 3
  · exact .inr ⟨3, by omega, h3, fun x hx => by simp [s8] at hx; rcases hx with rfl | rfl | rfl; exact h0; exact h1; exact h2⟩
  by_cases h4 : s = s8at 4
  · exact .inr ⟨4, by omega, h4, fun x hx => by simp [s8] at hx; rcases hx with rfl | rfl | rfl | rfl; exact h0; exact h1; exact h2; exact h3⟩
  by_cases h5 : s = s8at 5
  · exact .inr ⟨5, by omega, h5, fun x hx => by simp [s8] at hx; rcases hx with rfl | rfl | rfl | rfl | rfl; exact h0; exact h1; exact h2; exact h3; exact h4⟩
  by_cases h6 : s = s8at 6
  · exact .inr ⟨6, by omega, h6, fun x hx => by simp [s8] at hx; rcases hx with rfl | rfl | rfl | rfl | rfl | rfl; exact h0; exact h1; exact h2; exact h3; exact h4; exact h5⟩
  by_cases h7 : s = s8at 7
  · exact .inr ⟨7, by omega, h7, fun x hx => by simp [s8] at hx; rcases hx with rfl | rfl | rfl | rfl | rfl | rfl | rfl; exact h0; exact h1; exact h2; exact h3; exact h4; exact h5; exact h6⟩
  exact .inl fun x hx => by
    simp [s8] at hx
    rcases hx with rfl | rfl | rfl | rfl | rfl | rfl | rfl | rfl
    exact h0; exact h1; exact h2; exact h3; exact h4; exact h5; exact h6; exact h7
theorem s8_ne (i : Nat) (h : i < 8) : s8at i ≠ [] := by
  have : ∀ i, i < 8 → s8at i ≠ [] := by decide
  exact this i h
theorem rwGo_ok {b : Bool} {ρ : Rho} {l n : Rw} {q d lvl p' : Nat} {t : SE} (h : ExAt b ρ l n q d) (h4 : (ρ 4).i = (lvl : Int)) (hl : lvl ≤ 5) (hM : (17 - (d : Int)) * 7 + (6 - (lvl : Int)) < (Mex.m : Int)) (ht : t.den ρ = (p' : Int)) (hp : p' ≤ l.length) {ok : Bool} (hok : ok = decide ((exF l n d (lvl + 1) p').err = 0)) :
    (∀ x ∈ rwGo b t ok, x.holds ρ) ∧ ExIs b ρ t (.v 3) rwK1 (exF l n d (lvl + 1) p') := by
  have e3 : (SE.v 3).den ρ = (d : Int) := h.hd
  have e4 : (SE.v 4).den ρ = (lvl : Int) := h4
  have hk : rwK1.den ρ = ((lvl + 1 : Nat) : Int) := by
    show IntKind.i64.wrap ((SE.v 4).den ρ + 1) = _
    rw [e4, wrap64 (by omega) (by omega)]; simp
  have is := exIs h ht e3 hk
  have hlen := h.row
  refine ⟨fl_cons (ltN (by rw [ht, den_n]; omega)) (fl_cons (leT (by rw [ht, hlen]; omega)) (fl_cons (ltN (by rw [hk, den_n]; omega)) (fl_cons (ltN (by rw [hk, den_n]; omega)) (fl_cons (ltT (by
    show (17 - (SE.v 3).den ρ) * 7 + (6 - rwK1.den ρ) < (Mex.m : Int) - 1
    rw [e3, hk]; omega)) (fl_cons (eqB_ok ok (by
    rw [show (rwI 42 b t).den ρ = _ from is.h42, hok]; congr 1; simp)) fl_nil))))), is⟩
theorem rw_loop (b ok : Bool) (x : Nat) (hx : x ≤ 1) (ρ0 ρ : Rho) (m : Nat) (hF : ∀ x ∈ (rowC b 39 ok).facts, x.holds ρ0) (hI : rwInv b 0 x ρ0 ρ m) :
    ∃ F : List Fact, (∀ x ∈ F, x.holds ρ) ∧ OutA Tryz.prog 9 fsRow (rowC b 39 ok) [rwLp b] (rwInv b) ρ0 ρ (some (0, m)) (rwRd b x F) := by
  obtain ⟨l, n, p, d, lvl, q, a, _, h0, h04, hl5, hM, h, r0, r1, r6, h4, h5, hi0, hi1⟩ := hI
  have hlen := h.row
  have e2 : (SE.v 2).den ρ = (q : Int) := h.hp
  have e3 : (SE.v 3).den ρ = (d : Int) := h.hd
  have e4 : (SE.v 4).den ρ = (lvl : Int) := h4
  have e5 : (SE.v 5).den ρ = a := h5
  have a1 := h.ll; have a3 := h.pl; have a4 := h.dl
  have is := exIs h0 (t := .v 2) (u := .v 3) (v := .v 4) (k' := lvl) h0.hp h0.hd h04
  obtain ⟨R, hR⟩ : ∃ R, R = exF l n d lvl p := ⟨_, rfl⟩
  rw [← hR] at is
  have hfact : Fact.holds ρ0 (.eq, roV 42 b, .n 0, ok) := hF _ (List.mem_append_right _ (List.mem_cons_of_mem _ (List.mem_cons_of_mem _ (List.mem_cons_of_mem _ List.mem_cons_self))))
  have hok : ok = decide (R.err = 0) := by
    have h42 : (roV 42 b).den ρ0 = (R.err : Int) := is.h42
    cases ok with
    | true => have := of_eqT hfact; rw [h42] at this; simp; omega
    | false => have := of_eqN hfact; rw [h42] at this; simp; omega
  have d3 : (SE.v 3).den ρ0 = (SE.v 3).den ρ := by rw [e3]; exact h0.hd
  have hck := rw_chk b
  unfold rwChk at hck
  simp only [Bool.and_eq_true] at hck
  match x, hx with
  | 1, _ =>
    obtain ⟨g1, g2, g3, g4, g5⟩ := hi1 rfl
    rw [← hR] at g1 g2 g3 g4 g5
    have : ok = false := by rw [hok]; simpa using g5
    subst this
    exact ⟨[], fl_nil, .fin _ _ (needsB_ok hck.1.1.2) (nd_cons (by show (roV 40 b).den ρ0 = (SE.v 5).den ρ; rw [e5, ← g1]; exact is.h40) (fl_appN (rdN_ok r0 r1 r6 (by rw [e2, ← g2]; exact is.h41) d3) (nd_cons (by show (roV 43 b).den ρ0 = (ρ 7).i; rw [g3]; exact is.h43) (nd_cons (by show (roV 42 b).den ρ0 = (ρ 8).i; rw [g4]; exact is.h42) nd_nil))))⟩
  | 0, _ =>
    obtain ⟨k, hm, hk, b1, b2, hloop⟩ := hi0 rfl
    rw [← hR] at hloop
    have hF0 : ∀ x ∈ rwF0 b, x.holds ρ := fl_app h.fs (fl_cons (ltN (by rw [e4, den_n]; omega)) (fl_cons (ltN (by rw [e4, den_n]; omega)) fl_nil))
    have fin : ∀ F : List Fact, (∀ x ∈ F, x.holds ρ) → rwOk b (rwRd b 0 F) (.v 5) (.v 2) = true → R = ⟨a, q, 0, 0⟩ → ∃ F : List Fact, (∀ x ∈ F, x.holds ρ) ∧ OutA Tryz.prog 9 fsRow (rowC b 39 ok) [rwLp b] (rwInv b) ρ0 ρ (some (0, m)) (rwRd b 0 F) := by
      intro F hG hc hRe
      have : ok = true := by rw [hok, hRe]; rfl
      subst this
      exact ⟨F, hG, .fin _ _ (needsB_ok hc) (nd_cons (by show (roV 40 b).den ρ0 = (SE.v 5).den ρ; rw [e5, show (roV 40 b).den ρ0 = R.v from is.h40, hRe]) (fl_appN (rdN_ok r0 r1 r6 (by rw [e2, show (roV 41 b).den ρ0 = (R.at_ : Int) from is.h41, hRe]) d3) nd_nil))⟩
    cases k with
    | zero => omega
    | succ k =>
      unfold loopF at hloop
      rcases s8_or (signAt l q) with hno | ⟨i, hi, hs, hpre⟩
      · rw [if_neg (by rw [s8_lv hno]; omega)] at hloop
        obtain ⟨x, hx, hf⟩ := noSg_ok h e2 (L := s8) hno
        have hc : rwOk b (rwRd b 0 (rwNo b x)) (.v 5) (.v 2) = true := by
          match x, hx with
          | 0, _ => exact hck.1.1.1.1.1
          | 1, _ => exact hck.1.1.1.1.2
          | 2, _ => exact hck.1.1.1.2
        exact fin _ (fl_app hF0 hf) hc hloop
      · have hci := allBytes_ok (rw_chkI b) i hi
        unfold rwChkI at hci
        simp only [Bool.and_eq_true] at hci
        have hsg : ∀ x ∈ rwSg b i, x.holds ρ := fl_app hF0 (isSg_ok h e2 hs (s8_ne i hi) (fun x hx => by rw [← hs]; exact hpre x hx))
        by_cases hlv : levelS (signAt l q) = lvl
        · rw [if_pos hlv] at hloop
          have hql : q < l.length := signAt_lt (by rw [hs]; exact s8_ne i hi)
          have hP : onP.den ρ = ((q + 1 : Nat) : Int) := by
            show IntKind.i64.wrap ((SE.v 2).den ρ + 1) = _
            rw [e2, wrap64 (by omega) (by omega)]; simp
          obtain ⟨R1, hR1⟩ : ∃ R1, R1 = exF l n d (lvl + 1) (q + 1) := ⟨_, rfl⟩
          rw [← hR1] at hloop
          have hb := exF_ok l n d (lvl + 1) (q + 1) hql
          rw [← hR1] at hb
          have hle := hb.len
          have hge := hb.le
          have hkf : Fact.holds ρ (.eq, .n (levelS (s8at i)), .v 4, true) := by
            show (((levelS (s8at i) : Nat) : Int) == (SE.v 4).den ρ) = true
            rw [e4, ← hs, hlv]; simp
          by_cases he : R1.err = 0
          · rw [if_pos he] at hloop
            obtain ⟨hgo, is1⟩ := rwGo_ok h h4 hl5 hM hP hql (ok := true) (by rw [← hR1, he]; rfl)
            rw [← hR1] at is1
            have hhit : ∀ x ∈ rwHit b i true, x.holds ρ := fl_app (fl_app hsg (fl_cons hkf fl_nil)) hgo
            have hbv := (hb.ok he).2
            unfold big at hbv b1 b2
            have e40 : (rwI 40 b onP).den ρ = R1.v := is1.h40
            have eT : onTx.str ρ = signAt l q := by
              rw [show onTx.str ρ = tkT l q from (cell_at h e2).2]
              unfold signAt
              unfold signAt at hs
              split at hs
              · rename_i hq; rw [if_pos hq]
              · exact absurd hs.symm (s8_ne i hi)
            have eof : ∀ f : Nat, ofF (onTx.str ρ) ((SE.v 5).den ρ) ((rwI 40 b onP).den ρ) = ofF (signAt l q) a R1.v := fun _ => by rw [eT, e5, e40]
            have e48 : (rwOf b 48).den ρ = (ofF (signAt l q) a R1.v).1 := by show (ofF (onTx.str ρ) ((SE.v 5).den ρ) ((rwI 40 b onP).den ρ)).1 = _; rw [eof 0]
            have e49 : (rwOf b 49).den ρ = ((ofF (signAt l q) a R1.v).2 : Int) := by show (((ofF (onTx.str ρ) ((SE.v 5).den ρ) ((rwI 40 b onP).den ρ)).2 : Nat) : Int) = _; rw [eof 0]
            have hO : ∀ ok2 : Bool, ok2 = decide ((ofF (signAt l q) a R1.v).2 = 0) → ∀ x ∈ rwHitO b i ok2, x.holds ρ := fun ok2 ho => fl_app (fl_app (fl_app hhit (inBF_ok e5 b1 b2)) (inBF_ok e40 hbv.1 hbv.2)) (fl_cons (eqB_ok ok2 (by rw [e49, ho]; congr 1; simp)) fl_nil)
            obtain ⟨o1, o2, o3⟩ := ofF_ok (signAt l q) a R1.v
            by_cases ho : (ofF (signAt l q) a R1.v).2 = 0
            · rw [if_pos ho] at hloop
              unfold rwAg at hci
              simp only [Bool.and_eq_true] at hci
              refine ⟨_, hO true (by simpa using ho), .again 0 m 0 (rwLp b) (rwCan0 b) _ _ (l.length - R1.at_ + 1) rfl rfl rfl (by omega) hci.1.2.1 hci.1.2.2 ⟨l, n, p, d, lvl, R1.at_, (ofF (signAt l q) a R1.v).1, rfl, h0, h04, hl5, hM, h.sub is1.h41 hle, r0, r1, r6, h4, e48, fun _ => ⟨k, rfl, by omega, (o1 ho).1, (o1 ho).2, by rw [← hR]; exact hloop⟩, fun hh => (by cases hh)⟩⟩
            · rw [if_neg ho] at hloop
              unfold rwAg at hci
              simp only [Bool.and_eq_true] at hci
              refine ⟨_, hO false (by simpa using ho), .again 0 m 1 (rwLp b) (rwCan1 b) _ _ 0 rfl rfl rfl (by omega) hci.2.1 hci.2.2 ⟨l, n, p, d, lvl, R1.at_, (ofF (signAt l q) a R1.v).1, rfl, h0, h04, hl5, hM, h.sub is1.h41 hle, r0, r1, r6, h4, e48, fun hh => (by cases hh), fun _ => ?_⟩⟩
              rw [← hR, hloop]
              exact ⟨rfl, rfl, e2, e49, ho⟩
          · rw [if_neg he] at hloop
            obtain ⟨hgo, is1⟩ := rwGo_ok h h4 hl5 hM hP hql (ok := false) (by rw [← hR1]; simpa using he)
            rw [← hR1] at is1
            unfold rwAg at hci
            simp only [Bool.and_eq_true] at hci
            refine ⟨_, fl_app (fl_app hsg (fl_cons hkf fl_nil)) hgo, .again 0 m 1 (rwLp b) (rwCan1 b) _ _ 0 rfl rfl rfl (by omega) hci.1.1.2.1 hci.1.1.2.2 ⟨l, n, p, d, lvl, R1.at_, a, rfl, h0, h04, hl5, hM, h.sub is1.h41 hle, r0, r1, r6, h4, h5, fun hh => (by cases hh), fun _ => ?_⟩⟩
            rw [← hR, hloop]
            exact ⟨rfl, rfl, is1.h43, is1.h42, he⟩
        · rw [if_neg hlv] at hloop
          refine fin _ (fl_app hsg (fl_cons ?_ fl_nil)) hci.1.1.1 hloop
          show (((levelS (s8at i) : Nat) : Int) == (SE.v 4).den ρ) = false
          rw [e4, ← hs, beq_eq_false_iff_ne]; omega
theorem row_ctr (hk : KnownOK Tryz.prog kn12) (b ok : Bool) (ht : enterD (rowC b 39 ok).args fsRow.ntmps 0 .nil = some rwT) (hS : startS Tryz.prog call12 fsRow 100000 (stpL [0]) (bodyOf fsRow) (rowC b 39 ok) rwT = rwS b) (hb1 : (rwLp b).b = srB (rwS b (rwStart b false))) (hK1 : (rwLp b).K = srK (rwS b (rwStart b false))) : CtrOK Tryz.prog 217 (rowC b 39 ok) := by
  have hst := rw_stop b
  simp only [Bool.and_eq_true] at hst
  refine ctr_loopsA (loops := [rwLp b]) (inv := rwInv b) (fuel := 100000) (stp := stpL [0]) gsz mixed (runD_ok static hk 20) Tryz.func217 (by kernel_rfl) (show fsRow.body = some (bodyOf fsRow) by kernel_rfl) (by kernel_rfl) ht (show ([rwLp b].all (laB (exNx b))) = true by simp only [List.all_cons, List.all_nil, Bool.and_true]; exact hst.2) (fun ρ hF => ?_) ?_
  · show ∃ F : List Fact, _ ∧ OutA _ _ _ _ _ _ _ _ _ (startS Tryz.prog call12 fsRow 100000 (stpL [0]) (bodyOf fsRow) (rowC b 39 ok) rwT F)
    rw [hS]
    have hB : ∀ x ∈ exFs b, x.holds ρ := fun x hx => hF x (List.mem_append_left _ hx)
    obtain ⟨l, n, p, d, h⟩ := exFs_at hB
    have f1 : Fact.holds ρ (.lt, .v 4, .n 0, false) := hF _ (List.mem_append_right _ List.mem_cons_self)
    have f2 : Fact.holds ρ (.lt, .n 6, .v 4, false) := hF _ (List.mem_append_right _ (List.mem_cons_of_mem _ List.mem_cons_self))
    have f3 : Fact.holds ρ (exM 39 (.v 3) (.v 4)) := hF _ (List.mem_append_right _ (List.mem_cons_of_mem _ (List.mem_cons_of_mem _ List.mem_cons_self)))
    have k1 : 0 ≤ (ρ 4).i := by have h := of_ltN f1; rw [den_n] at h; exact h
    have k2 : (ρ 4).i ≤ 6 := by have h := of_ltN f2; rw [den_n] at h; exact h
    obtain ⟨lvl, h4⟩ : ∃ lvl : Nat, (ρ 4).i = (lvl : Int) := ⟨(ρ 4).i.toNat, by omega⟩
    have e2 : (SE.v 2).den ρ = (p : Int) := h.hp
    have e3 : (SE.v 3).den ρ = (d : Int) := h.hd
    have e4 : (SE.v 4).den ρ = (lvl : Int) := h4
    have hM : (17 - (d : Int)) * 7 + (6 - (lvl : Int)) < (Mex.m : Int) := by
      have := of_ltT f3
      rw [show (SE.app 44 (.v 3) (.v 4) (.n 0)).den ρ = (17 - (SE.v 3).den ρ) * 7 + (6 - (SE.v 4).den ρ) from rfl, e3, e4] at this
      exact this
    have hLv : ∀ x ∈ exFs b ++ rwLv, x.holds ρ := fl_app hB (fl_cons f1 (fl_cons f2 fl_nil))
    have is := exIs h (t := .v 2) (u := .v 3) (v := .v 4) (k' := lvl) e2 e3 e4
    have hfact : Fact.holds ρ (.eq, roV 42 b, .n 0, ok) := hF _ (List.mem_append_right _ (List.mem_cons_of_mem _ (List.mem_cons_of_mem _ (List.mem_cons_of_mem _ List.mem_cons_self))))
    by_cases h6 : lvl = 6
    · subst h6
      have is6 := exIs h (t := .v 2) (u := .v 3) (v := .n 6) (k' := 6) e2 e3 rfl
      have hok : ok = decide ((exF l n d 6 p).err = 0) := by
        have h42 : (roV 42 b).den ρ = ((exF l n d 6 p).err : Int) := is.h42
        cases ok with
        | true => have := of_eqT hfact; rw [h42] at this; simp; omega
        | false => have := of_eqN hfact; rw [h42] at this; simp; omega
      have hfs : ∀ x ∈ rwOne b ok, x.holds ρ := fl_app hLv (fl_cons (eqF_ok e4) (fl_cons (ltT (by
        show (17 - (SE.v 3).den ρ) * 7 + (6 - 6) < (Mex.m : Int)
        rw [e3]; omega)) (fl_cons (eqB_ok ok (by rw [show (onV 42 b).den ρ = _ from is6.h42, hok]; congr 1; simp)) fl_nil)))
      have hck := rw_chk b
      unfold rwChk at hck
      simp only [Bool.and_eq_true] at hck
      have n40 : (roV 40 b).den ρ = (onV 40 b).den ρ := by rw [show (roV 40 b).den ρ = _ from is.h40]; exact is6.h40.symm
      have n41 : (roV 41 b).den ρ = (onV 41 b).den ρ := by rw [show (roV 41 b).den ρ = _ from is.h41]; exact is6.h41.symm
      have n42 : (roV 42 b).den ρ = (onV 42 b).den ρ := by rw [show (roV 42 b).den ρ = _ from is.h42]; exact is6.h42.symm
      have n43 : (roV 43 b).den ρ = (onV 43 b).den ρ := by rw [show (roV 43 b).den ρ = _ from is.h43]; exact is6.h43.symm
      cases ok with
      | true => exact ⟨_, hfs, .fin _ _ (needsB_ok hck.1.2) (nd_cons n40 (fl_appN (rdN_ok rfl rfl rfl n41 rfl) nd_nil))⟩
      | false => exact ⟨_, hfs, .fin _ _ (needsB_ok hck.2) (nd_cons n40 (fl_appN (rdN_ok rfl rfl rfl n41 rfl) (nd_cons n43 (nd_cons n42 nd_nil))))⟩
    · have hl5 : lvl ≤ 5 := by omega
      have a3 := h.pl
      obtain ⟨R1, hR1⟩ : ∃ R1, R1 = exF l n d (lvl + 1) p := ⟨_, rfl⟩
      have hb := exF_ok l n d (lvl + 1) p a3
      rw [← hR1] at hb
      have hrow := exF_row l n d hl5 p
      unfold chainF at hrow
      rw [← hR1] at hrow
      have hne6 : Fact.holds ρ (.eq, .v 4, .n 6, false) := neF_ok (by rw [e4]; omega)
      by_cases he : R1.err = 0
      · rw [if_pos he] at hrow
        obtain ⟨hgo, is1⟩ := rwGo_ok h h4 hl5 hM e2 a3 (ok := true) (by rw [← hR1, he]; rfl)
        rw [← hR1] at is1
        refine ⟨rwStart b true, fl_app (fl_app hLv (fl_cons hne6 fl_nil)) hgo, .stop 0 0 (rwLp b) (rwCan0 b) _ [] (l.length - R1.at_ + 1) rfl rfl (fun i m h => by cases h) rfl rfl hst.1.1 rfl
          ⟨l, n, p, d, lvl, R1.at_, R1.v, rfl, h, h4, hl5, hM, h.sub is1.h41 hb.len, rfl, rfl, rfl, h4, is1.h40, fun _ => ⟨l.length + 1, rfl, by omega, (hb.ok he).2.1, (hb.ok he).2.2, hrow⟩, fun hh => (by cases hh)⟩⟩
      · rw [if_neg he] at hrow
        obtain ⟨hgo, is1⟩ := rwGo_ok h h4 hl5 hM e2 a3 (ok := false) (by rw [← hR1]; simpa using he)
        rw [← hR1] at is1
        refine ⟨rwStart b false, fl_app (fl_app hLv (fl_cons hne6 fl_nil)) hgo, .stop 0 1 (rwLp b) (rwCan1 b) _ [] 0 rfl rfl (fun i m h => by cases h) hb1.symm hK1.symm hst.1.2 rfl
          ⟨l, n, p, d, lvl, R1.at_, R1.v, rfl, h, h4, hl5, hM, h.sub is1.h41 hb.len, rfl, rfl, rfl, h4, is1.h40, fun hh => (by cases hh), fun _ => ?_⟩⟩
        rw [hrow]
        exact ⟨rfl, rfl, is1.h43, is1.h42, he⟩
  · intro i lp x can hlp hx ρ0 ρ m hF hI
    match i, hlp with
    | 0, hlp =>
      simp at hlp; subst hlp
      match x, hx with
      | 0, hx => cases hx; exact rw_loop b ok 0 (by omega) ρ0 ρ m hF hI
      | 1, hx => cases hx; exact rw_loop b ok 1 (by omega) ρ0 ρ m hF hI
      | x + 2, hx => simp [rwLp] at hx
    | i + 1, hlp => simp at hlp
end Go.Proofs.YtlfeoiagemlbiaaGreatDoor
