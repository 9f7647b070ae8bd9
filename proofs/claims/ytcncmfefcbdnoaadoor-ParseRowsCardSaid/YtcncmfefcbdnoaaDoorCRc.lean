/- Lines of as many operands: the law's contract. -/
import Derived.Test.YtcncmfefcbdnoaaDoorCRb
import Derived.Test.YtcncmfefcbdnoaaDoorXs4
set_option linter.unusedVariables false
set_option linter.unusedSectionVars false
set_option linter.unusedSimpArgs false
set_option maxRecDepth 100000
noncomputable section
namespace Go.Proofs.YtcncmfefcbdnoaaDoor
open Go.Den Go.Proofs Go.Extern Go.RowKit
variable [Mpr]
/-- what is granted of the arguments -/
theorem rrF {ρ : Rho} (hF : ∀ x ∈ rrFs, x.holds ρ) : bytesR (ρ 0).r = true ∧ 0 ≤ (ρ 3).i ∧ 0 ≤ (ρ 1).i ∧ (ρ 1).i < 256 := by
  have f1 : Fact.holds ρ (.eq, sy 79 rrW, .n 1, true) := hF _ List.mem_cons_self
  have f2 : Fact.holds ρ (.lt, .v 3, .n 0, false) := hF _ (List.mem_cons_of_mem _ List.mem_cons_self)
  have f3 : Fact.holds ρ (.lt, .v 1, .n 0, false) := hF _ (List.mem_cons_of_mem _ (List.mem_cons_of_mem _ List.mem_cons_self))
  have f4 : Fact.holds ρ (.lt, .v 1, .n 256, true) := hF _ (List.mem_cons_of_mem _ (List.mem_cons_of_mem _ (List.mem_cons_of_mem _ List.mem_cons_self)))
  have k1 := of_eqT f1
  have k2 := of_ltN f2
  have k3 := of_ltN f3
  have k4 := of_ltT f4
  rw [den_n] at k2 k3 k4
  refine ⟨?_, k2, k3, k4⟩
  have k1' : b01 (bytesR (ρ 0).r) = 1 := k1
  cases h : bytesR (ρ 0).r with
  | true => rfl
  | false => rw [h] at k1'; exact absurd k1' (by decide)
/-- which one stands in brackets -/
def rrJ (ρ0 : Rho) : Nat := (ρ0 1).i.toNat % (ρ0 0).r.length
noncomputable def rrI (i x : Nat) (ρ0 ρ : Rho) (m : Nat) : Prop := ∃ (n : Nat), (i = 0 ∨ i = 1) ∧ x = 0 ∧ ρ 0 = ρ0 0 ∧ ρ 1 = ρ0 1 ∧ ρ 2 = ρ0 2 ∧ ρ 3 = ρ0 3 ∧ (ρ 5).i = (n : Int) ∧ n ≤ (ρ0 0).r.length ∧ m = (ρ0 0).r.length - n ∧ 1 ≤ (ρ0 0).r.length ∧ (ρ0 0).r.length ≤ 20 ∧
  (i = 0 → (ρ 4).s = rowsT (bytesN (ρ0 0).r) (rrJ ρ0) n) ∧ (i = 1 → (ρ 4).s = rowsT (bytesN (ρ0 0).r) (rrJ ρ0) (ρ0 0).r.length)
theorem rr_n {ρ : Rho} : rrN.den ρ = (((ρ 0).r.length : Nat) : Int) := rfl
theorem rr_m {ρ : Rho} (h : 0 ≤ (ρ 1).i) (h2 : (ρ 1).i < 256) : rrM.den ρ = (((ρ 1).i.toNat % (ρ 0).r.length : Nat) : Int) := by
  show (IntKind.i64.wrap (ρ 1).i).tmod (((ρ 0).r.length : Nat) : Int) = _
  rw [wrap64 (by omega) (by omega)]
  obtain ⟨n, hn⟩ : ∃ n : Nat, (ρ 1).i = (n : Int) := ⟨(ρ 1).i.toNat, by omega⟩
  rw [hn, Int.toNat_natCast, Int.tmod_eq_emod_of_nonneg (by omega)]; omega
theorem rr_d {ρ : Rho} (hb : bytesR (ρ 0).r = true) {n : Nat} (h5 : (ρ 5).i = (n : Int)) (hn : n < (ρ 0).r.length) : rrD.den ρ = (((bytesN (ρ 0).r).getD n 0 : Nat) : Int) := by
  obtain ⟨b, h1, h2, h3⟩ := bytesR_at hb hn
  show IntKind.i64.wrap ((cellAt (ρ 0).r (ρ 5).i.toNat ((0 : Nat) : Int).toNat).1.tmod 16) = _
  rw [h5, Int.toNat_natCast, show ((0 : Nat) : Int).toNat = 0 from rfl, h1, h3, Int.tmod_eq_emod_of_nonneg (by omega), wrap64 (by omega) (by omega)]
  omega
theorem rr_x0 {ρ : Rho} {d : Nat} (h : rrD.den ρ = (d : Int)) : rrX0.str ρ = regText d := by
  show [99] ++ decF (rrD.den ρ).toNat = _
  rw [h, Int.toNat_natCast]; rfl
theorem rr_x {ρ : Rho} {d : Nat} (h : rrD.den ρ = (d : Int)) (b : Bool) : (rrX b).str ρ = pieceT b d := by
  have h0 := rr_x0 h
  cases b with
  | false => exact h0
  | true =>
    show ([40, 49, 44, 32, 50, 44, 32] ++ rrX0.str ρ) ++ [41] = _
    rw [h0]; rfl
theorem rr_sc {ρ : Rho} (c : Bool) : (rrSc c).str ρ = bif c then (ρ 4).s ++ [44, 32] else (ρ 4).s := by cases c <;> rfl
theorem int_nbeq (a b : Nat) : (((a : Nat) : Int) == ((b : Nat) : Int)) = Nat.beq a b := by
  rw [Bool.eq_iff_iff, beq_iff_eq, Nat.beq_eq]; omega
theorem mx_ok {ρ : Rho} {t : SE} (h : (t.str ρ).length ≤ 1000) : Fact.holds ρ (mxL t) := leT (by rw [tLen_den, den_n]; omega)
theorem rr_lp0 (ρ0 ρ : Rho) (m : Nat) (hF : ∀ x ∈ rrFs, x.holds ρ0) (hI : rrI 0 0 ρ0 ρ m) :
    ∃ F : List Fact, (∀ x ∈ F, x.holds ρ) ∧ OutA Tryd.prog 9 fsRr rrC [rrLp, rrLp2] rrI ρ0 ρ (some (0, m)) (rrRd F) := by
  obtain ⟨n, _, _, h0, h1, h2, h3, h5, hn, hm, hl1, hl20, h4, _⟩ := hI
  have h4 := h4 rfl
  obtain ⟨b0, b3, b1, b1'⟩ := rrF hF
  have hF' : ∀ x ∈ rrFs, x.holds ρ := by
    have e79 : (sy 79 rrW).den ρ = (sy 79 rrW).den ρ0 := by
      show b01 (bytesR ((ρ 0).r)) = b01 (bytesR ((ρ0 0).r)); rw [h0]
    refine fl_cons (eqF_ok ?_) (fl_cons (ltN ?_) (fl_cons (ltN ?_) (fl_cons (ltT ?_) fl_nil)))
    · show b01 (bytesR ((ρ 0).r)) = 1; rw [h0, b0]; rfl
    · show (0 : Int) ≤ (ρ 3).i; rw [h3]; exact b3
    · show (0 : Int) ≤ (ρ 1).i; rw [h1]; exact b1
    · show (ρ 1).i < 256; rw [h1]; exact b1'
  have hlen : (ρ 0).r.length = (ρ0 0).r.length := by rw [h0]
  have e5 : (SE.v 5).den ρ = (n : Int) := h5
  have hNd : rrN.den ρ = (((ρ0 0).r.length : Nat) : Int) := by rw [rr_n, hlen]
  have hIn : ∀ x ∈ rrIn, x.holds ρ := fl_app hF' (fl_cons (ltN (by rw [e5, den_n]; omega)) (fl_cons (ltN (by rw [hNd, den_n]; omega)) (fl_cons (neF_ok (by rw [hNd]; omega)) fl_nil)))
  have hM : rrM.den ρ = ((rrJ ρ0 : Nat) : Int) := by rw [rr_m (by rw [h1]; exact b1) (by rw [h1]; exact b1'), h1, h0]; rfl
  have hsT : ∀ k, (rowsT (bytesN (ρ0 0).r) (rrJ ρ0) k).length ≤ 8 + 14 * k := rows_short (bytesN_lt _) _
  by_cases hend : n = (ρ0 0).r.length
  · subst hend
    obtain ⟨hp, hlx⟩ := rows_par (bytesN_lt (ρ0 0).r) (j := rrJ ρ0) hl1
    have hargs : (argsT (rrJ ρ0) (ρ0 0).r.length).length = (ρ0 0).r.length := by unfold argsT; simp
    have ht85 : (tRows (sy 85 (.v 4))).den ρ = (((ρ0 0).r.length : Nat) : Int) := by
      show (((((parT (ρ 4).s).args.map argR).length : Nat)) : Int) = _
      rw [h4, hp, List.length_map, hargs]
    have hck := rr_stop2
    simp only [Bool.and_eq_true] at hck
    refine ⟨rrEnd, fl_app hIn (fl_cons (ltN (by rw [hNd, e5]; omega)) (fl_cons (ltT (by rw [tLen_den, den_n]; show (((ρ 4).s.length : Nat) : Int) < _; rw [h4]; have := hsT (ρ0 0).r.length; omega)) (fl_cons (eqF_ok ?_) (fl_cons (eqF_ok ?_) (fl_cons (neF_ok ?_) (fl_cons (neF_ok ?_) (fl_cons (seqT ?_) (fl_cons (seqT ?_) (fl_cons ?_ fl_nil))))))))), ?_⟩
    · show (((lexF (ρ 4).s).2.1 : Nat) : Int) = 0; rw [h4, hlx]; rfl
    · show (((parT (ρ 4).s).err : Nat) : Int) = 0; rw [h4, hp]; rfl
    · show b01 ((parT (ρ 4).s).dot) ≠ 1; rw [h4, hp]; show b01 false ≠ 1; decide
    · rw [ht85]; omega
    · show (parT (ρ 4).s).lab = _; rw [h4, hp]
    · show (parT (ρ 4).s).name = _; rw [h4, hp]
    · show ((tRows (sy 85 (.v 4))).den ρ == rrN.den ρ) = true; rw [ht85, hNd]; simp
    · refine .stop 1 0 rrLp2 rrCan2 _ _ (ρ0 0).r.length rfl rfl (fun i m hh => by cases hh; decide) rfl rfl hck.1 (by decide) ⟨0, .inr rfl, rfl, h0, h1, h2, h3, rfl, Nat.zero_le _, rfl, hl1, hl20, fun h => absurd h (show ¬ (1 : Nat) = 0 by decide), fun _ => h4⟩
  · have hlt : n < (ρ0 0).r.length := by omega
    obtain ⟨c, hc⟩ : ∃ c, c = Nat.blt 0 n := ⟨_, rfl⟩
    obtain ⟨h, hh⟩ : ∃ h, h = Nat.beq n (rrJ ρ0) := ⟨_, rfl⟩
    have hd := rr_d (ρ := ρ) (by rw [h0]; exact b0) h5 (by omega)
    rw [h0] at hd
    have hd16 : (bytesN (ρ0 0).r).getD n 0 < 16 := getD_lt (bytesN_lt _) n
    have hx0 : (rrX0.str ρ).length ≤ 12 := by rw [rr_x0 hd]; exact (piece_lex false hd16).2.2
    have hx1 : (rrX1.str ρ).length ≤ 30 := by show ([40, 49, 44, 32, 50, 44, 32] ++ rrX0.str ρ).length ≤ 30; simp; omega
    have hxx : ∀ b, ((rrX b).str ρ).length ≤ 12 := fun b => by rw [rr_x hd]; exact (piece_lex b hd16).2.2
    have h4l : (ρ 4).s.length ≤ 8 + 14 * n := by rw [h4]; exact hsT n
    have hsc : ∀ b, ((rrSc b).str ρ).length ≤ 10 + 14 * n := fun b => by rw [rr_sc]; cases b <;> simp <;> omega
    have hck : rrB0 c h = true := by
      have := rr_rd
      simp only [Bool.and_eq_true] at this
      obtain ⟨⟨⟨q1, q2⟩, q3⟩, q4⟩ := this
      cases c <;> cases h <;> assumption
    refine ⟨rrSt c h, fl_app hIn (fl_app (fl_cons (ltT (by rw [hNd, e5]; omega)) (fl_cons (ltB c (by rw [den_n, e5, hc, Bool.eq_iff_iff]; simp)) fl_nil)) (fl_app ?_ (fl_app (fl_cons (ltN (by rw [hd, den_n]; omega)) (fl_cons (leN (by rw [hd, den_n]; omega)) (fl_cons (mx_ok (by omega)) (fl_cons ?_ fl_nil)))) (fl_app ?_ (fl_cons (mx_ok ?_) fl_nil))))), ?_⟩
    · cases c
      · exact fl_nil
      · exact fl_cons (mx_ok (by have := hsc true; omega)) fl_nil
    · show ((SE.v 5).den ρ == rrM.den ρ) = h
      rw [e5, hM, hh, int_nbeq]
    · cases h
      · exact fl_nil
      · exact fl_cons (mx_ok (by omega)) (fl_cons (mx_ok (by have := hxx true; omega)) fl_nil)
    · show ((rrSc c).str ρ ++ (rrX h).str ρ).length ≤ 1000
      have q1 := hsc c; have q2 := hxx h
      rw [List.length_append]; omega
    · refine .again 0 m 0 rrLp rrCan _ _ ((ρ0 0).r.length - (n + 1)) rfl rfl rfl (by omega) hck rfl ⟨n + 1, .inl rfl, rfl, h0, h1, h2, h3, ?_, by omega, rfl, hl1, hl20, fun _ => ?_, fun h => absurd h (show ¬ (0 : Nat) = 1 by decide)⟩
      · show IntKind.i64.wrap ((SE.v 5).den ρ + 1) = _
        rw [e5, wrap64 (by omega) (by omega)]; simp
      · show (rrSc c).str ρ ++ (rrX h).str ρ = rowsT (bytesN (ρ0 0).r) (rrJ ρ0) (n + 1)
        rw [rr_sc, rr_x hd, h4, hc, hh]; rfl
theorem rr_lp2 (ρ0 ρ : Rho) (m : Nat) (hF : ∀ x ∈ rrFs, x.holds ρ0) (hI : rrI 1 0 ρ0 ρ m) :
    ∃ F : List Fact, (∀ x ∈ F, x.holds ρ) ∧ OutA Tryd.prog 9 fsRr rrC [rrLp, rrLp2] rrI ρ0 ρ (some (1, m)) (rrRd2 F) := by
  obtain ⟨n, _, _, h0, h1, h2, h3, h5, hn, hm, hl1, hl20, _, h4⟩ := hI
  have h4 := h4 rfl
  obtain ⟨b0, b3, b1, b1'⟩ := rrF hF
  have hF' : ∀ x ∈ rrFs, x.holds ρ := by
    refine fl_cons (eqF_ok ?_) (fl_cons (ltN ?_) (fl_cons (ltN ?_) (fl_cons (ltT ?_) fl_nil)))
    · show b01 (bytesR ((ρ 0).r)) = 1; rw [h0, b0]; rfl
    · show (0 : Int) ≤ (ρ 3).i; rw [h3]; exact b3
    · show (0 : Int) ≤ (ρ 1).i; rw [h1]; exact b1
    · show (ρ 1).i < 256; rw [h1]; exact b1'
  have hlen : (ρ 0).r.length = (ρ0 0).r.length := by rw [h0]
  have e5 : (SE.v 5).den ρ = (n : Int) := h5
  have hNd : rrN.den ρ = (((ρ0 0).r.length : Nat) : Int) := by rw [rr_n, hlen]
  have hM : rrM.den ρ = ((rrJ ρ0 : Nat) : Int) := by rw [rr_m (by rw [h1]; exact b1) (by rw [h1]; exact b1'), h1, h0]; rfl
  obtain ⟨hp, _⟩ := rows_par (bytesN_lt (ρ0 0).r) (j := rrJ ρ0) hl1
  have hargs : (argsT (rrJ ρ0) (ρ0 0).r.length).length = (ρ0 0).r.length := by unfold argsT; simp
  have eA : rrA.row ρ = (argsT (rrJ ρ0) (ρ0 0).r.length).map argR := by
    show (parT (ρ 4).s).args.map argR = _
    rw [h4, hp]
  have ht85 : (tRows rrA).den ρ = (((ρ0 0).r.length : Nat) : Int) := by
    show (((rrA.row ρ).length : Nat) : Int) = _
    rw [eA, List.length_map, hargs]
  have eK : rrK.row ρ = lexR (rowsT (bytesN (ρ0 0).r) (rrJ ρ0) (ρ0 0).r.length) := by
    show lexR (ρ 4).s = _; rw [h4]
  have hIn2 : ∀ x ∈ rrIn2, x.holds ρ := fl_app (fl_app hF' (fl_cons (ltN (by rw [e5, den_n]; omega)) (fl_cons (ltN (by rw [hNd, den_n]; omega)) (fl_cons (neF_ok (by rw [hNd]; omega)) fl_nil)))) (fl_cons (by show ((tRows rrA).den ρ == rrN.den ρ) = true; rw [ht85, hNd]; simp) fl_nil)
  have hck := rr_rd2
  simp only [Bool.and_eq_true] at hck
  obtain ⟨⟨c1, c2⟩, c3⟩ := hck
  by_cases hend : n = (ρ0 0).r.length
  · exact ⟨rrIn2 ++ [(.lt, .v 5, rrN, false)], fl_app hIn2 (fl_cons (ltN (by rw [hNd, e5]; omega)) fl_nil), .fin [] _ (needsB_ok c3) nd_nil⟩
  · have hlt : n < (ρ0 0).r.length := by omega
    obtain ⟨h, hh⟩ : ∃ h, h = Nat.beq n (rrJ ρ0) := ⟨_, rfl⟩
    have hcell : (argsT (rrJ ρ0) (ρ0 0).r.length)[n]? = some (pieceP (rrJ ρ0) n, pieceN h) := by
      unfold argsT
      rw [List.getElem?_map, List.getElem?_range hlt, hh]; rfl
    have hat : ∀ k, cellAt (rrA.row ρ) n k = ((argR (pieceP (rrJ ρ0) n, pieceN h))[k]?).getD (0, []) := fun k => by
      rw [eA]; unfold cellAt; rw [List.getElem?_map, hcell]; rfl
    have hv5 : ((SE.v 5).D ρ).i.toNat = n := by rw [show ((SE.v 5).D ρ).i = (n : Int) from h5, Int.toNat_natCast]
    have eC0 : rrC0.den ρ = ((pieceP (rrJ ρ0) n : Nat) : Int) := by
      show (cellAt (rrA.row ρ) ((SE.v 5).D ρ).i.toNat ((0 : Nat) : Int).toNat).1 = _
      rw [hv5, show ((0 : Nat) : Int).toNat = 0 from rfl, hat]; rfl
    have eC1 : rrC1.den ρ = ((pieceN h : Nat) : Int) := by
      show (cellAt (rrA.row ρ) ((SE.v 5).D ρ).i.toNat ((1 : Nat) : Int).toNat).1 = _
      rw [hv5, show ((1 : Nat) : Int).toNat = 1 from rfl, hat]; rfl
    have hreg : regF (rrK.row ρ) (rrC0.den ρ).toNat (rrC1.den ρ).toNat = bif h then none else some ((bytesN (ρ0 0).r).getD n 0) := by
      rw [eC0, eC1, Int.toNat_natCast, Int.toNat_natCast, eK, hh]; exact rows_reg (bytesN_lt _) hlt
    have hfit := rows_fit (bytesN_lt (ρ0 0).r) (j := rrJ ρ0) hlt
    have hd := rr_d (ρ := ρ) (by rw [h0]; exact b0) h5 (by omega)
    rw [h0] at hd
    have e70 : (SE.app 70 rrK rrC0 rrC1).den ρ = b01 (!h) := by
      show b01 (regF (rrK.row ρ) (rrC0.den ρ).toNat (rrC1.den ρ).toNat).isSome = _
      rw [hreg]; cases h <;> rfl
    have hcom : ∀ ok, ok = !h → ∀ x ∈ rrR ok, x.holds ρ := fun ok hok => by
      refine fl_app hIn2 (fl_app (fl_cons (ltT (by rw [hNd, e5]; omega)) (fl_cons (ltT (by rw [ht85, e5]; omega)) (fl_cons (eqF_ok ?_) (fl_cons (ltN (by rw [eC0, den_n]; omega)) (fl_cons (ltN (by rw [eC1, den_n]; omega)) (fl_cons (leT ?_) (fl_cons (eqB_ok ok ?_) (fl_cons ?_ fl_nil)))))))) ?_)
      · show b01 (shortNames (lexR (ρ 4).s)) = 1; rw [lexR_names]; rfl
      · show rrC0.den ρ + rrC1.den ρ ≤ (((rrK.row ρ).length : Nat) : Int)
        rw [eC0, eC1, eK, hh]; omega
      · rw [e70, hok]; cases h <;> rfl
      · show ((SE.v 5).den ρ == rrM.den ρ) = !ok
        rw [e5, hM, hok, hh, int_nbeq, Bool.not_not]
      · cases hok2 : ok with
        | false => exact fl_nil
        | true =>
          refine fl_cons ?_ fl_nil
          show ((SE.app 71 rrK rrC0 rrC1).den ρ == rrD.den ρ) = true
          have hhf : h = false := by rw [hok2] at hok; cases h <;> first | rfl | cases hok
          have e71 : (SE.app 71 rrK rrC0 rrC1).den ρ = optI (regF (rrK.row ρ) (rrC0.den ρ).toNat (rrC1.den ρ).toNat) := rfl
          rw [e71, hreg, hhf, hd]
          show ((((bytesN (ρ0 0).r).getD n 0 : Nat) : Int) == (((bytesN (ρ0 0).r).getD n 0 : Nat) : Int)) = true
          simp
    have hgo : rrB2 (!h) = true := by cases h <;> assumption
    refine ⟨rrR (!h), hcom _ rfl, .again 1 m 0 rrLp2 rrCan2 _ _ ((ρ0 0).r.length - (n + 1)) rfl rfl rfl (by omega) hgo (by decide) ⟨n + 1, .inr rfl, rfl, h0, h1, h2, h3, ?_, by omega, rfl, hl1, hl20, fun h => absurd h (show ¬ (1 : Nat) = 0 by decide), fun _ => h4⟩⟩
    show IntKind.i64.wrap ((SE.v 5).den ρ + 1) = _
    rw [e5, wrap64 (by omega) (by omega)]; simp
theorem rr_ctr : CtrOK Tryd.prog 3 rrC := by
  have hst := rr_stop
  have hst2 := rr_stop2
  have hs := rr_start
  simp only [Bool.and_eq_true] at hst hst2 hs
  refine ctr_loopsA (fuel := 100000) (stp := stpL [0, 2]) (loops := [rrLp, rrLp2]) (inv := rrI) gsz mixed (runD_ok static kn24_ok 20) Tryd.func3 (by kernel_rfl) (show fsRr.body = some (bodyOf fsRr) by kernel_rfl) (by kernel_rfl) (show enterD rrC.args fsRr.ntmps 0 .nil = some rrT by kernel_rfl) (by show (laB (9 + 2) rrLp && (laB (9 + 2) rrLp2 && true)) = true; rw [hst.2, hst2.2]; rfl) (fun ρ hF => ?_) (fun i lp x can hlp hx ρ0 ρ m hF hI => ?_)
  · obtain ⟨b0, b3, b1, b1'⟩ := rrF hF
    by_cases hlong : 20 < (ρ 0).r.length
    · exact ⟨rrLong, fl_cons (ltT (by rw [rr_n, den_n]; omega)) fl_nil, .fin [] _ (needsB_ok hs.1) nd_nil⟩
    by_cases hnone : (ρ 0).r.length = 0
    · exact ⟨rrNone, fl_cons (ltN (by rw [rr_n, den_n]; omega)) (fl_cons (eqF_ok (by rw [rr_n, hnone]; rfl)) fl_nil), .fin [] _ (needsB_ok hs.2) nd_nil⟩
    exact ⟨rrGo, fl_app hF (fl_cons (ltN (by rw [rr_n, den_n]; omega)) (fl_cons (neF_ok (by rw [rr_n]; omega)) fl_nil)), .stop 0 0 rrLp rrCan _ _ (ρ 0).r.length rfl rfl (fun i m h => by cases h) rfl rfl hst.1 rfl ⟨0, .inl rfl, rfl, rfl, rfl, rfl, rfl, rfl, Nat.zero_le _, rfl, by omega, by omega, fun _ => rfl, fun h => absurd h (show ¬ (0 : Nat) = 1 by decide)⟩⟩
  · have hI' := hI
    obtain ⟨n, hi, rfl, _⟩ := hI'
    rcases hi with rfl | rfl
    · obtain rfl : rrLp = lp := Option.some.inj hlp
      obtain rfl : rrCan = can := Option.some.inj hx
      exact rr_lp0 ρ0 ρ m hF hI
    · obtain rfl : rrLp2 = lp := Option.some.inj hlp
      obtain rfl : rrCan2 = can := Option.some.inj hx
      exact rr_lp2 ρ0 ρ m hF hI
end Go.Proofs.YtcncmfefcbdnoaaDoor
