/- Constants: a number, a name. -/
import Derived.Test.YtlfeoiagemlbiaaGreatDoorCEc
set_option linter.unusedVariables false
set_option linter.unusedSectionVars false
set_option linter.unusedSimpArgs false
set_option maxRecDepth 100000
noncomputable section
namespace Go.Proofs.YtlfeoiagemlbiaaGreatDoor
open Go.Den Go.Proofs Go.Extern Go.RowKit
variable [Mex]
/-! A reader; b: are there names? -/
noncomputable def exLv : IV := .sslice (9 + 2) 4 (.n 0) (tRows (.v 0)) (.n 9223372036854775808)
noncomputable def exNv (b : Bool) : IV := bif b then namesV (9 + 3) (.v 1) (.v 6) else .nilSlice
noncomputable def exNt (b : Bool) : SE := bif b then .v 1 else tRowN
noncomputable def exNx (b : Bool) : Nat := bif b then 9 + 4 else 9 + 3
noncomputable def rdB (b : Bool) (at_ deep : SE) : OB := .cells 301 [exLv, .sint .i64 at_, exNv b, .sint .i64 deep] 0
noncomputable def tkB : OB := .rows 72 4 tokFs (.v 0) 1
noncomputable def exHl (b : Bool) (at_ deep : SE) : List (Nat × Blk) := (9 + 1, (rdB b at_ deep).blk) :: (9 + 2, tkB.blk) :: (bif b then (9 + 3, namesB (.v 1)) :: baseL else baseL)
noncomputable def exOut (b : Bool) (at_ deep : SE) : List (Nat × OB) := [(9 + 1, rdB b at_ deep), (9 + 2, tkB)]
noncomputable def exFs (b : Bool) : List Fact := [(.lt, tRows (.v 0), .n 1000000, true), (.lt, tRows (exNt b), .n 1000000, true), (.lt, .v 2, .n 0, false), (.le, .v 2, tRows (.v 0), true), (.lt, .v 3, .n 0, false), (.lt, .n 17, .v 3, false)]
noncomputable def plS (f : Nat) (b : Bool) : SE := .app f (.v 0) (exNt b) (.v 2)
noncomputable def plC (b ok : Bool) : Ctr := ⟨[.ptr (9 + 1) 0], exNx b, exHl b (.v 2) (.v 3), exFs b ++ [(.eq, plS 52 b, .n 0, ok)], .tuple [.sint .i64 (plS 50 b), bif ok then .nilIface else faultP (exNx b)], exOut b (plS 51 b) (.v 3), bif ok then [] else [faultB (plS 53 b) (plS 52 b)]⟩
noncomputable def fsPl : Func := Tryz.f227
noncomputable def rdT : Tm := putLT [(0, .ptr (9 + 1) 0)]
noncomputable def plSt (b : Bool) (F : List Fact) : SRes := startS Tryz.prog call9 fsPl 100000 (stpL []) (bodyOf fsPl) (plC b true) rdT F
noncomputable def plIx : SE := .app 45 (.v 1) (tCell (.v 0) (.v 2) 1) (.n 0)
noncomputable def plNm : SE := tCell (.v 1) plIx 1
noncomputable def plNu : SE := tCell (.v 0) (.v 2) 2
noncomputable def plK (i : Nat) (x : Bool) : Fact := (.eq, tCell (.v 0) (.v 2) 0, .n (Int.ofNat i), x)
noncomputable def plF (b : Bool) : List Fact := exFs b ++ [(.le, tRows (.v 0), .v 2, false), (.lt, .v 2, tRows (.v 0), true)]
noncomputable def plFe (b : Bool) : List Fact := exFs b ++ [(.le, tRows (.v 0), .v 2, true)]
noncomputable def plF1 (b : Bool) : List Fact := plF b ++ [plK 1 true]
noncomputable def plFn (b : Bool) : List Fact := plF1 b ++ (bif b then [(.lt, plIx, .n 0, true)] else [])
noncomputable def plFm : List Fact := plF1 true ++ [(.lt, plIx, .n 0, false), (.lt, plIx, tRows (.v 1), true)]
noncomputable def plF2 (b : Bool) : List Fact := plF b ++ [plK 1 false, plK 2 true]
noncomputable def plF3 (b : Bool) : List Fact := plF b ++ [plK 1 false, plK 2 false]
/-- within: 0: it may be; 1: too small; 2: too great -/
noncomputable def wiF (t : SE) (x : Nat) : List Fact := match x with
  | 0 => inBF t
  | 1 => [(.lt, t, .n (-1099511627776), true)]
  | _ => [(.lt, t, .n (-1099511627776), false), (.lt, .n 1099511627776, t, true)]
/-- what a reader's blocks are to be -/
noncomputable def rdN (b : Bool) (t u d e : SE) : List Need := [.i (.n 0) (.n 0), .i (tRows (.v 0)) (tRows (.v 0)), .i (.n 9223372036854775808) (.n 9223372036854775808), .i t u] ++ ((bif b then [.i (.n 0) (.n 0), .i (tRows (.v 1)) (tRows (.v 1)), .i (.v 6) (.v 6)] else []) ++ [.i d e, .r (.v 0) (.v 0)])
noncomputable def plN (b : Bool) (v a : SE) (e : List Need) : List Need := .i (plS 50 b) v :: (rdN b (plS 51 b) a (.v 3) (.v 3) ++ e)
noncomputable def plE (b : Bool) (e : Nat) : List Need := [.i (plS 53 b) (.v 2), .i (plS 52 b) (.n (Int.ofNat e))]
noncomputable def plA : SE := .bin .add .i64 (.v 2) (.n 1)
noncomputable def plOk (b : Bool) (F : List Fact) (t : SE) : Bool := needsB Tryz.prog 9 fsPl (plC b true) [] (plSt b (F ++ wiF t 0)) (plN b t plA []) && needsB Tryz.prog 9 fsPl (plC b false) [(exNx b, exNx b + 1)] (plSt b (F ++ wiF t 1)) (plN b (.n 0) plA (plE b 14)) && needsB Tryz.prog 9 fsPl (plC b false) [(exNx b, exNx b + 1)] (plSt b (F ++ wiF t 2)) (plN b (.n 0) plA (plE b 14))
noncomputable def plBad (b : Bool) (F : List Fact) (rn : List (Nat × Nat)) (e : Nat) : Bool := needsB Tryz.prog 9 fsPl (plC b false) rn (plSt b F) (plN b (.n 0) (.v 2) (plE b e))
noncomputable def plChk (b : Bool) : Bool := plBad b (plFe b) [] 11 && plBad b (plFn b) [(exNx b, exNx b + 1)] 12 && plBad b (plF3 b) [(exNx b, exNx b + 1)] 11 && plOk b (plF2 b) plNu
theorem pl_c0 : plChk false = true := by kernel_rfl
theorem pl_c1 : plChk true = true := by kernel_rfl
theorem pl_c2 : plOk true plFm plNm = true := by kernel_rfl
theorem pl_chk (b : Bool) : plChk b = true := match b with
  | false => pl_c0
  | true => pl_c1
/-- what is so where a reader is -/
structure ExAt (b : Bool) (ρ : Rho) (l n : Rw) (p d : Nat) : Prop where
  hl : (ρ 0).r = l
  hn : (exNt b).row ρ = n
  hp : (ρ 2).i = (p : Int)
  hd : (ρ 3).i = (d : Int)
  ll : l.length < 1000000
  nl : n.length < 1000000
  pl : p ≤ l.length
  dl : d ≤ 17
theorem exFs_at {b : Bool} {ρ : Rho} (h : ∀ x ∈ exFs b, x.holds ρ) : ∃ l n p d, ExAt b ρ l n p d := by
  have h1 : Fact.holds ρ (.lt, tRows (.v 0), .n 1000000, true) := h _ List.mem_cons_self
  have h2 : Fact.holds ρ (.lt, tRows (exNt b), .n 1000000, true) := h _ (List.mem_cons_of_mem _ List.mem_cons_self)
  have h3 : Fact.holds ρ (.lt, .v 2, .n 0, false) := h _ (List.mem_cons_of_mem _ (List.mem_cons_of_mem _ List.mem_cons_self))
  have h4 : Fact.holds ρ (.le, .v 2, tRows (.v 0), true) := h _ (List.mem_cons_of_mem _ (List.mem_cons_of_mem _ (List.mem_cons_of_mem _ List.mem_cons_self)))
  have h5 : Fact.holds ρ (.lt, .v 3, .n 0, false) := h _ (List.mem_cons_of_mem _ (List.mem_cons_of_mem _ (List.mem_cons_of_mem _ (List.mem_cons_of_mem _ List.mem_cons_self))))
  have h6 : Fact.holds ρ (.lt, .n 17, .v 3, false) := h _ (List.mem_cons_of_mem _ (List.mem_cons_of_mem _ (List.mem_cons_of_mem _ (List.mem_cons_of_mem _ (List.mem_cons_of_mem _ List.mem_cons_self)))))
  have k1 : (((ρ 0).r.length : Nat) : Int) < 1000000 := by have h := of_ltT h1; rw [den_n] at h; exact h
  have k2 : ((((exNt b).row ρ).length : Nat) : Int) < 1000000 := by have h := of_ltT h2; rw [den_n] at h; exact h
  have k3 : 0 ≤ (ρ 2).i := by have h := of_ltN h3; rw [den_n] at h; exact h
  have k4 : (ρ 2).i ≤ (((ρ 0).r.length : Nat) : Int) := of_leT h4
  have k5 : 0 ≤ (ρ 3).i := by have h := of_ltN h5; rw [den_n] at h; exact h
  have k6 : (ρ 3).i ≤ 17 := by have h := of_ltN h6; rw [den_n] at h; exact h
  exact ⟨(ρ 0).r, (exNt b).row ρ, (ρ 2).i.toNat, (ρ 3).i.toNat, rfl, rfl, by omega, by omega, by omega, by omega, by omega, by omega⟩
theorem ExAt.fs {b : Bool} {ρ : Rho} {l n : Rw} {p d : Nat} (h : ExAt b ρ l n p d) : ∀ x ∈ exFs b, x.holds ρ := by
  have e1 : (tRows (.v 0)).den ρ = (l.length : Int) := by show (((ρ 0).r.length : Nat) : Int) = _; rw [h.hl]
  have e2 : (tRows (exNt b)).den ρ = (n.length : Int) := by show ((((exNt b).row ρ).length : Nat) : Int) = _; rw [h.hn]
  have e3 : (SE.v 2).den ρ = (p : Int) := h.hp
  have e4 : (SE.v 3).den ρ = (d : Int) := h.hd
  have a1 := h.ll; have a2 := h.nl; have a3 := h.pl; have a4 := h.dl
  exact fl_cons (ltT (by rw [e1, den_n]; omega)) (fl_cons (ltT (by rw [e2, den_n]; omega)) (fl_cons (ltN (by rw [e3, den_n]; omega)) (fl_cons (leT (by rw [e3, e1]; omega)) (fl_cons (ltN (by rw [e4, den_n]; omega)) (fl_cons (ltN (by rw [e4, den_n]; omega)) fl_nil)))))
theorem ExAt.row {b : Bool} {ρ : Rho} {l n : Rw} {p d : Nat} (h : ExAt b ρ l n p d) : (tRows (.v 0)).den ρ = (l.length : Int) := by show (((ρ 0).r.length : Nat) : Int) = _; rw [h.hl]
theorem rdN_ok {b : Bool} {ρ0 ρ : Rho} {t u d e : SE} (h0 : ρ 0 = ρ0 0) (h1 : ρ 1 = ρ0 1) (h6 : ρ 6 = ρ0 6) (ht : t.den ρ0 = u.den ρ) (hd : d.den ρ0 = e.den ρ) : ∀ n ∈ rdN b t u d e, n.ok ρ0 ρ := by
  refine fl_appN (nd_cons rfl (nd_cons (by show (((ρ0 0).r.length : Nat) : Int) = (((ρ 0).r.length : Nat) : Int); rw [h0]) (nd_cons rfl (nd_cons ht nd_nil)))) (fl_appN ?_ (nd_cons hd (nd_cons (by show (ρ0 0).r = (ρ 0).r; rw [h0]) nd_nil)))
  cases b with
  | false => exact nd_nil
  | true => exact nd_cons rfl (nd_cons (by show (((ρ0 1).r.length : Nat) : Int) = (((ρ 1).r.length : Nat) : Int); rw [h1]) (nd_cons (by show (ρ0 6).i = (ρ 6).i; rw [h6]) nd_nil))
theorem wiF_ok {ρ : Rho} {t : SE} : (t.den ρ < -big ∧ (∀ x ∈ wiF t 1, x.holds ρ) ∧ withinF (t.den ρ) = (0, 14)) ∨ (big < t.den ρ ∧ (∀ x ∈ wiF t 2, x.holds ρ) ∧ withinF (t.den ρ) = (0, 14)) ∨ ((∀ x ∈ wiF t 0, x.holds ρ) ∧ withinF (t.den ρ) = (t.den ρ, 0)) := by
  unfold withinF
  by_cases c1 : t.den ρ < -big
  · exact .inl ⟨c1, fl_cons (ltT (by rw [den_n]; exact c1)) fl_nil, by rw [if_pos c1]⟩
  · have c1' : -1099511627776 ≤ t.den ρ := by unfold big at c1; omega
    by_cases c2 : big < t.den ρ
    · exact .inr (.inl ⟨c2, fl_cons (ltN (by rw [den_n]; exact c1')) (fl_cons (ltT (by rw [den_n]; exact c2)) fl_nil), by rw [if_neg c1, if_pos c2]⟩)
    · exact .inr (.inr ⟨inBF_ok rfl c1' (by unfold big at c2; omega), by rw [if_neg c1, if_neg c2]⟩)
theorem pl_post (b ok : Bool) (ρ : Rho) (hF : ∀ x ∈ (plC b ok).facts, x.holds ρ) : ∃ (F : List Fact) (rn : List (Nat × Nat)) (L : List Need), (∀ x ∈ F, x.holds ρ) ∧ needsB Tryz.prog 9 fsPl (plC b ok) rn (plSt b F) L = true ∧ ∀ n ∈ L, n.ok ρ ρ := by
  have hB : ∀ x ∈ exFs b, x.holds ρ := fun x hx => hF x (List.mem_append_left _ hx)
  obtain ⟨l, n, p, d, h⟩ := exFs_at hB
  have hlen := h.row
  have e2 : (SE.v 2).den ρ = (p : Int) := h.hp
  have a1 := h.ll; have a3 := h.pl
  obtain ⟨R, hR⟩ : ∃ R, R = plainF l n p := ⟨_, rfl⟩
  have eR : plR ((SE.v 0).D ρ) ((exNt b).D ρ) ((SE.v 2).D ρ) = R := by
    unfold plR
    rw [hR, show ((SE.v 0).D ρ).r = l from h.hl, show ((exNt b).D ρ).r = n from h.hn, show ((SE.v 2).D ρ).i = (p : Int) from h.hp, Int.toNat_natCast]
  have s50 : (plS 50 b).den ρ = R.v := by show (plR _ _ _).v = _; rw [eR]
  have s51 : (plS 51 b).den ρ = (R.at_ : Int) := by show (((plR _ _ _).at_ : Nat) : Int) = _; rw [eR]
  have s52 : (plS 52 b).den ρ = (R.err : Int) := by show (((plR _ _ _).err : Nat) : Int) = _; rw [eR]
  have s53 : (plS 53 b).den ρ = (R.eat : Int) := by show (((plR _ _ _).eat : Nat) : Int) = _; rw [eR]
  have h5 : Fact.holds ρ (.eq, plS 52 b, .n 0, ok) := hF _ (List.mem_append_right _ List.mem_cons_self)
  have hok : ok = decide (R.err = 0) := by
    cases ok with
    | true => have := of_eqT h5; rw [s52] at this; simp; omega
    | false => have := of_eqN h5; rw [s52] at this; simp; omega
  have hc := pl_chk b
  unfold plChk at hc
  simp only [Bool.and_eq_true] at hc
  obtain ⟨⟨⟨c1, c2⟩, c3⟩, c4⟩ := hc
  have bad : ∀ (F : List Fact) (rn : List (Nat × Nat)) (e : Nat), plBad b F rn e = true → (∀ x ∈ F, x.holds ρ) → R = ⟨0, p, e, p⟩ → e ≠ 0 → ∃ (F : List Fact) (rn : List (Nat × Nat)) (L : List Need), (∀ x ∈ F, x.holds ρ) ∧ needsB Tryz.prog 9 fsPl (plC b ok) rn (plSt b F) L = true ∧ ∀ n ∈ L, n.ok ρ ρ := by
    intro F rn e hchk hG he hne
    have : ok = false := by rw [hok, he]; simpa using hne
    subst this
    refine ⟨F, rn, _, hG, hchk, nd_cons (by show (plS 50 b).den ρ = 0; rw [s50, he]) (fl_appN (rdN_ok rfl rfl rfl (by rw [s51, he, e2]) rfl) (nd_cons (by show (plS 53 b).den ρ = (SE.v 2).den ρ; rw [s53, he, e2]) (nd_cons (by show (plS 52 b).den ρ = (e : Int); rw [s52, he]) nd_nil)))⟩
  have okk : ∀ (F : List Fact) (t : SE), plOk b F t = true → (∀ x ∈ F, x.holds ρ) → R = ⟨(withinF (t.den ρ)).1, p + 1, (withinF (t.den ρ)).2, p⟩ → p < l.length → ∃ (F : List Fact) (rn : List (Nat × Nat)) (L : List Need), (∀ x ∈ F, x.holds ρ) ∧ needsB Tryz.prog 9 fsPl (plC b ok) rn (plSt b F) L = true ∧ ∀ n ∈ L, n.ok ρ ρ := by
    intro F t hchk hG he hpl
    have eA : plA.den ρ = ((p + 1 : Nat) : Int) := by
      show IntKind.i64.wrap ((SE.v 2).den ρ + 1) = _
      rw [e2, wrap64 (by omega) (by omega)]; simp
    unfold plOk at hchk
    simp only [Bool.and_eq_true] at hchk
    have badN : withinF (t.den ρ) = (0, 14) → ∀ n ∈ plN b (.n 0) plA (plE b 14), n.ok ρ ρ := fun hw => nd_cons (by show (plS 50 b).den ρ = 0; rw [s50, he, hw]) (fl_appN (rdN_ok rfl rfl rfl (by rw [s51, he, eA]) rfl) (nd_cons (by show (plS 53 b).den ρ = (SE.v 2).den ρ; rw [s53, he, e2]) (nd_cons (by show (plS 52 b).den ρ = 14; rw [s52, he, hw]; rfl) nd_nil)))
    rcases wiF_ok (ρ := ρ) (t := t) with ⟨_, hw, hv⟩ | ⟨_, hw, hv⟩ | ⟨hw, hv⟩
    · have : ok = false := by rw [hok, he, hv]; rfl
      subst this
      exact ⟨_, _, _, fl_app hG hw, hchk.1.2, badN hv⟩
    · have : ok = false := by rw [hok, he, hv]; rfl
      subst this
      exact ⟨_, _, _, fl_app hG hw, hchk.2, badN hv⟩
    · have : ok = true := by rw [hok, he, hv]; rfl
      subst this
      exact ⟨_, _, _, fl_app hG hw, hchk.1.1, nd_cons (by show (plS 50 b).den ρ = t.den ρ; rw [s50, he, hv]) (fl_appN (rdN_ok rfl rfl rfl (by rw [s51, he, eA]) rfl) nd_nil)⟩
  unfold plainF at hR
  by_cases hl : l.length ≤ p
  · rw [if_pos hl] at hR
    exact bad _ _ 11 c1 (fl_app hB (fl_cons (leT (by rw [hlen, e2]; omega)) fl_nil)) hR (by decide)
  rw [if_neg hl] at hR
  have hF0 : ∀ x ∈ plF b, x.holds ρ := fl_app hB (fl_cons (leN (by rw [hlen, e2]; omega)) (fl_cons (ltT (by rw [hlen, e2]; omega)) fl_nil))
  have hcell : ∀ j : Nat, cellAt (ρ 0).r ((SE.v 2).den ρ).toNat ((j : Nat) : Int).toNat = cellAt l p j := fun j => by rw [h.hl, e2, Int.toNat_natCast, Int.toNat_natCast]
  have hK : (tCell (.v 0) (.v 2) 0).den ρ = tkK l p := congrArg Prod.fst (hcell 0)
  have hT : (tCell (.v 0) (.v 2) 1).str ρ = tkT l p := congrArg Prod.snd (hcell 1)
  have hN : plNu.den ρ = tkN l p := congrArg Prod.fst (hcell 2)
  by_cases k1 : tkK l p = 1
  · rw [if_pos k1] at hR
    have hF1 : ∀ x ∈ plF1 b, x.holds ρ := fl_app hF0 (fl_cons (eqF_ok (by rw [hK, k1]; rfl)) fl_nil)
    have hIx : b = true → plIx.den ρ = findN n (tkT l p) := fun hb => by
      show findN ((SE.v 1).row ρ) ((tCell (.v 0) (.v 2) 1).str ρ) = _
      rw [hT]; subst hb
      rw [show (SE.v 1).row ρ = n from h.hn]
    by_cases hn : findN n (tkT l p) < 0
    · rw [if_pos hn] at hR
      refine bad _ _ 12 c2 (fl_app hF1 ?_) hR (by decide)
      cases b with
      | false => exact fl_nil
      | true => exact fl_cons (ltT (by rw [hIx rfl, den_n]; exact hn)) fl_nil
    · rw [if_neg hn] at hR
      cases b with
      | false =>
        have : n = [] := by rw [← h.hn]; rfl
        rw [this] at hn; exact absurd (show findN [] (tkT l p) < 0 from (by decide : (-1 : Int) < 0)) hn
      | true =>
        have e1 := hIx rfl
        have hlt := findN_lt n (tkT l p)
        have erow : (tRows (.v 1)).den ρ = (n.length : Int) := by show ((((exNt true).row ρ).length : Nat) : Int) = _; rw [h.hn]
        have eNm : plNm.den ρ = (cellAt n (findN n (tkT l p)).toNat 1).1 := by
          show (cellAt ((SE.v 1).row ρ) (plIx.den ρ).toNat ((1 : Nat) : Int).toNat).1 = _
          rw [e1, Int.toNat_natCast, show (SE.v 1).row ρ = n from h.hn]
        exact okk plFm plNm pl_c2 (fl_app hF1 (fl_cons (ltN (by rw [e1, den_n]; omega)) (fl_cons (ltT (by rw [e1, erow]; omega)) fl_nil))) (by rw [eNm]; exact hR) (by omega)
  rw [if_neg k1] at hR
  by_cases k2 : tkK l p = 2
  · rw [if_pos k2] at hR
    exact okk _ plNu c4 (fl_app hF0 (fl_cons (neF_ok (by rw [hK]; exact k1)) (fl_cons (eqF_ok (by rw [hK, k2]; rfl)) fl_nil))) (by rw [hN]; exact hR) (by omega)
  · rw [if_neg k2] at hR
    exact bad _ _ 11 c3 (fl_app hF0 (fl_cons (neF_ok (by rw [hK]; exact k1)) (fl_cons (neF_ok (by rw [hK]; exact k2)) fl_nil))) hR (by decide)
theorem pl_ctr (b ok : Bool) (ht : enterD (plC b ok).args fsPl.ntmps 0 .nil = some rdT) (hS : startS Tryz.prog call9 fsPl 100000 (stpL []) (bodyOf fsPl) (plC b ok) rdT = plSt b) : CtrOK Tryz.prog 227 (plC b ok) :=
  ctr_fin (fuel := 100000) (stp := stpL []) gsz mixed (runD_ok static kn9_ok 20) Tryz.func227 (by kernel_rfl) (show fsPl.body = some (bodyOf fsPl) by kernel_rfl) (by kernel_rfl) ht (fun ρ hF => by
    have := pl_post b ok ρ hF
    rw [← hS] at this
    exact this)
noncomputable def gPl : Gn := gOr (gC Tryz.prog 9 (plC false true) [plC false false]) (gC Tryz.prog 9 (plC true true) [plC true false])
theorem gPl_ok : GoodAt Tryz.prog 227 gPl := good_or (good_C gsz (by kernel_rfl) (two (pl_ctr false true (by kernel_rfl) rfl) (pl_ctr false false (by kernel_rfl) rfl))) (good_C gsz (by kernel_rfl) (two (pl_ctr true true (by kernel_rfl) rfl) (pl_ctr true false (by kernel_rfl) rfl)))
noncomputable def kn10 : Known := knCons 227 (gOr gPl (fun args h => runD Tryz.prog kn9 20 227 args h)) kn9
theorem kn10_ok : KnownOK Tryz.prog kn10 := knCons_ok (good_or gPl_ok (good_run static kn9_ok 20 _)) kn9_ok
end Go.Proofs.YtlfeoiagemlbiaaGreatDoor
