/- Registers. -/
import Derived.Test.YtlfeoiagemlbiaaGreatDoorCPa
set_option linter.unusedVariables false
set_option linter.unusedSectionVars false
set_option linter.unusedSimpArgs false
set_option maxRecDepth 100000
noncomputable section
namespace Go.Proofs.YtlfeoiagemlbiaaGreatDoor
open Go.Den Go.Proofs Go.Extern Go.RowKit
variable [Mpr]
noncomputable def fsRg : Func := Tryz.f22
noncomputable def rgA : SE := .app 7 (.v 1) (.v 2) (.n 0)
noncomputable def rg (f : Nat) : SE := .app f (.v 0) (.v 1) (.v 2)
noncomputable def rgFs : List Fact := [(.eq, sy 72 (.v 0), .n 1, true), (.lt, .v 1, .n 0, false), (.lt, .v 2, .n 0, false), (.le, rgA, tRows (.v 0), true)]
noncomputable def rgV : IV := .sslice (9 + 1) 4 (.v 1) (.v 2) (.v 3)
noncomputable def rgC (ok : Bool) : Ctr := ⟨[rgV], 9 + 2, (9 + 1, tkB.blk) :: baseL, rgFs ++ [(.eq, rg 70, .n 1, ok)], bif ok then .tuple [.sint .i64 (rg 71), .bool true] else .tuple [.int .i64 0, .bool false], [(9 + 1, tkB)], []⟩
noncomputable def rgT : Tm := putLT [(0, rgV)]
noncomputable def rgS (F : List Fact) : SRes := startS Tryz.prog call20 fsRg 100000 (stpL []) (bodyOf fsRg) (rgC true) rgT F
noncomputable def rgX : SE := .app 7 (.v 1) (.n 0) (.n 0)
noncomputable def rgK : SE := tCell (.v 0) rgX 0
noncomputable def rgTx : SE := tCell (.v 0) rgX 1
noncomputable def rgOne : List Fact := rgFs ++ [(.eq, .v 2, .n 1, true), (.lt, .n 0, .v 2, true), (.lt, rgX, tRows (.v 0), true), (.lt, rgX, .n 0, false)]
noncomputable def rgNm : List Fact := rgOne ++ [(.eq, rgK, .n 1, true)]
noncomputable def rgPre : List Fact := rgNm ++ [short rgTx, (.lt, tLen rgTx, .n 19, true)]
noncomputable def rgD : SE := tSub rgTx (.n 1) (tLen rgTx)
noncomputable def rgNv : SE := sy 74 rgD
noncomputable def rgHd (b : Bool) : Fact := (.seq, tSub rgTx (.n 0) (.n 1), .lit [99], b)
noncomputable def rgNoA : List Fact := rgPre ++ [(.le, .n 1, tLen rgTx, false), (.eq, sy 73 rgTx, .n 1, false)]
noncomputable def rgNoB (b : Bool) : List Fact := rgPre ++ [(.le, .n 1, tLen rgTx, true), rgHd false, (.eq, sy 73 rgTx, .n 1, b)]
noncomputable def rgHas (b : Bool) : List Fact := rgPre ++ [(.le, .n 1, tLen rgTx, true), rgHd true, (.lt, tLen rgD, .n 19, true), (.lt, tLen rgD, .n 1000000, true), (.eq, sy 73 rgD, .n 1, b)]
noncomputable def rgIn (b : Bool) : List Fact := rgHas true ++ [(.lt, rgNv, .n 0, false), (.le, .n 16, rgNv, false), (.seq, sy 75 rgNv, rgD, b)]
noncomputable def rgOut (ok : Bool) (F : List Fact) (L : List Need) : Bool := needsB Tryz.prog 9 fsRg (rgC ok) [] (rgS F) (L ++ [.r (.v 0) (.v 0)])
theorem rg_chk : (rgOut false (rgFs ++ [(.eq, .v 2, .n 1, false)]) [] && rgOut false (rgOne ++ [(.eq, rgK, .n 1, false)]) [] && rgOut false rgNoA [] && rgOut false (rgNoB true) [] && rgOut false (rgNoB false) [] && rgOut false (rgHas false) [] && rgOut false (rgHas true ++ [(.lt, rgNv, .n 0, true)]) [] && rgOut false (rgHas true ++ [(.lt, rgNv, .n 0, false), (.le, .n 16, rgNv, true)]) [] && rgOut false (rgIn false) [] && rgOut true (rgIn true) [.i (rg 71) rgNv]) = true := by kernel_rfl
theorem rg_ctr (ok : Bool) (ht : enterD (rgC ok).args fsRg.ntmps 0 .nil = some rgT) (hS : startS Tryz.prog call20 fsRg 100000 (stpL []) (bodyOf fsRg) (rgC ok) rgT = rgS) : CtrOK Tryz.prog 22 (rgC ok) := by
  have hck := rg_chk
  simp only [Bool.and_eq_true] at hck
  obtain ⟨⟨⟨⟨⟨⟨⟨⟨⟨c1, c2⟩, c3⟩, c4⟩, c5⟩, c6⟩, c7⟩, c8⟩, c9⟩, c10⟩ := hck
  refine ctr_fin (fuel := 100000) (stp := stpL []) gsz mixed (runD_ok static kn20_ok 20) Tryz.func22 (by kernel_rfl) (show fsRg.body = some (bodyOf fsRg) by kernel_rfl) (by kernel_rfl) ht (fun ρ hF => ?_)
  show ∃ (F : List Fact) (rn : List (Nat × Nat)) (L : List Need), _ ∧ needsB _ _ _ _ _ (startS Tryz.prog call20 fsRg 100000 (stpL []) (bodyOf fsRg) (rgC ok) rgT F) _ = true ∧ _
  rw [hS]
  have hB : ∀ x ∈ rgFs, x.holds ρ := fun x hx => hF x (List.mem_append_left _ hx)
  have f1 : Fact.holds ρ (.eq, sy 72 (.v 0), .n 1, true) := hB _ List.mem_cons_self
  have f2 : Fact.holds ρ (.lt, .v 1, .n 0, false) := hB _ (List.mem_cons_of_mem _ List.mem_cons_self)
  have f3 : Fact.holds ρ (.lt, .v 2, .n 0, false) := hB _ (List.mem_cons_of_mem _ (List.mem_cons_of_mem _ List.mem_cons_self))
  have f4 : Fact.holds ρ (.le, rgA, tRows (.v 0), true) := hB _ (List.mem_cons_of_mem _ (List.mem_cons_of_mem _ (List.mem_cons_of_mem _ List.mem_cons_self)))
  have k2 : 0 ≤ (ρ 1).i := by have h := of_ltN f2; rw [den_n] at h; exact h
  have k3 : 0 ≤ (ρ 2).i := by have h := of_ltN f3; rw [den_n] at h; exact h
  have k4 : (ρ 1).i + (ρ 2).i ≤ (((ρ 0).r.length : Nat) : Int) := of_leT f4
  obtain ⟨o, ho⟩ : ∃ o : Nat, (ρ 1).i = (o : Int) := ⟨(ρ 1).i.toNat, by omega⟩
  obtain ⟨n, hn⟩ : ∃ n : Nat, (ρ 2).i = (n : Int) := ⟨(ρ 2).i.toNat, by omega⟩
  obtain ⟨l, hl⟩ : ∃ l, l = (ρ 0).r := ⟨_, rfl⟩
  have hon : o + n ≤ l.length := by rw [hl]; omega
  have hshort : shortNames l = true := by
    have : (sy 72 (.v 0)).den ρ = 1 := of_eqT f1
    have h2 : b01 (shortNames (ρ 0).r) = 1 := this
    rw [← hl] at h2
    cases hs : shortNames l with
    | true => rfl
    | false => rw [hs] at h2; exact absurd h2 (by decide)
  have eR : regF ((SE.v 0).D ρ).r ((SE.v 1).D ρ).i.toNat ((SE.v 2).D ρ).i.toNat = regF l o n := by
    rw [show ((SE.v 0).D ρ).r = l from hl.symm, show ((SE.v 1).D ρ).i = (o : Int) from ho, show ((SE.v 2).D ρ).i = (n : Int) from hn, Int.toNat_natCast, Int.toNat_natCast]
  have e70 : (rg 70).den ρ = b01 (regF l o n).isSome := by show b01 (regF _ _ _).isSome = _; rw [eR]
  have e71 : (rg 71).den ρ = optI (regF l o n) := by show optI (regF _ _ _) = _; rw [eR]
  have hok : ok = (regF l o n).isSome := by
    have h : Fact.holds ρ (.eq, rg 70, .n 1, ok) := hF _ (List.mem_append_right _ List.mem_cons_self)
    have h' : ((rg 70).den ρ == 1) = ok := h
    rw [e70] at h'
    rw [← h']
    cases (regF l o n).isSome <;> rfl
  have no : ∀ F : List Fact, rgOut false F [] = true → (∀ x ∈ F, x.holds ρ) → regF l o n = none → ∃ (F : List Fact) (rn : List (Nat × Nat)) (L : List Need), (∀ x ∈ F, x.holds ρ) ∧ needsB Tryz.prog 9 fsRg (rgC ok) rn (rgS F) L = true ∧ ∀ n ∈ L, n.ok ρ ρ := by
    intro F hc hG hr
    rw [hr] at hok
    have hok' : ok = false := hok
    subst hok'
    exact ⟨F, [], _, hG, hc, nd_cons rfl nd_nil⟩
  have e2 : (SE.v 2).den ρ = (n : Int) := hn
  by_cases h1 : ¬ n = 1
  · exact no _ c1 (fl_app hB (fl_cons (neF_ok (by rw [e2]; omega)) fl_nil)) (by unfold regF; rw [if_neg (fun h => h1 h.1)])
  have hn1 : n = 1 := Decidable.of_not_not h1
  have hrow : (tRows (.v 0)).den ρ = (l.length : Int) := by show (((ρ 0).r.length : Nat) : Int) = _; rw [hl]
  have hX : rgX.den ρ = (o : Int) := by show (ρ 1).i + 0 = _; rw [ho]; omega
  have hOne : ∀ x ∈ rgOne, x.holds ρ := fl_app hB (fl_cons (eqF_ok (by rw [e2, hn1]; rfl)) (fl_cons (ltT (by rw [e2, den_n]; omega)) (fl_cons (ltT (by rw [hX, hrow]; omega)) (fl_cons (ltN (by rw [hX, den_n]; omega)) fl_nil))))
  have hcell : ∀ j : Nat, cellAt (ρ 0).r (rgX.den ρ).toNat ((j : Nat) : Int).toNat = cellAt l o j := fun j => by rw [← hl, hX, Int.toNat_natCast, Int.toNat_natCast]
  have hK : rgK.den ρ = tkK l o := congrArg Prod.fst (hcell 0)
  have hT : rgTx.str ρ = tkT l o := congrArg Prod.snd (hcell 1)
  by_cases hk : ¬ tkK l o = 1
  · exact no _ c2 (fl_app hOne (fl_cons (neF_ok (by rw [hK]; exact hk)) fl_nil)) (by unfold regF; rw [if_neg (fun h => hk h.2)])
  have hk1 : tkK l o = 1 := Decidable.of_not_not hk
  have hr : regF l o n = regN (tkT l o) := by unfold regF; rw [if_pos ⟨hn1, hk1⟩]
  obtain ⟨t, ht'⟩ : ∃ t, t = tkT l o := ⟨_, rfl⟩
  rw [← ht'] at hT hr
  have htl : t.length ≤ 16 := by
    have h := List.all_eq_true.1 hshort (l[o]'(by omega)) (List.getElem_mem _)
    unfold tkK cellAt at hk1
    rw [List.getElem?_eq_getElem (show o < l.length by omega)] at hk1
    rw [ht']
    unfold tkT cellAt
    rw [List.getElem?_eq_getElem (show o < l.length by omega)]
    simp only [Option.getD_some] at hk1 ⊢
    rw [hk1] at h
    simpa using h
  have hPre : ∀ x ∈ rgPre, x.holds ρ := fl_app (fl_app hOne (fl_cons (eqF_ok (by rw [hK, hk1])) fl_nil)) (fl_cons (ltT (by rw [tLen_den, den_n, hT]; omega)) (fl_cons (ltT (by rw [tLen_den, den_n, hT]; omega)) fl_nil))
  have q73 : ∀ (x : SE) (s : List UInt8), x.str ρ = s → Fact.holds ρ (.eq, sy 73 x, .n 1, atoiB s) := fun x s h => by
    show (b01 (atoiB (x.str ρ)) == 1) = _
    rw [h]; cases atoiB s <;> rfl
  cases htc : t with
  | nil =>
    refine no _ c3 (fl_app hPre (fl_cons (leN (by rw [tLen_den, den_n, hT, htc]; simp)) (fl_cons (q73 rgTx [] (by rw [hT, htc])) fl_nil))) ?_
    rw [hr, htc]; exact regN_none fun n hn h => by unfold regText at h; cases h
  | cons c d =>
    have hle : Fact.holds ρ (.le, .n 1, tLen rgTx, true) := leT (by rw [tLen_den, den_n, hT, htc]; simp; omega)
    have hsub : (tSub rgTx (.n 0) (.n 1)).str ρ = [c] := by
      show ((rgTx.str ρ).take 1).drop 0 = _
      rw [hT, htc]; rfl
    by_cases hc : ¬ c = 99
    · have hno : regF l o n = none := by
        rw [hr, htc]; exact regN_none fun n hn h => by unfold regText at h; exact hc (List.cons.inj h).1
      have hh : Fact.holds ρ (rgHd false) := seqN (by rw [hsub]; intro h; exact hc (List.cons.inj h).1)
      have hq := q73 rgTx t hT
      cases hb : atoiB t with
      | true => rw [hb] at hq; exact no _ c4 (fl_app hPre (fl_cons hle (fl_cons hh (fl_cons hq fl_nil)))) hno
      | false => rw [hb] at hq; exact no _ c5 (fl_app hPre (fl_cons hle (fl_cons hh (fl_cons hq fl_nil)))) hno
    · have hc := Decidable.of_not_not hc
      have hh : Fact.holds ρ (rgHd true) := seqT (by rw [hsub, hc])
      have hD : rgD.str ρ = d := by
        show ((rgTx.str ρ).take ((tLen rgTx).den ρ).toNat).drop 1 = _
        rw [tLen_den, hT, Int.toNat_natCast, List.take_length, htc]; rfl
      have hdl : d.length ≤ 16 := by rw [htc] at htl; simp at htl; omega
      have hHas : ∀ b, atoiB d = b → ∀ x ∈ rgHas b, x.holds ρ := fun b hb => fl_app hPre (fl_cons hle (fl_cons hh (fl_cons (ltT (by rw [tLen_den, den_n, hD]; omega)) (fl_cons (ltT (by rw [tLen_den, den_n, hD]; omega)) (fl_cons (by rw [← hb]; exact q73 rgD d hD) fl_nil)))))
      have hno : (∀ m, m < 16 → d ≠ decF m) → regF l o n = none := fun h => by
        rw [hr, htc, hc]; exact regN_none fun m hm he => by unfold regText at he; exact h m hm (List.cons.inj he).2
      cases hb : atoiB d with
      | false => exact no _ c6 (hHas false hb) (hno fun m hm he => by rw [he, (atoi_dec hm).1] at hb; cases hb)
      | true =>
        have hG := hHas true hb
        have hV : rgNv.den ρ = atoiV d := by show atoiV (rgD.str ρ) = _; rw [hD]
        by_cases v0 : atoiV d < 0
        · exact no _ c7 (fl_app hG (fl_cons (ltT (by rw [hV, den_n]; exact v0)) fl_nil)) (hno fun m hm he => by rw [he, (atoi_dec hm).2] at v0; omega)
        · by_cases v16 : 16 ≤ atoiV d
          · exact no _ c8 (fl_app hG (fl_cons (ltN (by rw [hV, den_n]; omega)) (fl_cons (leT (by rw [hV, den_n]; exact v16)) fl_nil))) (hno fun m hm he => by rw [he, (atoi_dec hm).2] at v16; omega)
          · obtain ⟨m, hm⟩ : ∃ m : Nat, atoiV d = (m : Int) := ⟨(atoiV d).toNat, by omega⟩
            have h75 : (sy 75 rgNv).str ρ = decF m := by show decF (rgNv.den ρ).toNat = _; rw [hV, hm, Int.toNat_natCast]
            have hIn : ∀ b, decide (decF m = d) = b → ∀ x ∈ rgIn b, x.holds ρ := fun b hbb => fl_app hG (fl_cons (ltN (by rw [hV, den_n]; omega)) (fl_cons (leN (by rw [hV, den_n]; omega)) (fl_cons (by
              show ((sy 75 rgNv).str ρ == rgD.str ρ) = b
              rw [h75, hD, ← hbb, Bool.eq_iff_iff]; simp) fl_nil)))
            by_cases hd : decF m = d
            · have hyes : regF l o n = some m := by rw [hr, htc, hc, ← hd]; exact regN_text (by omega)
              rw [hyes] at hok
              have hok' : ok = true := hok
              subst hok'
              refine ⟨_, [], _, hIn true (decide_eq_true hd), c10, nd_cons ?_ (nd_cons rfl nd_nil)⟩
              show (rg 71).den ρ = rgNv.den ρ
              rw [e71, hyes, hV, hm]; rfl
            · refine no _ c9 (hIn false (decide_eq_false hd)) (hno fun k hk he => ?_)
              rw [he, (atoi_dec hk).2] at hm
              have : k = m := by omega
              subst this
              exact hd he.symm
noncomputable def gRg : Gn := gC Tryz.prog 9 (rgC true) [rgC false]
theorem gRg_ok : GoodAt Tryz.prog 22 gRg := good_C gsz (by kernel_rfl) (two (rg_ctr true (by kernel_rfl) rfl) (rg_ctr false (by kernel_rfl) rfl))
noncomputable def kn21 : Known := knCons 22 (gOr gRg (fun args h => runD Tryz.prog kn20 20 22 args h)) kn20
theorem kn21_ok : KnownOK Tryz.prog kn21 := knCons_ok (good_or gRg_ok (good_run static kn20_ok 20 _)) kn20_ok
noncomputable def call21 : CallFn := runD Tryz.prog kn21 20
end Go.Proofs.YtlfeoiagemlbiaaGreatDoor
