/- Of two signs the stronger one goes first: the law's contract. -/
import Derived.Test.YtcncmfefcbdnoaaDoorCEl
set_option linter.unusedVariables false
set_option linter.unusedSectionVars false
set_option linter.unusedSimpArgs false
set_option maxRecDepth 100000
noncomputable section
namespace Go.Proofs.YtcncmfefcbdnoaaDoor
open Go.Den Go.Proofs Go.Extern Go.RowKit
variable [Mez]
noncomputable def fsWk : Func := Tryd.f5
noncomputable def wkB : List Fact := byteFs (.v 0) ++ (byteFs (.v 1) ++ (byteFs (.v 2) ++ (byteFs (.v 3) ++ byteFs (.v 4))))
noncomputable def wkArgs : List IV := [.sint .u8 (.v 0), .sint .u8 (.v 1), .sint .u8 (.v 2), .sint .u8 (.v 3), .sint .u8 (.v 4)]
noncomputable def wkC : Ctr := ⟨wkArgs, 9 + 1, baseL, wkB, .bool true, [], []⟩
noncomputable def wkT : Tm := putLT [(0, .sint .u8 (.v 0)), (1, .sint .u8 (.v 1)), (2, .sint .u8 (.v 2)), (3, .sint .u8 (.v 3)), (4, .sint .u8 (.v 4))]
noncomputable def wkS (i : Nat) : UInt8 := (s6[i]?).getD 0
noncomputable def wkD (i : Nat) : SE := sy 62 (.v i)
noncomputable def wkL (i : Nat) : SE := .lit [wkS i]
noncomputable def wkI (v i : Nat) : Fact := (.eq, .bin .rem .i64 (.wrap .i64 (.v v)) (.n 6), .n (Int.ofNat i), true)
noncomputable def wk1 (i j : Nat) : List SE := [wkL i, wkD 3, wkL j, wkD 4]
noncomputable def wkLf (i j : Nat) : List SE := [wkD 2, wkL i, wkD 3, .lit [41], wkL j, wkD 4]
noncomputable def wkRt (i j : Nat) : List SE := [wkL i, .lit [40], wkD 3, wkL j, wkD 4, .lit [41]]
noncomputable def wkT1 (i j : Nat) : SE := catT (wkD 2) (wk1 i j)
noncomputable def wkTl (i j : Nat) : SE := catT (.lit [40]) (wkLf i j)
noncomputable def wkTr (i j : Nat) : SE := catT (wkD 2) (wkRt i j)
noncomputable def wkRg (i j : Nat) : Bool := Nat.blt (levelS [wkS i]) (levelS [wkS j])
noncomputable def wkT2 (i j : Nat) : SE := bif wkRg i j then wkTr i j else wkTl i j
noncomputable def wkF (i j : Nat) : List Fact := wkB ++ ([wkI 0 i, wkI 1 j] ++ (catFs (.lit [40]) (wkLf i j) ++ ((bif wkRg i j then catFs (wkD 2) (wkRt i j) else []) ++ (catFs (wkD 2) (wk1 i j) ++ [(.lt, tLen (wkT1 i j), .n 1000000, true), (.eq, sy 61 (wkT1 i j), .n 1, true), (.lt, tLen (wkT2 i j), .n 1000000, true), (.eq, sy 61 (wkT2 i j), .n 1, true), (.eq, sy 60 (wkT1 i j), sy 60 (wkT2 i j), true)]))))
noncomputable def wkR (F : List Fact) : SRes := startS Tryd.prog call16 fsWk 100000 (stpL []) (bodyOf fsWk) wkC wkT F
noncomputable def wkChk (i j : Nat) : Bool := needsB Tryd.prog 9 fsWk wkC [] (wkR (wkF i j)) []
theorem wk_chk : allBytes (fun i => allBytes (wkChk i) 6) 6 = true := by kernel_rfl
theorem wk_lv (i : Nat) (hi : i < 6) : wkS i ∈ s6 := by
  have : ∀ i, i < 6 → (s6[i]?).getD 0 ∈ s6 := by decide
  exact this i hi
theorem rem6 {v : Nat} {ρ : Rho} {n : Nat} (hn : (ρ v).i = (n : Int)) (h : n < 256) : Fact.holds ρ (wkI v (n % 6)) := by
  refine eqF_ok ?_
  show (IntKind.i64.wrap (ρ v).i).tmod 6 = ((n % 6 : Nat) : Int)
  rw [hn, wrap64 (by omega) (by omega), Int.tmod_eq_emod_of_nonneg (by omega)]
  omega
theorem dec_len (n : Nat) : (decF n).length ≤ 3 := by
  unfold decF
  split
  · simp
  split <;> simp
theorem wk_ctr : CtrOK Tryd.prog 5 wkC := by
  refine ctr_fin (fuel := 100000) (stp := stpL []) gsz mixed (runD_ok static kn16_ok 20) Tryd.func5 (by kernel_rfl) (show fsWk.body = some (bodyOf fsWk) by kernel_rfl) (by kernel_rfl) (show enterD wkC.args fsWk.ntmps 0 .nil = some wkT by kernel_rfl) (fun ρ hF => ?_)
  have num : ∀ v, (∀ x ∈ byteFs (.v v), x.holds ρ) → ∃ n : Nat, (ρ v).i = (n : Int) ∧ n < 256 := fun v h => by
    have f1 : Fact.holds ρ (.lt, .v v, .n 0, false) := h _ List.mem_cons_self
    have f2 : Fact.holds ρ (.lt, .v v, .n 256, true) := h _ (List.mem_cons_of_mem _ List.mem_cons_self)
    have k1 : 0 ≤ (ρ v).i := by have h := of_ltN f1; rw [den_n] at h; exact h
    have k2 : (ρ v).i < 256 := by have h := of_ltT f2; rw [den_n] at h; exact h
    exact ⟨(ρ v).i.toNat, by omega, by omega⟩
  obtain ⟨p, hp, hp2⟩ := num 0 (fun x hx => hF x (List.mem_append_left _ hx))
  obtain ⟨q, hq, hq2⟩ := num 1 (fun x hx => hF x (List.mem_append_right _ (List.mem_append_left _ hx)))
  obtain ⟨a, ha, ha2⟩ := num 2 (fun x hx => hF x (List.mem_append_right _ (List.mem_append_right _ (List.mem_append_left _ hx))))
  obtain ⟨b, hb, hb2⟩ := num 3 (fun x hx => hF x (List.mem_append_right _ (List.mem_append_right _ (List.mem_append_right _ (List.mem_append_left _ hx)))))
  obtain ⟨c, hc, hc2⟩ := num 4 (fun x hx => hF x (List.mem_append_right _ (List.mem_append_right _ (List.mem_append_right _ (List.mem_append_right _ hx)))))
  have dv : ∀ (v n : Nat), (ρ v).i = (n : Int) → (wkD v).str ρ = decF n := fun v n h => by show decF (ρ v).i.toNat = _; rw [h, Int.toNat_natCast]
  have da := dv 2 a ha; have db := dv 3 b hb; have dc := dv 4 c hc
  obtain ⟨i, hi⟩ : ∃ i, i = p % 6 := ⟨_, rfl⟩
  obtain ⟨j, hj⟩ : ∃ j, j = q % 6 := ⟨_, rfl⟩
  have hi6 : i < 6 := by omega
  have hj6 : j < 6 := by omega
  have t1 : (wkT1 i j).str ρ = weakT (wkS i) (wkS j) a b c := by
    show ((((wkD 2).str ρ ++ [wkS i]) ++ (wkD 3).str ρ) ++ [wkS j]) ++ (wkD 4).str ρ = _
    rw [da, db, dc]; unfold weakT; simp
  have tl : (wkTl i j).str ρ = weakL (wkS i) (wkS j) a b c := by
    show ((((([40] ++ (wkD 2).str ρ) ++ [wkS i]) ++ (wkD 3).str ρ) ++ [41]) ++ [wkS j]) ++ (wkD 4).str ρ = _
    rw [da, db, dc]; unfold weakL; simp
  have tr : (wkTr i j).str ρ = weakR (wkS i) (wkS j) a b c := by
    show (((((((wkD 2).str ρ ++ [wkS i]) ++ [40]) ++ (wkD 3).str ρ) ++ [wkS j]) ++ (wkD 4).str ρ) ++ [41]) = _
    rw [da, db, dc]; unfold weakR; simp
  have la := dec_len a; have lb := dec_len b; have lc := dec_len c
  have l1 : ((wkT1 i j).str ρ).length ≤ 20 := by rw [t1]; unfold weakT; simp; omega
  have ll : ((wkTl i j).str ρ).length ≤ 20 := by rw [tl]; unfold weakL; simp; omega
  have lr : ((wkTr i j).str ρ).length ≤ 20 := by rw [tr]; unfold weakR; simp; omega
  have h2 : ∃ v, wholeF ((wkT1 i j).str ρ) = (v, true) ∧ wholeF ((wkT2 i j).str ρ) = (v, true) := by
    rw [t1]
    unfold wkT2
    cases hr : wkRg i j with
    | true => rw [cond_true, tr]; exact weak_right (wk_lv i hi6) (wk_lv j hj6) ha2 hb2 hc2 (Nat.blt_eq.mp hr)
    | false =>
      rw [cond_false, tl]
      refine weak_left (wk_lv i hi6) (wk_lv j hj6) ha2 hb2 hc2 ?_
      rcases Nat.lt_or_ge (levelS [wkS i]) (levelS [wkS j]) with h | h
      · have : wkRg i j = true := Nat.blt_eq.mpr h
        rw [hr] at this; cases this
      · exact h
  have l2 : ((wkT2 i j).str ρ).length ≤ 20 := by
    unfold wkT2
    cases wkRg i j with
    | true => exact lr
    | false => exact ll
  obtain ⟨v, w1, w2⟩ := h2
  have e61 : ∀ t : SE, wholeF (t.str ρ) = (v, true) → (sy 61 t).den ρ = 1 := fun t h => by show b01 (wholeF (t.str ρ)).2 = 1; rw [h]; rfl
  have e60 : ∀ t : SE, wholeF (t.str ρ) = (v, true) → (sy 60 t).den ρ = v := fun t h => by show (wholeF (t.str ρ)).1 = v; rw [h]
  have hck := allBytes_ok (allBytes_ok wk_chk i hi6) j hj6
  refine ⟨wkF i j, [], _, fl_app hF (fl_app (fl_cons (by rw [hi]; exact rem6 hp hp2) (fl_cons (by rw [hj]; exact rem6 hq hq2) fl_nil)) (fl_app (cat_ok _ _ (by show ((wkTl i j).str ρ).length ≤ 1000000; omega)) (fl_app ?_ (fl_app (cat_ok _ _ (by show ((wkT1 i j).str ρ).length ≤ 1000000; omega)) (fl_cons (ltT (by rw [tLen_den, den_n]; omega)) (fl_cons (eqF_ok (e61 _ w1)) (fl_cons (ltT (by rw [tLen_den, den_n]; omega)) (fl_cons (eqF_ok (e61 _ w2)) (fl_cons ?_ fl_nil))))))))), hck, nd_nil⟩
  · cases wkRg i j with
    | true => exact cat_ok _ _ (by show ((wkTr i j).str ρ).length ≤ 1000000; omega)
    | false => exact fl_nil
  · show ((sy 60 (wkT1 i j)).den ρ == (sy 60 (wkT2 i j)).den ρ) = true
    rw [e60 _ w1, e60 _ w2]; simp
end Go.Proofs.YtcncmfefcbdnoaaDoor
