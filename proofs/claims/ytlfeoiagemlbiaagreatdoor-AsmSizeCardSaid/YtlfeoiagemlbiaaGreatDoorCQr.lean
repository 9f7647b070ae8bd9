/- The word that begins a text, as the reference reads it: the contract. -/
import Derived.Test.YtlfeoiagemlbiaaGreatDoorCQp
import Derived.Test.YtlfeoiagemlbiaaGreatDoorCLn
set_option linter.unusedVariables false
set_option linter.unusedSectionVars false
set_option linter.unusedSimpArgs false
set_option maxRecDepth 100000
noncomputable section
namespace Go.Proofs.YtlfeoiagemlbiaaGreatDoor
open Go.Den Go.Proofs Go.Extern Go.RowKit
variable [Mqa]
noncomputable def roI (i : Nat) (ρ0 ρ : Rho) (n : Nat) : Prop := ∃ (c : UInt8) (r : List UInt8) (j : Nat), i ≤ 1 ∧ ρ 0 = ρ0 0 ∧ (ρ0 0).s = c :: r ∧ (ρ 1).i = ((j + 1 : Nat) : Int) ∧ r.length < 999999 ∧ (i = 0 → kindF c.toNat = 1 ∧ j ≤ tw isWord r) ∧ (i = 1 → kindF c.toNat = 3 ∧ j ≤ tw isLow r) ∧ n = r.length - j
theorem roS_eq (e : Nat) (F : List Fact) : startS Tryz.prog callq1 fsRo 100000 (stpL [1, 3]) (bodyOf fsRo) (roC e) nmT F = roS F := rfl
theorem ro_of {e : Nat} {ρ : Rho} (hF : ∀ x ∈ roFs e, x.holds ρ) : ∃ c r, (ρ 0).s = c :: r ∧ r.length < 999999 ∧ (roneF (c :: r)).err = e := by
  have h1 : Fact.holds ρ (.lt, .n 0, tLen (.v 0), true) := hF _ List.mem_cons_self
  have h2 := short_of (hF _ (List.mem_cons_of_mem _ List.mem_cons_self))
  have h3 : ((((wordF (ρ 0).s).err : Nat) : Int) == (e : Int)) = true := hF _ (List.mem_cons_of_mem _ (List.mem_cons_of_mem _ List.mem_cons_self))
  have h4 : (0 : Int) < ((ρ 0).s.length : Int) := of_ltT h1
  cases hs : (ρ 0).s with
  | nil => rw [hs] at h4; exact absurd h4 (by decide)
  | cons c r =>
    rw [hs] at h2 h3
    simp only [List.length_cons] at h2
    refine ⟨c, r, rfl, by omega, ?_⟩
    rw [rone_err]
    have := eq_of_beq h3
    omega
theorem ro_fin {e : Nat} {ρ0 ρ : Rho} {cur : Option (Nat × Nat)} {r : SRes} {k t n l : SE} (h : roNd e r k t n l = true) {W : Wd} (hW : roneF (ρ0 0).s = W)
    (h1 : (W.kind : Int) = k.den ρ) (h2 : W.text = t.str ρ) (h3 : (W.n : Int) = n.den ρ) (h4 : (W.len : Int) = l.den ρ) : OutP Tryz.prog 9 fsRo (roC e) [roLp1, roLp3] roI ρ0 ρ cur r := by
  refine .fin [] _ (needsB_ok h) (nd_cons ?_ (nd_cons ?_ (nd_cons ?_ (nd_cons ?_ nd_nil))))
  · show (((roneF (ρ0 0).s).kind : Nat) : Int) = k.den ρ; rw [hW]; exact h1
  · show (roneF (ρ0 0).s).text = t.str ρ; rw [hW]; exact h2
  · show (((roneF (ρ0 0).s).n : Nat) : Int) = n.den ρ; rw [hW]; exact h3
  · show (((roneF (ρ0 0).s).len : Nat) : Int) = l.den ρ; rw [hW]; exact h4
theorem rone_eq {c : UInt8} {r : List UInt8} (h : kindF c.toNat ≠ 2) : roneF (c :: r) = wordF (c :: r) := if_neg h
theorem rone_2 {c : UInt8} {r : List UInt8} (h : kindF c.toNat = 2) : roneF (c :: r) = ⟨2, (c :: r).take (rnumF (c :: r)).n, (rnumF (c :: r)).v, (rnumF (c :: r)).n, (rnumF (c :: r)).err⟩ := if_pos h
theorem rnumG_err (p : UInt8 → Bool) (b o : Nat) (s : List UInt8) : ((rnumG p b o s).err = 0 ∨ (rnumG p b o s).err = 11 ∨ (rnumG p b o s).err = 14) ∧ (o ≤ s.length → (rnumG p b o s).n ≤ s.length) := by
  have h1 := tw_le (p := p) (s.drop o)
  rw [List.length_drop] at h1
  unfold rnumG
  split
  · exact ⟨.inr (.inl rfl), fun h => by show o + tw p (s.drop o) ≤ _; omega⟩
  · split
    · exact ⟨.inr (.inr rfl), fun h => by show o + tw p (s.drop o) ≤ _; omega⟩
    · exact ⟨.inl rfl, fun h => by show o + tw p (s.drop o) ≤ _; omega⟩
theorem rnum_err (s : List UInt8) : ((rnumF s).err = 0 ∨ (rnumF s).err = 11 ∨ (rnumF s).err = 14) ∧ (rnumF s).n ≤ s.length := by
  unfold rnumF
  split
  · rename_i h
    refine ⟨(rnumG_err _ _ _ _).1, (rnumG_err _ _ _ _).2 ?_⟩
    unfold rhexB at h
    split at h
    · simp
    · cases h
  · exact ⟨(rnumG_err _ _ _ _).1, (rnumG_err _ _ _ _).2 (Nat.zero_le _)⟩
theorem kind1 {c : UInt8} (h : kindF c.toNat = 1) : (97 ≤ c.toNat ∧ c.toNat ≤ 122) ∨ (65 ≤ c.toNat ∧ c.toNat ≤ 90) ∨ c.toNat = 95 := by
  have : ∀ n : Fin 256, kindF n.val = 1 → (97 ≤ n.val ∧ n.val ≤ 122) ∨ (65 ≤ n.val ∧ n.val ≤ 90) ∨ n.val = 95 := by decide +kernel
  exact this ⟨c.toNat, UInt8.toNat_lt c⟩ h
theorem kind3 {c : UInt8} (h : kindF c.toNat = 3) : c = 46 := by
  have : ∀ n : Fin 256, kindF n.val = 3 → UInt8.ofNat n.val = 46 := by decide +kernel
  have h2 := this ⟨c.toNat, UInt8.toNat_lt c⟩ h
  simpa using h2
theorem ro_start (e : Nat) (ρ : Rho) (hF : ∀ x ∈ roFs e, x.holds ρ) : ∃ F : List Fact, (∀ x ∈ F, x.holds ρ) ∧ OutP Tryz.prog 9 fsRo (roC e) [roLp1, roLp3] roI ρ ρ none (roS F) := by
  obtain ⟨c, r, hs, hsh, he⟩ := ro_of hF
  have hlen : (tLen (.v 0)).den ρ = ((r.length + 1 : Nat) : Int) := by show ((ρ 0).s.length : Int) = _; rw [hs]; simp
  have hb0 : (nmB 0).den ρ = (c.toNat : Int) := by
    show ((((ρ 0).s[((0 : Int)).toNat]?).getD 0).toNat : Int) = _
    rw [hs]; rfl
  have hf : ∀ x ∈ roF c.toNat, x.holds ρ := fl_cons (ltT (by rw [hlen, den_n]; omega)) (fl_cons (eqF_ok hb0) fl_nil)
  have hshort : Fact.holds ρ (short (.v 0)) := ltT (by rw [hlen, den_n]; omega)
  have hsub : ∀ (t : SE) (n : Nat), t.den ρ = (n : Int) → (roSub t).str ρ = (c :: r).take n := fun t n h => by
    show ((ρ 0).s.take (t.den ρ).toNat).drop (0 : Int).toNat = _
    rw [h, hs, Int.toNat_natCast]; simp
  have hsub2 : (roSub (.n 2)).str ρ = (c :: r).take 2 := hsub _ 2 rfl
  have hne2 : kindF c.toNat ≠ 5 → kindF c.toNat ≠ 6 → True := fun _ _ => trivial
  have hX : ∀ b, b = decide (1 < r.length + 1) → ((c :: r).take 2 ≠ [60, 60]) → ((c :: r).take 2 ≠ [62, 62]) → ∀ x ∈ roX b, x.holds ρ := fun b hb h1 h2 => by
    refine fl_cons (ltB b (by rw [den_n, hlen, hb, decide_eq_decide]; omega)) ?_
    cases b with
    | false => exact fl_nil
    | true =>
      have hb' := of_decide_eq_true hb.symm
      exact fl_cons (leT (by rw [den_n, hlen]; omega)) (fl_cons (seqN (by rw [hsub2]; exact h1)) (fl_cons (seqN (by rw [hsub2]; exact h2)) fl_nil))
  have hck := allBytes_ok ro_all c.toNat (UInt8.toNat_lt c)
  have hle := kindF_le c.toNat
  have bad : wordF (c :: r) = ⟨0, [], 0, 0, 11⟩ → kindF c.toNat ≠ 2 → (∀ b : Bool, roZ 11 (roS (roF c.toNat ++ roX b)) = true) → ((c :: r).take 2 ≠ [60, 60]) → ((c :: r).take 2 ≠ [62, 62]) → ∃ F : List Fact, (∀ x ∈ F, x.holds ρ) ∧ OutP Tryz.prog 9 fsRo (roC e) [roLp1, roLp3] roI ρ ρ none (roS F) := fun hw hk hc h1 h2 => by
    have hW : roneF (ρ 0).s = ⟨0, [], 0, 0, 11⟩ := by rw [hs, rone_eq hk, hw]
    rw [rone_eq hk, hw] at he; have he' : 11 = e := he; subst he'
    exact ⟨_, fl_app hf (hX _ rfl h1 h2), ro_fin (hc _) hW rfl rfl rfl rfl⟩
  have tk : ∀ u : UInt8, c ≠ u → (c :: r).take 2 ≠ [u, u] := fun u h h2 => h (by
    rw [show (2 : Nat) = 1 + 1 from rfl, List.take_succ_cons] at h2
    exact (List.cons.inj h2).1)
  have kne : ∀ u : UInt8, kindF c.toNat ≠ kindF u.toNat → c ≠ u := fun u h h2 => h (by rw [h2])
  unfold roB at hck
  generalize hkk : kindF c.toNat = k at hck hle hne2
  match k, hkk, hck, hle with
  | 0, hkk, hck, _ =>
    simp only [Bool.and_eq_true] at hck
    exact bad (by unfold wordF; simp only [hkk]) (by rw [hkk]; decide) (fun b => by cases b; exact hck.1; exact hck.2) (tk _ (kne _ (by rw [hkk]; decide))) (tk _ (kne _ (by rw [hkk]; decide)))
  | 7, hkk, hck, _ =>
    simp only [Bool.and_eq_true] at hck
    exact bad (by unfold wordF; simp only [hkk]) (by rw [hkk]; decide) (fun b => by cases b; exact hck.1; exact hck.2) (tk _ (kne _ (by rw [hkk]; decide))) (tk _ (kne _ (by rw [hkk]; decide)))
  | 8, hkk, hck, _ =>
    simp only [Bool.and_eq_true] at hck
    exact bad (by unfold wordF; simp only [hkk]) (by rw [hkk]; decide) (fun b => by cases b; exact hck.1; exact hck.2) (tk _ (kne _ (by rw [hkk]; decide))) (tk _ (kne _ (by rw [hkk]; decide)))
  | 1, hkk, _, _ =>
    have hlt := ro_let
    simp only [Bool.and_eq_true] at hlt
    obtain ⟨⟨l0, l1⟩, l2⟩ := hlt
    have hn := kind1 hkk
    have h0 : Fact.holds ρ (.lt, .n 0, tLen (.v 0), true) := ltT (by rw [hlen, den_n]; omega)
    have inv : roI 0 ρ (subρ roSg ρ) r.length := ⟨c, r, 0, by decide, rfl, hs, rfl, hsh, fun _ => ⟨hkk, Nat.zero_le _⟩, fun h => absurd h (by decide), rfl⟩
    by_cases h1 : 97 ≤ c.toNat
    · exact ⟨roLe 0, fl_cons h0 (fl_cons (leT (by rw [hb0, den_n]; omega)) (fl_cons (leT (by rw [hb0, den_n]; omega)) fl_nil)), .stop 0 roLp1 _ _ r.length rfl (fun i m h => by cases h) rfl rfl l0 rfl inv⟩
    · by_cases h2 : c.toNat ≤ 90
      · exact ⟨roLe 1, fl_cons h0 (fl_cons (leN (by rw [hb0, den_n]; omega)) (fl_cons (leT (by rw [hb0, den_n]; omega)) (fl_cons (leT (by rw [hb0, den_n]; omega)) fl_nil))), .stop 0 roLp1 _ _ r.length rfl (fun i m h => by cases h) rfl rfl l1 rfl inv⟩
      · exact ⟨roLe 2, fl_cons h0 (fl_cons (leN (by rw [hb0, den_n]; omega)) (fl_cons (leT (by rw [hb0, den_n]; omega)) (fl_cons (leN (by rw [hb0, den_n]; omega)) (fl_cons (eqF_ok (by rw [hb0]; omega)) fl_nil)))), .stop 0 roLp1 _ _ r.length rfl (fun i m h => by cases h) rfl rfl l2 rfl inv⟩
  | 3, hkk, hck, _ =>
    have hc : c = 46 := kind3 hkk
    subst hc
    exact ⟨_, hf, .stop 1 roLp3 _ _ r.length rfl (fun i m h => by cases h) rfl rfl hck rfl ⟨46, r, 0, by decide, rfl, hs, rfl, hsh, fun h => absurd h (by decide), fun _ => ⟨hkk, Nat.zero_le _⟩, rfl⟩⟩
  | 2, hkk, hck, _ =>
    simp only [Bool.and_eq_true] at hck
    obtain ⟨⟨c0, c11⟩, c14⟩ := hck
    have hR := rone_2 (r := r) hkk
    rw [hR] at he
    have he' : (rnumF (c :: r)).err = e := he
    obtain ⟨h3, hn⟩ := rnum_err (c :: r)
    have h90 : (ro1 90).den ρ = (((rnumF (c :: r)).n : Nat) : Int) := by show (((rnumF (ρ 0).s).n : Nat) : Int) = _; rw [hs]
    have h91 : (ro1 91).den ρ = (((rnumF (c :: r)).v : Nat) : Int) := by show (((rnumF (ρ 0).s).v : Nat) : Int) = _; rw [hs]
    have hfs : ∀ x ∈ roN e, x.holds ρ := fl_cons hshort (fl_cons (eqF_ok (by show (((rnumF (ρ 0).s).err : Nat) : Int) = _; rw [hs, he']; rfl)) (fl_cons (ltN (by rw [h90, den_n]; omega)) (fl_cons (leT (by rw [h90, hlen]; simp only [List.length_cons] at hn; omega)) fl_nil)))
    have hnum : ∀ e', e' = e → roNum c.toNat e' = true → OutP Tryz.prog 9 fsRo (roC e) [roLp1, roLp3] roI ρ ρ none (roS (roF c.toNat ++ roN e)) := fun e' h hc => by
      subst h
      unfold roNum at hc
      have hc' : roNd e' (roS (roF c.toNat ++ roN e')) (.n 2) (roSub (ro1 90)) (ro1 91) (ro1 90) = true := by
        cases hq : Nat.beq e' 0 <;> (rw [hq] at hc; exact hc)
      exact ro_fin hc' ((congrArg roneF hs).trans hR) rfl (hsub _ _ h90).symm h91.symm h90.symm
    refine ⟨_, fl_app hf hfs, ?_⟩
    rcases h3 with h | h | h
    · exact hnum 0 (by omega) c0
    · exact hnum 11 (by omega) c11
    · exact hnum 14 (by omega) c14
  | 4, hkk, hck, _ =>
    simp only [Bool.and_eq_true] at hck
    have hk2 : kindF c.toNat ≠ 2 := by rw [hkk]; decide
    have h94 : (ro1 94).den ρ = quoF (c :: r) := by show quoF (ρ 0).s = _; rw [hs]
    have hq : quoF (c :: r) = if (r.drop (tw isText r)).head? = some 34 then ((tw isText r + 2 : Nat) : Int) else -1 := rfl
    have htl := tw_le (p := isText) r
    by_cases hh : (r.drop (tw isText r)).head? = some 34
    · rw [if_pos hh] at hq
      have hw : wordF (c :: r) = ⟨5, r.take (tw isText r), 0, tw isText r + 2, 0⟩ := by
        unfold wordF
        simp only [hkk, hh]; rfl
      have hW : roneF (ρ 0).s = ⟨5, r.take (tw isText r), 0, tw isText r + 2, 0⟩ := by rw [hs, rone_eq hk2, hw]
      rw [rone_eq hk2, hw] at he; have he' : 0 = e := he; subst he'
      have hlt : tw isText r < r.length := by
        rcases Nat.lt_or_ge (tw isText r) r.length with h | h
        · exact h
        · rw [List.drop_eq_nil_of_le h] at hh; simp at hh
      have hm1 : (SE.bin .sub .i64 (ro1 94) (.n 1)).den ρ = ((tw isText r + 1 : Nat) : Int) := by
        show IntKind.i64.wrap ((ro1 94).den ρ - 1) = _
        rw [h94, hq, wrap64 (by omega) (by omega)]; omega
      refine ⟨_, fl_app hf (fl_app (fl_cons hshort (fl_cons (ltN (by rw [h94, hq, den_n]; omega)) fl_nil)) (fl_cons (leT (by rw [hm1, den_n]; omega)) (fl_cons (leT (by rw [hm1, hlen]; omega)) fl_nil))), ro_fin hck.2 hW rfl ?_ rfl (by rw [h94, hq])⟩
      show _ = ((ρ 0).s.take ((SE.bin .sub .i64 (ro1 94) (.n 1)).den ρ).toNat).drop (1 : Int).toNat
      rw [hm1, hs, Int.toNat_natCast]; simp
    · rw [if_neg hh] at hq
      have hw : wordF (c :: r) = ⟨0, [], 0, 0, 11⟩ := by
        unfold wordF
        have : ((r.drop (tw isText r)).head? == some 34) = false := by rw [beq_eq_false_iff_ne]; exact hh
        simp only [hkk, this]; rfl
      have hW : roneF (ρ 0).s = ⟨0, [], 0, 0, 11⟩ := by rw [hs, rone_eq hk2, hw]
      rw [rone_eq hk2, hw] at he; have he' : 11 = e := he; subst he'
      exact ⟨_, fl_app hf (fl_app (fl_cons hshort (fl_cons (ltT (by rw [h94, hq, den_n]; omega)) fl_nil)) fl_nil), ro_fin hck.1 hW rfl rfl rfl rfl⟩
  | 5, hkk, hck, _ =>
    simp only [Bool.and_eq_true] at hck
    have hk2 : kindF c.toNat ≠ 2 := by rw [hkk]; decide
    have hw : wordF (c :: r) = ⟨3, [c], 0, 1, 0⟩ := by unfold wordF; simp only [hkk]
    have hW : roneF (ρ 0).s = ⟨3, [c], 0, 1, 0⟩ := by rw [hs, rone_eq hk2, hw]
    rw [rone_eq hk2, hw] at he; have he' : 0 = e := he; subst he'
    have hc : ∀ b : Bool, roNd 0 (roS (roF c.toNat ++ (roX b ++ [(.le, .n 1, tLen (.v 0), true)]))) (.n 3) (roSub (.n 1)) (.n 0) (.n 1) = true := fun b => by cases b; exact hck.1; exact hck.2
    exact ⟨_, fl_app hf (fl_app (hX _ rfl (tk _ (kne _ (by rw [hkk]; decide))) (tk _ (kne _ (by rw [hkk]; decide)))) (fl_cons (leT (by rw [hlen, den_n]; omega)) fl_nil)), ro_fin (hc _) hW rfl (by rw [hsub _ 1 rfl]; rfl) rfl rfl⟩
  | 6, hkk, hck, _ =>
    simp only [Bool.and_eq_true] at hck
    obtain ⟨⟨z0, z1⟩, z2⟩ := hck
    have hk2 : kindF c.toNat ≠ 2 := by rw [hkk]; decide
    have hc6 : c = 60 ∨ c = 62 := by
      have : ∀ n : Fin 256, kindF n.val = 6 → (UInt8.ofNat n.val = 60 ∨ UInt8.ofNat n.val = 62) := by decide +kernel
      have h := this ⟨c.toNat, UInt8.toNat_lt c⟩ hkk
      simpa using h
    by_cases hh : r.head? = some c
    · obtain ⟨r', hr⟩ : ∃ r', r = c :: r' := by
        cases r with
        | nil => simp at hh
        | cons d r' => exact ⟨r', by rw [List.head?_cons] at hh; rw [Option.some.inj hh]⟩
      have hw : wordF (c :: r) = ⟨3, [c, c], 0, 2, 0⟩ := by unfold wordF; simp only [hkk, hh]; simp
      have hW : roneF (ρ 0).s = ⟨3, [c, c], 0, 2, 0⟩ := by rw [hs, rone_eq hk2, hw]
      rw [rone_eq hk2, hw] at he; have he' : 0 = e := he; subst he'
      have ht : (c :: r).take 2 = [c, c] := by rw [hr]; rfl
      have hl1 : 1 ≤ r.length := by rw [hr]; simp
      have hfs : ∀ x ∈ roX6 c.toNat, x.holds ρ := by
        refine fl_app (fl_cons (ltT (by rw [hlen, den_n]; omega)) (fl_cons (leT (by rw [hlen, den_n]; omega)) fl_nil)) ?_
        rcases hc6 with h | h
        · subst h
          exact fl_cons (seqT (by rw [hsub2, ht])) fl_nil
        · subst h
          exact fl_cons (seqN (by rw [hsub2, ht]; decide)) (fl_cons (seqT (by rw [hsub2, ht])) fl_nil)
      exact ⟨_, fl_app hf hfs, ro_fin z2 hW rfl (by rw [hsub2, ht]) rfl rfl⟩
    · have hw : wordF (c :: r) = ⟨0, [], 0, 0, 11⟩ := by
        unfold wordF
        have : (r.head? == some c) = false := by rw [beq_eq_false_iff_ne]; exact hh
        simp only [hkk, this]; rfl
      have hno : ∀ u : UInt8, (c :: r).take 2 ≠ [u, u] := fun u h => hh (by
        rw [show (2 : Nat) = 1 + 1 from rfl, List.take_succ_cons] at h
        obtain ⟨h1, h2⟩ := List.cons.inj h
        cases r with
        | nil => simp at h2
        | cons d r' =>
          rw [List.take_succ_cons] at h2
          rw [List.head?_cons, (List.cons.inj h2).1, h1])
      exact bad hw hk2 (fun b => by cases b; exact z0; exact z1) (hno _) (hno _)
  | k + 9, _, _, h => omega
theorem ro_loop1 (e : Nat) (ρ0 ρ : Rho) (n : Nat) (hF : ∀ x ∈ roFs e, x.holds ρ0) (hI : roI 0 ρ0 ρ n) :
    ∃ F : List Fact, (∀ x ∈ F, x.holds ρ) ∧ OutP Tryz.prog 9 fsRo (roC e) [roLp1, roLp3] roI ρ0 ρ (some (0, n)) (roR1 F) := by
  obtain ⟨c, r, j, _, h0, hs, h1, hsh, hk, _, hn⟩ := hI
  obtain ⟨hkk, hj⟩ := hk rfl
  obtain ⟨c', r', hs', _, he⟩ := ro_of hF
  obtain ⟨rfl, rfl⟩ := List.cons.inj (hs.symm.trans hs')
  have hk2 : kindF c.toNat ≠ 2 := by rw [hkk]; decide
  rw [rone_eq hk2] at he
  have hlen : (tLen (.v 0)).den ρ = ((r.length + 1 : Nat) : Int) := by show ((ρ 0).s.length : Int) = _; rw [h0, hs]; simp
  have e1 : (SE.v 1).den ρ = ((j + 1 : Nat) : Int) := h1
  have hjl := Nat.le_trans hj (tw_le r)
  have hw0 : tw isWord (c :: r) = tw isWord r + 1 := by
    rw [tw_cons, show isWord c = true by simp [isWord, hkk], cond_true]
  have out : tw isWord r = j → ∀ F : List Fact, (∀ x ∈ F, x.holds ρ) → roO1 F = true → ∃ F : List Fact, (∀ x ∈ F, x.holds ρ) ∧ OutP Tryz.prog 9 fsRo (roC e) [roLp1, roLp3] roI ρ0 ρ (some (0, n)) (roR1 F) := by
    intro htw F hG hO
    unfold roO1 at hO
    rw [Bool.and_eq_true] at hO
    have hK : ∀ b, b = decide (16 < j + 1) → ∀ x ∈ roK b, x.holds ρ := fun b hb => fl_cons (ltB b (by rw [den_n, e1, hb, decide_eq_decide]; omega)) (fl_cons (leT (by rw [e1, hlen]; omega)) fl_nil)
    by_cases h16 : 16 < j + 1
    · have hw : wordF (c :: r) = ⟨0, [], 0, 0, 15⟩ := by
        unfold wordF
        have : Nat.ble (tw isWord (c :: r)) 16 = false := by
          cases hx : Nat.ble (tw isWord (c :: r)) 16 with
          | false => rfl
          | true => have := Nat.le_of_ble_eq_true hx; omega
        simp only [hkk, this, cond_false]
      rw [hw] at he; have he' : 15 = e := he; subst he'
      exact ⟨_, fl_app hG (hK true (decide_eq_true h16).symm), ro_fin hO.1 (show roneF (ρ0 0).s = ⟨0, [], 0, 0, 15⟩ by rw [hs, rone_eq hk2, hw]) rfl rfl rfl rfl⟩
    · have hw : wordF (c :: r) = ⟨1, (c :: r).take (j + 1), 0, j + 1, 0⟩ := by
        unfold wordF
        have : Nat.ble (j + 1) 16 = true := Nat.ble_eq_true_of_le (by omega)
        simp only [hkk, hw0, htw, this, cond_true]
      rw [hw] at he; have he' : 0 = e := he; subst he'
      refine ⟨_, fl_app hG (hK false (decide_eq_false h16).symm), ro_fin hO.2 (show roneF (ρ0 0).s = ⟨1, (c :: r).take (j + 1), 0, j + 1, 0⟩ by rw [hs, rone_eq hk2, hw]) rfl ?_ rfl e1.symm⟩
      show _ = ((ρ 0).s.take ((SE.v 1).den ρ).toNat).drop (0 : Int).toNat
      rw [e1, h0, hs, Int.toNat_natCast]; simp
  by_cases hlt : j < r.length
  · obtain ⟨b, hb⟩ : ∃ b, b = (r[j]?).getD 0 := ⟨_, rfl⟩
    have hbv : nmBy.den ρ = (b.toNat : Int) := by
      show ((((ρ 0).s[((SE.v 1).den ρ).toNat]?).getD 0).toNat : Int) = _
      rw [e1, h0, hs, Int.toNat_natCast, List.getElem?_cons_succ, hb]
    have hG : ∀ x ∈ roIn b.toNat, x.holds ρ := fl_cons (ltN (by rw [e1, den_n]; omega)) (fl_cons (ltT (by rw [e1, hlen]; omega)) (fl_cons (eqF_ok hbv) fl_nil))
    have hck := allBytes_ok ro_all1 b.toNat (UInt8.toNat_lt b)
    unfold roB1 at hck
    rw [show UInt8.ofNat b.toNat = b by simp] at hck
    cases hp : isWord b with
    | true =>
      rw [hp, cond_true] at hck
      refine ⟨_, hG, .again 0 n roLp1 _ _ (r.length - (j + 1)) rfl rfl (by omega) hck rfl ⟨c, r, j + 1, by decide, h0, hs, ?_, hsh, fun _ => ⟨hkk, tw_next hj hlt (by rw [← hb]; exact hp)⟩, fun h => absurd h (by decide), rfl⟩⟩
      show IntKind.i64.wrap ((SE.v 1).den ρ + 1) = _
      rw [e1, wrap64 (by omega) (by omega)]; simp
    | false =>
      rw [hp, cond_false] at hck
      exact out (tw_stop hj (fun _ => by rw [← hb]; exact hp) hjl) _ hG hck
  · have hck := ro_end
    rw [Bool.and_eq_true] at hck
    exact out (tw_stop hj (fun h => absurd h hlt) hjl) roEn (fl_cons (ltN (by rw [e1, den_n]; omega)) (fl_cons (ltN (by rw [e1, hlen]; omega)) fl_nil)) hck.1
theorem ro_loop3 (e : Nat) (ρ0 ρ : Rho) (n : Nat) (hF : ∀ x ∈ roFs e, x.holds ρ0) (hI : roI 1 ρ0 ρ n) :
    ∃ F : List Fact, (∀ x ∈ F, x.holds ρ) ∧ OutP Tryz.prog 9 fsRo (roC e) [roLp1, roLp3] roI ρ0 ρ (some (1, n)) (roR3 F) := by
  obtain ⟨c, r, j, _, h0, hs, h1, hsh, _, hk, hn⟩ := hI
  obtain ⟨hkk, hj⟩ := hk rfl
  obtain ⟨c', r', hs', _, he⟩ := ro_of hF
  obtain ⟨rfl, rfl⟩ := List.cons.inj (hs.symm.trans hs')
  have hk2 : kindF c.toNat ≠ 2 := by rw [hkk]; decide
  rw [rone_eq hk2] at he
  have hlen : (tLen (.v 0)).den ρ = ((r.length + 1 : Nat) : Int) := by show ((ρ 0).s.length : Int) = _; rw [h0, hs]; simp
  have e1 : (SE.v 1).den ρ = ((j + 1 : Nat) : Int) := h1
  have hjl := Nat.le_trans hj (tw_le r)
  have out : tw isLow r = j → ∀ F : List Fact, (∀ x ∈ F, x.holds ρ) → roO3 F = true → ∃ F : List Fact, (∀ x ∈ F, x.holds ρ) ∧ OutP Tryz.prog 9 fsRo (roC e) [roLp1, roLp3] roI ρ0 ρ (some (1, n)) (roR3 F) := by
    intro htw F hG hO
    unfold roO3 at hO
    rw [Bool.and_eq_true] at hO
    have hK : ∀ b, b = decide (j = 0) → ∀ x ∈ roY b, x.holds ρ := fun b hb => fl_cons (eqB_ok b (by rw [e1, hb, decide_eq_decide]; omega)) (fl_cons (leT (by rw [e1, den_n]; omega)) (fl_cons (leT (by rw [e1, hlen]; omega)) fl_nil))
    by_cases hz : j = 0
    · have hw : wordF (c :: r) = ⟨0, [], 0, 0, 11⟩ := by unfold wordF; simp only [hkk, htw, hz]; rfl
      rw [hw] at he; have he' : 11 = e := he; subst he'
      exact ⟨_, fl_app hG (hK true (decide_eq_true hz).symm), ro_fin hO.1 (show roneF (ρ0 0).s = ⟨0, [], 0, 0, 11⟩ by rw [hs, rone_eq hk2, hw]) rfl rfl rfl rfl⟩
    · have hw : wordF (c :: r) = ⟨4, r.take j, 0, j + 1, 0⟩ := by
        unfold wordF
        have : Nat.beq j 0 = false := by cases j with | zero => exact absurd rfl hz | succ j => rfl
        simp only [hkk, htw, this, cond_false]
      rw [hw] at he; have he' : 0 = e := he; subst he'
      refine ⟨_, fl_app hG (hK false (decide_eq_false hz).symm), ro_fin hO.2 (show roneF (ρ0 0).s = ⟨4, r.take j, 0, j + 1, 0⟩ by rw [hs, rone_eq hk2, hw]) rfl ?_ rfl e1.symm⟩
      show _ = ((ρ 0).s.take ((SE.v 1).den ρ).toNat).drop (1 : Int).toNat
      rw [e1, h0, hs, Int.toNat_natCast]; simp
  by_cases hlt : j < r.length
  · obtain ⟨b, hb⟩ : ∃ b, b = (r[j]?).getD 0 := ⟨_, rfl⟩
    have hbv : nmBy.den ρ = (b.toNat : Int) := by
      show ((((ρ 0).s[((SE.v 1).den ρ).toNat]?).getD 0).toNat : Int) = _
      rw [e1, h0, hs, Int.toNat_natCast, List.getElem?_cons_succ, hb]
    have hG : ∀ x ∈ roIn b.toNat, x.holds ρ := fl_cons (ltN (by rw [e1, den_n]; omega)) (fl_cons (ltT (by rw [e1, hlen]; omega)) (fl_cons (eqF_ok hbv) fl_nil))
    have hck := allBytes_ok ro_all3 b.toNat (UInt8.toNat_lt b)
    unfold roB3 at hck
    rw [show UInt8.ofNat b.toNat = b by simp] at hck
    cases hp : isLow b with
    | true =>
      rw [hp, cond_true] at hck
      refine ⟨_, hG, .again 1 n roLp3 _ _ (r.length - (j + 1)) rfl rfl (by omega) hck rfl ⟨c, r, j + 1, by decide, h0, hs, ?_, hsh, fun h => absurd h (by decide), fun _ => ⟨hkk, tw_next hj hlt (by rw [← hb]; exact hp)⟩, rfl⟩⟩
      show IntKind.i64.wrap ((SE.v 1).den ρ + 1) = _
      rw [e1, wrap64 (by omega) (by omega)]; simp
    | false =>
      rw [hp, cond_false] at hck
      exact out (tw_stop hj (fun _ => by rw [← hb]; exact hp) hjl) _ hG hck
  · have hck := ro_end
    rw [Bool.and_eq_true] at hck
    exact out (tw_stop hj (fun h => absurd h hlt) hjl) roEn (fl_cons (ltN (by rw [e1, den_n]; omega)) (fl_cons (ltN (by rw [e1, hlen]; omega)) fl_nil)) hck.2
theorem ro_ctr (e : Nat) (ht : enterD (roC e).args fsRo.ntmps 0 .nil = some nmT) : CtrOK Tryz.prog 56 (roC e) := by
  have hl := ro_lps
  rw [Bool.and_eq_true] at hl
  refine ctr_loops (loops := [roLp1, roLp3]) (inv := roI) (fuel := 100000) (stp := stpL [1, 3]) gsz mixed (runD_ok static knq1_ok 20) Tryz.func56 (by kernel_rfl) (show fsRo.body = some (bodyOf fsRo) by kernel_rfl) (by kernel_rfl) ht (by show (lpB (9 + 1) roLp1 && (lpB (9 + 1) roLp3 && true)) = true; rw [hl.1, hl.2]; rfl) (fun ρ hF => ro_start e ρ hF) ?_
  intro i lp hlp ρ0 ρ n hF hI
  match i, hlp with
  | 0, hlp =>
    obtain rfl : roLp1 = lp := Option.some.inj hlp
    exact ro_loop1 e ρ0 ρ n hF hI
  | 1, hlp =>
    obtain rfl : roLp3 = lp := Option.some.inj hlp
    exact ro_loop3 e ρ0 ρ n hF hI
  | i + 2, hlp => simp at hlp
noncomputable def gRo : Gn := gC Tryz.prog 9 (roC 0) [roC 11, roC 14, roC 15]
theorem gRo_ok : GoodAt Tryz.prog 56 gRo := good_C gsz (by kernel_rfl) (fun x hx => by
  simp only [List.mem_cons, List.mem_nil_iff, or_false] at hx
  rcases hx with rfl | rfl | rfl | rfl
  · exact ro_ctr 0 (by kernel_rfl)
  · exact ro_ctr 11 (by kernel_rfl)
  · exact ro_ctr 14 (by kernel_rfl)
  · exact ro_ctr 15 (by kernel_rfl))
noncomputable def knq2 : Known := knCons 56 (gRun Tryz.prog knq1 20 56 gRo) knq1
theorem knq2_ok : KnownOK Tryz.prog knq2 := knCons_ok (good_runC static knq1_ok 20 gRo_ok) knq1_ok
noncomputable def callq2 : CallFn := runD Tryz.prog knq2 20
end Go.Proofs.YtlfeoiagemlbiaaGreatDoor
