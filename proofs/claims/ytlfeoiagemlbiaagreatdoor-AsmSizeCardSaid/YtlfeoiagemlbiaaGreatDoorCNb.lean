/- A number that is a word of letters and digits. -/
import Derived.Test.YtlfeoiagemlbiaaGreatDoorCCl
set_option linter.unusedVariables false
set_option linter.unusedSectionVars false
set_option maxRecDepth 100000
noncomputable section
namespace Go.Proofs.YtlfeoiagemlbiaaGreatDoor
open Go.Den Go.Proofs Go.Extern Go.RowKit
variable [Msr]
noncomputable def fs4 : Func := Tryz.f91
noncomputable def errV (e : Nat) : IV := bif Nat.beq e 0 then .nilIface else .iface 70 (.int .i64 (Int.ofNat e))
noncomputable def nbC (e : Nat) : Ctr := ⟨[.sstr (.v 0)], 9 + 1, baseL, [short (.v 0), asciiF (.v 0), (.eq, .app 29 (.v 0) (.n 0) (.n 0), .n (Int.ofNat e), true)], bif Nat.beq e 0 then .tuple [.sint .i64 (.app 28 (.v 0) (.n 0) (.n 0)), .nilIface] else .tuple [.int .i64 0, errV e], [], []⟩
noncomputable def nbT : Tm := putLT [(0, .sstr (.v 0))]
noncomputable def nbX : SE := .lit [48, 120]
noncomputable def nbH : SE := tSub (.v 0) (.n 0) (.n 2)
noncomputable def nbPre (k : Nat) : List Fact := match k with
  | 0 => [(.le, .n 2, tLen (.v 0), false)]
  | 1 => [(.le, .n 2, tLen (.v 0), true), (.seq, nbH, nbX, false)]
  | _ => [(.le, .n 2, tLen (.v 0), true), (.seq, nbH, nbX, true)]
noncomputable def nbB (k : Nat) : Bs := match k with
  | 2 => bsH
  | _ => bsD
noncomputable def nbD (k : Nat) : SE := match k with
  | 2 => tSub (.v 0) (.n 2) (tLen (.v 0))
  | _ => .v 0
noncomputable def nbL (k : Nat) : SE := .app (match k with | 2 => 21 | _ => 20) (nbD k) (.n 0) (.n 0)
noncomputable def nbR (k : Nat) : SE := .app (match k with | 2 => 25 | _ => 24) (nbL k) (.n 0) (.n 0)
noncomputable def nbAll (k : Nat) (b : Bool) : Fact := (.eq, .app (nbB k).all (nbD k) (.n 0) (.n 0), .n 1, b)
noncomputable def nbEm (k : Nat) (b : Bool) : List Fact := nbPre k ++ [(.seq, nbD k, .lit [], b)]
noncomputable def nbSh (k : Nat) (b : Bool) : List Fact := nbEm k false ++ [short (nbD k), asciiF (nbD k), nbAll k b]
noncomputable def nbBad (k : Nat) : List Fact := nbSh k false ++ [short (nbL k), asciiF (nbL k), (.seq, nbR k, .lit [], false)]
noncomputable def nbVal (k : Nat) (x y : Bool) : List Fact := nbSh k true ++ [(.lt, puVal (nbB k) (nbD k), .n 18446744073709551616, x), (.le, .n 1099511627776, puVal (nbB k) (nbD k), y)]
noncomputable def nbS (e : Nat) (F : List Fact) : SRes := startS Tryz.prog call2 fs4 100000 (stpL []) (bodyOf fs4) (nbC e) nbT F
noncomputable def nbN (e : Nat) (F : List Fact) (L : List Need) : Bool := needsB Tryz.prog 9 fs4 (nbC e) [] (nbS e F) L
noncomputable def nbChk (k : Nat) : Bool := (nbN 11 (nbEm k true) [] && nbN 11 (nbBad k) []) && ((nbN 14 (nbVal k true true) [] && nbN 14 (nbVal k false true) []) && nbN 0 (nbVal k true false) [.i (.app 28 (.v 0) (.n 0) (.n 0)) (.wrap .i64 (puVal (nbB k) (nbD k)))])
theorem nb0 : nbChk 0 = true := by kernel_rfl
theorem nb1 : nbChk 1 = true := by kernel_rfl
theorem nb2 : nbChk 2 = true := by kernel_rfl
abbrev nbGoal (e : Nat) (ρ : Rho) : Prop := ∃ F : List Fact, (∀ x ∈ F, x.holds ρ) ∧ OutP Tryz.prog 9 fs4 (nbC e) [] (fun _ _ _ _ => False) ρ ρ none (nbS e F)
theorem nb_case {k e : Nat} {ρ : Rho} {p : UInt8 → Bool} (hk : nbChk k = true) (hpre : ∀ x ∈ nbPre k, x.holds ρ) (hsh : (ρ 0).s.length < 1000000) (has : ascii (ρ 0).s = true)
    (hd1 : ((nbD k).str ρ).length ≤ (ρ 0).s.length) (hd2 : ∀ x ∈ (nbD k).str ρ, x ∈ (ρ 0).s) (hnum : numF (ρ 0).s = numG (nbB k).base p ((nbD k).str ρ)) (he : (numF (ρ 0).s).2 = e)
    (hall : (SE.app (nbB k).all (nbD k) (.n 0) (.n 0)).den ρ = b01 (((nbD k).str ρ).all p)) (hval : (puVal (nbB k) (nbD k)).den ρ = (valF (nbB k).base ((nbD k).str ρ) : Int))
    (hl : (nbL k).str ρ = ((nbD k).str ρ).dropWhile p) (hr : (nbR k).str ρ = cutR p ((nbL k).str ρ)) : nbGoal e ρ := by
  unfold nbChk nbN at hk
  simp only [Bool.and_eq_true] at hk
  obtain ⟨⟨k1, k2⟩, ⟨k3, k4⟩, k5⟩ := hk
  have fin : ∀ {e : Nat} {F : List Fact}, (∀ x ∈ F, x.holds ρ) → needsB Tryz.prog 9 fs4 (nbC e) [] (nbS e F) [] = true → nbGoal e ρ := fun hF h => ⟨_, hF, .fin [] _ (needsB_ok h) (fun n hn => by cases hn)⟩
  rw [hnum] at he
  unfold numG at he
  cases hem : ((nbD k).str ρ).isEmpty with
  | true =>
    rw [hem] at he
    have he' : 11 = e := by simpa using he
    subst he'
    refine fin (fl_app hpre (fl_cons (seqF_ok ?_) fl_nil)) k1
    rw [List.isEmpty_iff.1 hem]; rfl
  | false =>
    have hE : ∀ x ∈ nbEm k false, x.holds ρ := by
      refine fl_app hpre (fl_cons (seqF_ok ?_) fl_nil)
      show (((nbD k).str ρ) == []) = false
      rw [beq_eq_false_iff_ne]
      intro hx; rw [hx] at hem; cases hem
    have hs1 : Fact.holds ρ (short (nbD k)) := ltT (by rw [tLen_den, den_n]; omega)
    have hs2 : Fact.holds ρ (asciiF (nbD k)) := asciiF_ok (ascii_sub has hd2)
    cases ha : ((nbD k).str ρ).all p with
    | false =>
      rw [hem, ha] at he
      have he' : 11 = e := by simpa using he
      subst he'
      have hA : Fact.holds ρ (nbAll k false) := by show ((SE.app (nbB k).all (nbD k) (.n 0) (.n 0)).den ρ == 1) = false; rw [hall, ha]; rfl
      refine fin (fl_app (fl_app hE (fl_cons hs1 (fl_cons hs2 (fl_cons hA fl_nil)))) (fl_cons (ltT ?_) (fl_cons (asciiF_ok (ascii_sub has ?_)) (fl_cons (seqF_ok ?_) fl_nil)))) k2
      · rw [tLen_den, den_n, hl]
        have := (List.dropWhile_sublist (l := (nbD k).str ρ) p).length_le
        omega
      · rw [hl]; exact fun x hx => hd2 x ((List.dropWhile_sublist p).subset hx)
      · show ((nbR k).str ρ == []) = false
        rw [hr, hl, beq_eq_false_iff_ne]
        exact cut_ne ha
    | true =>
      have hA : Fact.holds ρ (nbAll k true) := by show ((SE.app (nbB k).all (nbD k) (.n 0) (.n 0)).den ρ == 1) = true; rw [hall, ha]; rfl
      have hSh : ∀ x ∈ nbSh k true, x.holds ρ := fl_app hE (fl_cons hs1 (fl_cons hs2 (fl_cons hA fl_nil)))
      rw [hem, ha] at he
      simp only [Bool.not_true, Bool.or_self, cond_false] at he
      by_cases h40 : 1099511627776 ≤ valF (nbB k).base ((nbD k).str ρ)
      · have hb : Nat.ble 1099511627776 (valF (nbB k).base ((nbD k).str ρ)) = true := Nat.ble_eq_true_of_le h40
        rw [hb] at he
        have he' : 14 = e := by simpa using he
        subst he'
        by_cases h64 : valF (nbB k).base ((nbD k).str ρ) < 18446744073709551616
        · exact fin (fl_app hSh (fl_cons (ltT (by rw [hval, den_n]; omega)) (fl_cons (leT (by rw [hval, den_n]; omega)) fl_nil))) k3
        · exact fin (fl_app hSh (fl_cons (ltN (by rw [hval, den_n]; omega)) (fl_cons (leT (by rw [hval, den_n]; omega)) fl_nil))) k4
      · have hb : Nat.ble 1099511627776 (valF (nbB k).base ((nbD k).str ρ)) = false := by
          cases hx : Nat.ble 1099511627776 (valF (nbB k).base ((nbD k).str ρ)) with
          | false => rfl
          | true => exact absurd (Nat.le_of_ble_eq_true hx) h40
        rw [hb] at he
        have he' : 0 = e := by simpa using he
        subst he'
        refine ⟨_, fl_app hSh (fl_cons (ltT (by rw [hval, den_n]; omega)) (fl_cons (leN (by rw [hval, den_n]; omega)) fl_nil)), .fin [] _ (needsB_ok k5) (fun n hn => ?_)⟩
        rw [List.mem_singleton] at hn
        subst hn
        show (((numF (ρ 0).s).1 : Nat) : Int) = IntKind.i64.wrap ((puVal (nbB k) (nbD k)).den ρ)
        rw [hval, wrap64 (by omega) (by omega), hnum]
        unfold numG
        rw [hem, ha, hb]; rfl
theorem nb_ctr (e : Nat) (hcb : enterD (nbC e).args fs4.ntmps 0 .nil = some nbT) : CtrOK Tryz.prog 91 (nbC e) := by
  refine ctr_loops (loops := []) (inv := fun _ _ _ _ => False) (fuel := 100000) (stp := stpL []) gsz mixed (runD_ok static kn2_ok 20) Tryz.func91 (by kernel_rfl) (show fs4.body = some (bodyOf fs4) by kernel_rfl) (by kernel_rfl) hcb rfl ?_ (fun i lp h => by simp at h)
  intro ρ hF
  have h1 := short_of (hF _ (List.mem_cons_self))
  have h2 := ascii_of (hF _ (List.mem_cons_of_mem _ (List.mem_cons_self)))
  have h3 : ((((numF (ρ 0).s).2 : Nat) : Int) == (e : Int)) = true := hF _ (List.mem_cons_of_mem _ (List.mem_cons_of_mem _ (List.mem_cons_self)))
  have he : (numF (ρ 0).s).2 = e := by
    rw [int_beq] at h3
    simpa using Eq.symm (by simpa using h3)
  have hsh : (ρ 0).s.length < 1000000 := by omega
  have hlen : (tLen (.v 0)).den ρ = ((ρ 0).s.length : Int) := rfl
  have hH : nbH.str ρ = (ρ 0).s.take 2 := by show ((ρ 0).s.take (2 : Int).toNat).drop (0 : Int).toNat = _; simp
  by_cases hlt : (ρ 0).s.length < 2
  · refine nb_case (k := 0) (p := isDec) nb0 (fl_cons (leN (by rw [hlen, den_n]; omega)) fl_nil) hsh h2 (Nat.le_refl _) (fun x hx => hx) (numF_dec ?_) he rfl rfl rfl rfl
    rw [beq_eq_false_iff_ne]
    intro hx
    have := congrArg List.length hx
    simp at this; omega
  · cases hx : ((ρ 0).s.take 2 == [48, 120]) with
    | false => exact nb_case (k := 1) (p := isDec) nb1 (fl_cons (leT (by rw [hlen, den_n]; omega)) (fl_cons (seqF_ok (by rw [hH]; exact hx)) fl_nil)) hsh h2 (Nat.le_refl _) (fun x hx => hx) (numF_dec hx) he rfl rfl rfl rfl
    | true =>
      have hD : (nbD 2).str ρ = (ρ 0).s.drop 2 := by
        show ((ρ 0).s.take ((tLen (.v 0)).den ρ).toNat).drop (2 : Int).toNat = _
        rw [hlen]; simp
      exact nb_case (k := 2) (p := isHex) nb2 (fl_cons (leT (by rw [hlen, den_n]; omega)) (fl_cons (seqF_ok (by rw [hH]; exact hx)) fl_nil)) hsh h2 (by rw [hD]; simp) (fun x hx => by rw [hD] at hx; exact List.mem_of_mem_drop hx) (by rw [hD]; exact numF_hex hx) he rfl rfl rfl rfl
noncomputable def gNb : Gn := gC Tryz.prog 9 (nbC 0) [nbC 11, nbC 14]
theorem gNb_ok : GoodAt Tryz.prog 91 gNb := good_C gsz (by kernel_rfl) (fun x hx => by
  simp only [List.mem_cons, List.mem_nil_iff, or_false] at hx
  rcases hx with rfl | rfl | rfl
  · exact nb_ctr 0 (by kernel_rfl)
  · exact nb_ctr 11 (by kernel_rfl)
  · exact nb_ctr 14 (by kernel_rfl))
end Go.Proofs.YtlfeoiagemlbiaaGreatDoor
