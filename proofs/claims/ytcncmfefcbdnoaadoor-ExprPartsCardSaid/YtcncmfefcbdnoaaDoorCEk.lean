/- A text as a constant, whole: checks. -/
import Derived.Test.YtcncmfefcbdnoaaDoorCEj
import Derived.Test.YtcncmfefcbdnoaaDoorXs3
set_option linter.unusedVariables false
set_option linter.unusedSectionVars false
set_option linter.unusedSimpArgs false
set_option maxRecDepth 100000
noncomputable section
namespace Go.Proofs.YtcncmfefcbdnoaaDoor
open Go.Den Go.Proofs Go.Extern Go.RowKit
variable [Mez]
noncomputable def fsWh : Func := Tryd.f12
noncomputable def whC (ok : Bool) : Ctr := ⟨[.sstr (.v 0)], 9 + 1, baseL, [short (.v 0), (.eq, sy 61 (.v 0), .n 1, ok)], .tuple [.sint .i64 (sy 60 (.v 0)), .bool ok], [], []⟩
noncomputable def whS (F : List Fact) : SRes := startS Tryd.prog call15 fsWh 100000 (stpL [0]) (bodyOf fsWh) (whC true) wdT F
noncomputable def whNil : List Fact := [short (.v 0), lnErr 0, (.eq, tRows lnR, .n 0, true)]
noncomputable def whRow : List Fact := [short (.v 0), lnErr 0, (.eq, tRows lnR, .n 0, false)]
noncomputable def whBad (e : Nat) : List Fact := [short (.v 0), lnErr e]
noncomputable def whCanN : Go.Den.Can := ⟨[(0, .sstr (.v 0)), (4, .nilSlice), (6, .sint .i64 (.v 1))], baseL, 9 + 1⟩
noncomputable def whCanR : Go.Den.Can := ⟨[(0, .sstr (.v 0)), (4, .sslice (9 + 1) 4 (.n 0) (tRows lnR) (.n 9223372036854775808)), (6, .sint .i64 (.v 1))], (9 + 1, .rows 61 4 tokFs lnR 1) :: baseL, 9 + 2⟩
noncomputable def whLp : La := ⟨0, srB (whS whNil), srK (whS whNil), [whCanN, whCanR]⟩
noncomputable def whSg (t : SE) : List (Nat × SE) := [(0, .v 0), (1, t)]
theorem wh_stop : (chkStop Tryd.prog 9 (whSg (.n 0)) [] whCanN 0 (whS whNil) && chkStop Tryd.prog 9 (whSg (.n 0)) [] whCanR 0 (whS whRow) && laB (9 + 1) whLp) = true := by kernel_rfl
noncomputable def whRd (x : Nat) (F : List Fact) : SRes := roundA Tryd.prog call15 fsWh.ntmps 100000 (stpL [0]) 0 whLp (match x with | 0 => whCanN | _ => whCanR) F
noncomputable def whNext : SE := .bin .add .i64 (.v 1) (.n 1)
noncomputable def whIn (b : Bool) : List Fact := [(.lt, .v 1, tLen (.v 0), true), (.lt, .v 1, .n 0, false), (.eq, tByte (.v 0) (.v 1), .n 59, b)]
noncomputable def whEnd : List Fact := [(.lt, .v 1, tLen (.v 0), false)]
noncomputable def whE (f : Nat) : SE := .app f lnR tRowN (exTup (.n 0) (.n 0) (.n 0))
noncomputable def whEv (ok b : Bool) : List Fact := whEnd ++ [(.lt, tRows lnR, .n 1000000, true), (.lt, tRows tRowN, .n 1000000, true), (.lt, .n 0, .n 0, false), (.le, .n 0, tRows lnR, true), (.eq, whE 42, .n 0, ok), (.eq, whE 41, tRows lnR, b)]
noncomputable def whEr : List Fact := whEnd ++ [(.lt, tRows lnR, .n 1000000, true), (.lt, tRows tRowN, .n 1000000, true), (.lt, .n 0, .n 0, false), (.le, .n 0, tRows lnR, true), (.eq, whE 42, .n 0, false)]
noncomputable def whOut (ok : Bool) (r : SRes) (t : SE) : Bool := needsB Tryd.prog 9 fsWh (whC ok) [] r [.i (sy 60 (.v 0)) t]
noncomputable def whBadB (e : Nat) : Bool := whOut false (whS (whBad e)) (.n 0)
theorem wh_bad : (whBadB 11 && whBadB 14 && whBadB 15) = true := by kernel_rfl
theorem wh_rd : (whOut false (whRd 0 (whIn true)) (.n 0) && whOut false (whRd 1 (whIn true)) (.n 0) && chkAgain Tryd.prog 9 (whSg whNext) [] whCanN 0 (whRd 0 (whIn false)) && chkAgain Tryd.prog 9 (whSg whNext) [] whCanR 0 (whRd 1 (whIn false))) = true := by kernel_rfl
theorem wh_end : (whOut false (whRd 0 whEnd) (.n 0) && whOut true (whRd 1 (whEv true true)) (whE 40) && whOut false (whRd 1 (whEv true false)) (whE 40) && whOut false (whRd 1 whEr) (.n 0)) = true := by kernel_rfl
/-! The contract. -/
noncomputable def whI (i x : Nat) (ρ0 ρ : Rho) (n : Nat) : Prop := ∃ j : Nat, i = 0 ∧ ρ 0 = ρ0 0 ∧ (ρ 1).i = (j : Int) ∧ j ≤ (ρ0 0).s.length ∧ n = (ρ0 0).s.length - j ∧ (lexF (ρ0 0).s).2.1 = 0 ∧ has59 (ρ0 0).s = has59 ((ρ0 0).s.drop j) ∧ (x = 0 → (lexF (ρ0 0).s).1 = []) ∧ (x = 1 → (lexF (ρ0 0).s).1 ≠ [])
theorem wh_ok {ok : Bool} {ρ : Rho} (hF : ∀ x ∈ (whC ok).facts, x.holds ρ) : ((ρ 0).s.length : Int) < 1000000 ∧ ok = (wholeF (ρ 0).s).2 := by
  have h1 : Fact.holds ρ (short (.v 0)) := hF _ List.mem_cons_self
  have h2 : Fact.holds ρ (.eq, sy 61 (.v 0), .n 1, ok) := hF _ (List.mem_cons_of_mem _ List.mem_cons_self)
  refine ⟨short_of h1, ?_⟩
  have h3 : (b01 (wholeF (ρ 0).s).2 == 1) = ok := h2
  rw [← h3]
  cases (wholeF (ρ 0).s).2 <;> rfl
theorem lexG_few : ∀ (f : Nat) (s : List UInt8) (p : Nat), (lexG f s p).1.length ≤ s.length
  | 0, s, p => Nat.zero_le _
  | f + 1, s, p => by
    unfold lexG
    cases hd : s.drop (tw isBlank s) with
    | nil => exact Nat.zero_le _
    | cons c r =>
      simp only
      cases Nat.beq (kindF c.toNat) 7 with
      | true => exact Nat.zero_le _
      | false =>
        cases he : Nat.beq (wordF (c :: r)).err 0 with
        | false => exact Nat.zero_le _
        | true =>
          have hl := wordF_len (c := c) (r := r) (Nat.eq_of_beq_eq_true he)
          have h1 : (c :: r).length ≤ s.length := by rw [← hd]; simp
          have ih := lexG_few f ((c :: r).drop (wordF (c :: r)).len) (p + tw isBlank s + (wordF (c :: r)).len)
          simp only [cond_false, cond_true, List.length_cons]
          simp only [List.length_drop, List.length_cons] at ih h1
          omega
theorem app40 {ρ : Rho} (x y z : SE) : (SE.app 40 x y z).den ρ = (exR (x.D ρ) (y.D ρ) (z.D ρ)).v := rfl
theorem app41 {ρ : Rho} (x y z : SE) : (SE.app 41 x y z).den ρ = ((exR (x.D ρ) (y.D ρ) (z.D ρ)).at_ : Int) := rfl
theorem app42 {ρ : Rho} (x y z : SE) : (SE.app 42 x y z).den ρ = ((exR (x.D ρ) (y.D ρ) (z.D ρ)).err : Int) := rfl
theorem wh_loop (ok : Bool) (x : Nat) (hx : x ≤ 1) (ρ0 ρ : Rho) (n : Nat) (hF : ∀ x ∈ (whC ok).facts, x.holds ρ0) (hI : whI 0 x ρ0 ρ n) :
    ∃ F : List Fact, (∀ x ∈ F, x.holds ρ) ∧ OutA Tryd.prog 9 fsWh (whC ok) [whLp] whI ρ0 ρ (some (0, n)) (whRd x F) := by
  obtain ⟨j, _, h0, h1, hj, hn, he, h59, hx0, hx1⟩ := hI
  obtain ⟨hsh, hok⟩ := wh_ok hF
  obtain ⟨s, hs⟩ : ∃ s, s = (ρ0 0).s := ⟨_, rfl⟩
  rw [← hs] at hj hn he h59 hx0 hx1 hsh hok
  have hs0 : (ρ 0).s = s := by rw [h0, hs]
  have hlen : (tLen (.v 0)).den ρ = (s.length : Int) := by show ((ρ 0).s.length : Int) = _; rw [hs0]
  have hv1 : (SE.v 1).den ρ = (j : Int) := h1
  have hrd := wh_rd
  have hend := wh_end
  simp only [Bool.and_eq_true] at hrd hend
  have out : ∀ (b : Bool) (F : List Fact) (t : SE), whOut b (whRd x F) t = true → (∀ y ∈ F, y.holds ρ) → wholeF s = (t.den ρ, b) → ∃ F : List Fact, (∀ x ∈ F, x.holds ρ) ∧ OutA Tryd.prog 9 fsWh (whC ok) [whLp] whI ρ0 ρ (some (0, n)) (whRd x F) := by
    intro b F t hc hG hw
    have : ok = b := by rw [hok, hw]
    subst this
    refine ⟨F, hG, .fin [] _ (needsB_ok hc) (nd_cons ?_ nd_nil)⟩
    show (wholeF (ρ0 0).s).1 = t.den ρ
    rw [← hs, hw]
  by_cases hlt : j < s.length
  · have hd : s.drop j = s[j] :: s.drop (j + 1) := List.drop_eq_getElem_cons hlt
    have hb : (tByte (.v 0) (.v 1)).den ρ = ((s[j]).toNat : Int) := by
      show ((((ρ 0).s[((SE.v 1).den ρ).toNat]?).getD 0).toNat : Int) = _
      rw [hv1, hs0, Int.toNat_natCast, List.getElem?_eq_getElem hlt]; rfl
    have hin : ∀ b, decide (s[j] = 59) = b → ∀ y ∈ whIn b, y.holds ρ := fun b hb2 => fl_cons (ltT (by rw [hv1, hlen]; omega)) (fl_cons (ltN (by rw [hv1, den_n]; omega)) (fl_cons (eqB_ok b (by
      rw [hb, ← hb2]
      congr 1
      rw [eq_iff_iff]
      constructor
      · intro h; exact UInt8.toNat_inj.1 (by have h' : ((s[j]).toNat : Int) = (59 : Int) := h; show (s[j]).toNat = 59; omega)
      · intro h; rw [h]; rfl)) fl_nil))
    by_cases hc : s[j] = 59
    · have hw : wholeF s = (0, false) := by
        unfold wholeF
        have : has59 s = true := by rw [h59, hd, has59_cons, hc]; rfl
        rw [if_neg (by rw [he]; simp), if_pos this]
      match x, hx with
      | 0, _ => exact out false _ (.n 0) hrd.1.1.1 (hin true (by simpa using hc)) hw
      | 1, _ => exact out false _ (.n 0) hrd.1.1.2 (hin true (by simpa using hc)) hw
    · have hnx : whNext.den ρ = ((j + 1 : Nat) : Int) := by
        show IntKind.i64.wrap ((SE.v 1).den ρ + 1) = _
        rw [hv1, wrap64 (by omega) (by omega)]; simp
      have h59' : has59 s = has59 (s.drop (j + 1)) := by
        rw [h59, hd, has59_cons]
        have : (s[j] == 59) = false := by rw [beq_eq_false_iff_ne]; exact hc
        rw [this, Bool.false_or]
      have inv : whI 0 x ρ0 (subρ (whSg whNext) ρ) (s.length - (j + 1)) := ⟨j + 1, rfl, h0, hnx, by rw [← hs]; omega, by rw [← hs], by rw [← hs]; exact he, by rw [← hs]; exact h59', by rw [← hs]; exact hx0, by rw [← hs]; exact hx1⟩
      match x, hx with
      | 0, _ => exact ⟨_, hin false (by simpa using hc), .again 0 n 0 whLp whCanN _ [] _ rfl rfl rfl (by omega) hrd.1.2 rfl inv⟩
      | 1, _ => exact ⟨_, hin false (by simpa using hc), .again 0 n 1 whLp whCanR _ [] _ rfl rfl rfl (by omega) hrd.2 rfl inv⟩
  · have hE : ∀ y ∈ whEnd, y.holds ρ := fl_cons (ltN (by rw [hv1, hlen]; omega)) fl_nil
    have hno : has59 s = false := by rw [h59, List.drop_eq_nil_of_le (by omega)]; rfl
    match x, hx with
    | 0, _ =>
      have hw : wholeF s = (0, false) := by
        have hr : lexR s = [] := by unfold lexR; rw [hx0 rfl]; rfl
        refine whole_no ?_
        rw [hr]; decide
      exact out false _ (.n 0) hend.1.1.1 hE hw
    | 1, _ =>
      have hR : lnR.row ρ = lexR s := by show (lexF (ρ 0).s).1.map tokR = _; rw [hs0]; rfl
      have hrl : (tRows lnR).den ρ = ((lexR s).length : Int) := by show (((lnR.row ρ).length : Nat) : Int) = _; rw [hR]
      have hfew : (lexR s).length ≤ s.length := by unfold lexR; rw [List.length_map]; exact lexG_few _ _ _
      obtain ⟨R, hRx⟩ : ∃ R, R = exF (lexR s) [] 0 0 0 := ⟨_, rfl⟩
      have eE : exR (lnR.D ρ) (tRowN.D ρ) ((exTup (.n 0) (.n 0) (.n 0)).D ρ) = R := by
        unfold exR
        rw [show (lnR.D ρ).r = lexR s from hR, hRx]; rfl
      have e40 : (whE 40).den ρ = (R).v := by unfold whE; rw [app40, eE]
      have e41 : (whE 41).den ρ = ((R).at_ : Int) := by unfold whE; rw [app41, eE]
      have e42 : (whE 42).den ρ = ((R).err : Int) := by unfold whE; rw [app42, eE]
      have q42 : decide ((whE 42).den ρ = 0) = decide (R.err = 0) := by
        rw [e42, Bool.eq_iff_iff]; simp
      have f42 : Fact.holds ρ (.eq, whE 42, .n 0, decide (R.err = 0)) := eqB_ok (t := whE 42) (z := 0) (decide (R.err = 0)) q42
      have hfs : ∀ a b : Bool, a = decide ((R).err = 0) → b = decide ((R).at_ = (lexR s).length) → ∀ y ∈ whEv a b, y.holds ρ := fun a b ha hb => fl_app hE (fl_cons (ltT (by rw [hrl, den_n]; omega)) (fl_cons (ltT (show ((0 : Nat) : Int) < 1000000 by decide)) (fl_cons (ltN (show (0 : Int) ≤ 0 by decide)) (fl_cons (leT (by rw [hrl, den_n]; omega)) (fl_cons (by rw [ha]; exact f42) (fl_cons (by
        show ((whE 41).den ρ == (tRows lnR).den ρ) = b
        rw [e41, hrl, hb, Bool.eq_iff_iff]; simp; omega) fl_nil))))))
      have hwf : wholeF s = if (R).err = 0 then ((R).v, decide ((R).at_ = (lexR s).length)) else (0, false) := by
        unfold wholeF
        rw [if_neg (by rw [he]; simp), if_neg (by rw [hno]; simp), hRx]
      by_cases h0e : (R).err = 0
      · rw [if_pos h0e] at hwf
        by_cases hat : (R).at_ = (lexR s).length
        · exact out true _ (whE 40) hend.1.1.2 (hfs true true (decide_eq_true h0e).symm (decide_eq_true hat).symm) (by rw [hwf, e40, decide_eq_true hat])
        · exact out false _ (whE 40) hend.1.2 (hfs true false (decide_eq_true h0e).symm (decide_eq_false hat).symm) (by rw [hwf, e40, decide_eq_false hat])
      · rw [if_neg h0e] at hwf
        exact out false _ (.n 0) hend.2 (fl_app hE (fl_cons (ltT (by rw [hrl, den_n]; omega)) (fl_cons (ltT (show ((0 : Nat) : Int) < 1000000 by decide)) (fl_cons (ltN (show (0 : Int) ≤ 0 by decide)) (fl_cons (leT (by rw [hrl, den_n]; omega)) (fl_cons (neF_ok (by rw [e42]; omega)) fl_nil)))))) hwf
theorem lexG_err : ∀ (f : Nat) (s : List UInt8) (p : Nat), (lexG f s p).2.1 = 0 ∨ (lexG f s p).2.1 = 11 ∨ (lexG f s p).2.1 = 14 ∨ (lexG f s p).2.1 = 15
  | 0, s, p => .inl rfl
  | f + 1, s, p => by
    unfold lexG
    cases hd : s.drop (tw isBlank s) with
    | nil => exact .inl rfl
    | cons c r =>
      simp only
      cases Nat.beq (kindF c.toNat) 7 with
      | true => exact .inl rfl
      | false =>
        cases he : Nat.beq (wordF (c :: r)).err 0 with
        | false => exact wordF_err
        | true => exact lexG_err f ((c :: r).drop (wordF (c :: r)).len) (p + tw isBlank s + (wordF (c :: r)).len)
theorem wh_ctr (ok : Bool) (ht : enterD (whC ok).args fsWh.ntmps 0 .nil = some wdT) (hS : startS Tryd.prog call15 fsWh 100000 (stpL [0]) (bodyOf fsWh) (whC ok) wdT = whS) (hbK : srB (whS whRow) = whLp.b ∧ srK (whS whRow) = whLp.K) : CtrOK Tryd.prog 12 (whC ok) := by
  have hst := wh_stop
  simp only [Bool.and_eq_true] at hst
  have hbd := wh_bad
  simp only [Bool.and_eq_true] at hbd
  refine ctr_loopsA (loops := [whLp]) (inv := whI) (fuel := 100000) (stp := stpL [0]) gsz mixed (runD_ok static kn15_ok 20) Tryd.func12 (by kernel_rfl) (show fsWh.body = some (bodyOf fsWh) by kernel_rfl) (by kernel_rfl) ht (show ([whLp].all (laB (9 + 1))) = true by simp only [List.all_cons, List.all_nil, Bool.and_true]; exact hst.2) (fun ρ hF => ?_) ?_
  · show ∃ F : List Fact, _ ∧ OutA _ _ _ _ _ _ _ _ _ (startS Tryd.prog call15 fsWh 100000 (stpL [0]) (bodyOf fsWh) (whC ok) wdT F)
    rw [hS]
    obtain ⟨hsh, hok⟩ := wh_ok hF
    have h1 : Fact.holds ρ (short (.v 0)) := hF _ List.mem_cons_self
    have eE : (sy 36 (.v 0)).den ρ = ((lexF (ρ 0).s).2.1 : Int) := rfl
    have eR : (tRows lnR).den ρ = ((lexF (ρ 0).s).1.length : Int) := by show ((((lexF (ρ 0).s).1.map tokR).length : Nat) : Int) = _; rw [List.length_map]
    have bad : ∀ e : Nat, whBadB e = true → (lexF (ρ 0).s).2.1 = e → e ≠ 0 → ∃ F : List Fact, (∀ x ∈ F, x.holds ρ) ∧ OutA Tryd.prog 9 fsWh (whC ok) [whLp] whI ρ ρ none (whS F) := by
      intro e hc he hne
      have hw : wholeF (ρ 0).s = (0, false) := by unfold wholeF; rw [if_pos (by rw [he]; exact hne)]
      have : ok = false := by rw [hok, hw]
      subst this
      exact ⟨whBad e, fl_cons h1 (fl_cons (eqF_ok (by rw [eE, he]; rfl)) fl_nil), .fin [] _ (needsB_ok hc) (nd_cons (by show (wholeF (ρ 0).s).1 = 0; rw [hw]) nd_nil)⟩
    rcases lexG_err ((ρ 0).s.length + 1) (ρ 0).s 0 with he | he | he | he
    · have he' : (lexF (ρ 0).s).2.1 = 0 := he
      have he0 : Fact.holds ρ (lnErr 0) := eqF_ok (by rw [eE, he']; rfl)
      by_cases hr : (lexF (ρ 0).s).1 = []
      · exact ⟨whNil, fl_cons h1 (fl_cons he0 (fl_cons (eqF_ok (by rw [eR, hr]; rfl)) fl_nil)), .stop 0 0 whLp whCanN _ [] (ρ 0).s.length rfl rfl (fun i m h => by cases h) rfl rfl hst.1.1 rfl ⟨0, rfl, rfl, rfl, Nat.zero_le _, rfl, he', rfl, fun _ => hr, fun h => (by cases h)⟩⟩
      · exact ⟨whRow, fl_cons h1 (fl_cons he0 (fl_cons (neF_ok (by
          rw [eR]; intro h
          exact hr (List.eq_nil_of_length_eq_zero (by omega)))) fl_nil)), .stop 0 1 whLp whCanR _ [] (ρ 0).s.length rfl rfl (fun i m h => by cases h) hbK.1 hbK.2 hst.1.2 rfl ⟨0, rfl, rfl, rfl, Nat.zero_le _, rfl, he', rfl, fun h => (by cases h), fun _ => hr⟩⟩
    · exact bad 11 hbd.1.1 he (by decide)
    · exact bad 14 hbd.1.2 he (by decide)
    · exact bad 15 hbd.2 he (by decide)
  · intro i lp x can hlp hx ρ0 ρ m hF hI
    match i, hlp with
    | 0, hlp =>
      simp at hlp; subst hlp
      match x, hx with
      | 0, hx => cases hx; exact wh_loop ok 0 (by omega) ρ0 ρ m hF hI
      | 1, hx => cases hx; exact wh_loop ok 1 (by omega) ρ0 ρ m hF hI
      | x + 2, hx => simp [whLp] at hx
    | i + 1, hlp => simp at hlp
noncomputable def gWh : Gn := gC Tryd.prog 9 (whC true) [whC false]
theorem gWh_ok : GoodAt Tryd.prog 12 gWh := good_C gsz (by kernel_rfl) (two (wh_ctr true (by kernel_rfl) rfl ⟨rfl, rfl⟩) (wh_ctr false (by kernel_rfl) rfl ⟨rfl, rfl⟩))
end Go.Proofs.YtcncmfefcbdnoaaDoor
