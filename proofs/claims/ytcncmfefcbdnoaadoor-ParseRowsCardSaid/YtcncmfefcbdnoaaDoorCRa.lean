/- Decimals below sixteen; what is known first. -/
import Derived.Test.YtcncmfefcbdnoaaDoorCPf
set_option linter.unusedVariables false
set_option linter.unusedSectionVars false
set_option linter.unusedSimpArgs false
set_option maxRecDepth 100000
noncomputable section
namespace Go.Proofs.YtcncmfefcbdnoaaDoor
open Go.Den Go.Proofs Go.Extern Go.RowKit
variable [Mpr]
noncomputable def fsDe : Func := Tryd.f8
noncomputable def deC : Ctr := ⟨[.sint .i64 (.v 0)], 9 + 1, [], [(.lt, .v 0, .n 0, false), (.le, .n 16, .v 0, false)], .sstr (sy 75 (.v 0)), [], []⟩
noncomputable def deT : Tm := putLT [(0, .sint .i64 (.v 0))]
noncomputable def deG (t : SE) : SE := tCat (tChr (.wrap .u8 (.bin .add .i64 (.n 48) (.bin .rem .i64 t (.n 10))))) (.lit [])
noncomputable def deQ : SE := .bin .quo .i64 (.v 0) (.n 10)
noncomputable def deTm (k : Nat) : SE := match k with
  | 0 => deG (.v 0)
  | _ => tCat (deG deQ) (deG (.v 0))
noncomputable def deF (k : Nat) : List Fact := match k with
  | 0 => [(.lt, .v 0, .n 0, false), (.le, .n 10, .v 0, false)]
  | _ => [(.lt, .v 0, .n 0, false), (.le, .n 10, .v 0, true), mxL (tCat (deG deQ) (deG (.v 0))), (.le, .n 10, deQ, false)]
noncomputable def deS (F : List Fact) : SRes := startS Tryd.prog call15 fsDe 100000 (stpL []) (bodyOf fsDe) deC deT F
noncomputable def deB (k : Nat) : Bool := needsB Tryd.prog 9 fsDe deC [] (deS (deF k)) [.s (sy 75 (.v 0)) (deTm k)]
theorem de_chk : (deB 0 && deB 1) = true := by kernel_rfl
theorem de_dig {ρ : Rho} {t : SE} {m : Nat} (hm : m < 16) (ht : t.den ρ = (m : Int)) : (deG t).str ρ = [UInt8.ofNat (48 + m % 10)] := by
  have h1 : (SE.bin .rem .i64 t (.n 10)).den ρ = ((m % 10 : Nat) : Int) := by
    show (t.den ρ).tmod 10 = _
    rw [ht, Int.tmod_eq_emod_of_nonneg (by omega)]; omega
  have h2 : (SE.wrap .u8 (.bin .add .i64 (.n 48) (.bin .rem .i64 t (.n 10)))).den ρ = ((48 + m % 10 : Nat) : Int) := by
    show IntKind.u8.wrap (IntKind.i64.wrap (48 + (SE.bin .rem .i64 t (.n 10)).den ρ)) = _
    rw [h1, wrap64 (by omega) (by omega)]
    simp only [IntKind.wrap, IntKind.signed, IntKind.bits]
    simp
    omega
  show [UInt8.ofNat ((SE.wrap .u8 (.bin .add .i64 (.n 48) (.bin .rem .i64 t (.n 10)))).den ρ).toNat] ++ [] = _
  rw [h2, Int.toNat_natCast]; rfl
theorem de_ctr : CtrOK Tryd.prog 8 deC := by
  refine ctr_fin (fuel := 100000) (stp := stpL []) gsz mixed (runD_ok static kn15_ok 20) Tryd.func8 (by kernel_rfl) (show fsDe.body = some (bodyOf fsDe) by kernel_rfl) (by kernel_rfl) (show enterD deC.args fsDe.ntmps 0 .nil = some deT by kernel_rfl) (fun ρ hF => ?_)
  have f1 : Fact.holds ρ (.lt, .v 0, .n 0, false) := hF _ List.mem_cons_self
  have f2 : Fact.holds ρ (.le, .n 16, .v 0, false) := hF _ (List.mem_cons_of_mem _ List.mem_cons_self)
  have k1 : 0 ≤ (ρ 0).i := by have h := of_ltN f1; rw [den_n] at h; exact h
  have k2 : (ρ 0).i < 16 := by have h := of_leN f2; rw [den_n] at h; exact h
  obtain ⟨n, hn⟩ : ∃ n : Nat, (ρ 0).i = (n : Int) := ⟨(ρ 0).i.toNat, by omega⟩
  have hn16 : n < 16 := by omega
  have hv : (SE.v 0).den ρ = (n : Int) := hn
  have hck := de_chk
  simp only [Bool.and_eq_true] at hck
  have e75 : (sy 75 (.v 0)).str ρ = decF n := by show decF (ρ 0).i.toNat = _; rw [hn, Int.toNat_natCast]
  have d0 := de_dig hn16 hv
  have hq : deQ.den ρ = ((n / 10 : Nat) : Int) := by
    show IntKind.i64.wrap (((SE.v 0).den ρ).tdiv 10) = _
    rw [hv, show ((n : Int).tdiv 10) = ((n / 10 : Nat) : Int) by rw [Int.tdiv_eq_ediv_of_nonneg (by omega)]; omega, wrap64 (by omega) (by omega)]
  have d1 := de_dig (m := n / 10) (by omega) hq
  by_cases h10 : n < 10
  · refine ⟨deF 0, [], _, fl_cons (ltN (by rw [hv, den_n]; omega)) (fl_cons (leN (by rw [hv, den_n]; omega)) fl_nil), hck.1, nd_cons ?_ nd_nil⟩
    show (sy 75 (.v 0)).str ρ = (deG (.v 0)).str ρ
    rw [e75, d0]; unfold decF; rw [if_pos h10, show n % 10 = n by omega]
  · have hs : (tCat (deG deQ) (deG (.v 0))).str ρ = [UInt8.ofNat (48 + n / 10 % 10), UInt8.ofNat (48 + n % 10)] := by
      show (deG deQ).str ρ ++ (deG (.v 0)).str ρ = _
      rw [d1, d0]; rfl
    refine ⟨deF 1, [], _, fl_cons (ltN (by rw [hv, den_n]; omega)) (fl_cons (leT (by rw [hv, den_n]; omega)) (fl_cons (leT (by rw [tLen_den, den_n, hs]; simp)) (fl_cons (leN (by rw [hq, den_n]; omega)) fl_nil))), hck.2, nd_cons ?_ nd_nil⟩
    show (sy 75 (.v 0)).str ρ = (tCat (deG deQ) (deG (.v 0))).str ρ
    rw [e75, hs]; unfold decF; rw [if_neg h10, if_pos (by omega), show n / 10 % 10 = n / 10 by omega]
noncomputable def gDe : Gn := gC Tryd.prog 9 deC []
theorem gDe_ok : GoodAt Tryd.prog 8 gDe := good_C gsz (by kernel_rfl) (one1 de_ctr)
/-! What is known first. -/
noncomputable def fsKr : Func := Tryd.f7
noncomputable def krC : Ctr := ⟨[], 9 + 1, baseL, [], .bool true, [], []⟩
noncomputable def krS : SRes := startS Tryd.prog (runD Tryd.prog kn 60) fsKr 100000 (stpL []) (bodyOf fsKr) krC .nil []
theorem kr_chk : needsB Tryd.prog 9 fsKr krC [] krS [] = true := by kernel_rfl
theorem kr_ctr : CtrOK Tryd.prog 7 krC :=
  ctr_fin (fuel := 100000) (stp := stpL []) gsz mixed (runD_ok static kn_ok 60) Tryd.func7 (by kernel_rfl) (show fsKr.body = some (bodyOf fsKr) by kernel_rfl) (by kernel_rfl) (show enterD krC.args fsKr.ntmps 0 .nil = some .nil by kernel_rfl) (fun ρ hF => ⟨[], [], [], fl_nil, kr_chk, nd_nil⟩)
noncomputable def gKr : Gn := gC Tryd.prog 9 krC []
theorem gKr_ok : GoodAt Tryd.prog 7 gKr := good_C gsz (by kernel_rfl) (one1 kr_ctr)
noncomputable def kn24 : Known := knCons 7 gKr (knCons 8 gDe kn23)
theorem kn24_ok : KnownOK Tryd.prog kn24 := knCons_ok gKr_ok (knCons_ok gDe_ok kn23_ok)
noncomputable def call24 : CallFn := runD Tryd.prog kn24 20

end Go.Proofs.YtcncmfefcbdnoaaDoor
