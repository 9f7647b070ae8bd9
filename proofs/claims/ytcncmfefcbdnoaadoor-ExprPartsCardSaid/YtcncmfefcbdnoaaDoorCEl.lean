/- Decimals of bytes; what is known first. -/
import Derived.Test.YtcncmfefcbdnoaaDoorCEk
set_option linter.unusedVariables false
set_option linter.unusedSectionVars false
set_option linter.unusedSimpArgs false
set_option maxRecDepth 100000
noncomputable section
namespace Go.Proofs.YtcncmfefcbdnoaaDoor
open Go.Den Go.Proofs Go.Extern Go.RowKit
variable [Mez]
noncomputable def fsNu : Func := Tryd.f13
noncomputable def nuC : Ctr := ⟨[.sint .u8 (.v 0)], 9 + 1, [], byteFs (.v 0), .sstr (sy 62 (.v 0)), [], []⟩
noncomputable def nuQ (k : Nat) : SE := @Nat.rec (fun _ => SE) (.v 0) (fun _ ih => .bin .quo .u8 ih (.n 10)) k
noncomputable def nuG (t : SE) : SE := tCat (tChr (.bin .add .u8 (.n 48) (.bin .rem .u8 t (.n 10)))) (.lit [])
noncomputable def nuT (k : Nat) : SE := @Nat.rec (fun _ => SE) (tCat (nuG (.v 0)) (.lit [])) (fun k ih => tCat (nuG (nuQ (k + 1))) ih) k

noncomputable def nuF (k : Nat) : List Fact := match k with
  | 0 => [mxL (nuT 0), (.lt, .n 0, nuQ 1, false)]
  | 1 => [mxL (nuT 0), (.lt, .n 0, nuQ 1, true), mxL (nuT 1), (.lt, .n 0, nuQ 2, false)]
  | _ => [mxL (nuT 0), (.lt, .n 0, nuQ 1, true), mxL (nuT 1), (.lt, .n 0, nuQ 2, true), mxL (nuT 2), (.lt, .n 0, nuQ 3, false)]
noncomputable def nuS (F : List Fact) : SRes := startS Tryd.prog call15 fsNu 100000 (stpL []) (bodyOf fsNu) nuC (putLT [(0, .sint .u8 (.v 0))]) F
noncomputable def nuB (k : Nat) : Bool := needsB Tryd.prog 9 fsNu nuC [] (nuS (nuF k)) [.s (sy 62 (.v 0)) (nuT k)]
theorem nu_chk : (nuB 0 && nuB 1 && nuB 2) = true := by kernel_rfl
theorem u8_wrap {z : Int} (h1 : 0 ≤ z) (h2 : z < 256) : IntKind.u8.wrap z = z := by
  simp only [IntKind.wrap, IntKind.signed, IntKind.bits]
  simp
  omega
theorem nu_ctr : CtrOK Tryd.prog 13 nuC := by
  refine ctr_fin (fuel := 100000) (stp := stpL []) gsz mixed (runD_ok static kn15_ok 20) Tryd.func13 (by kernel_rfl) (show fsNu.body = some (bodyOf fsNu) by kernel_rfl) (by kernel_rfl) (show enterD nuC.args fsNu.ntmps 0 .nil = some (putLT [(0, .sint .u8 (.v 0))]) by kernel_rfl) (fun ρ hF => ?_)
  have f1 : Fact.holds ρ (.lt, .v 0, .n 0, false) := hF _ List.mem_cons_self
  have f2 : Fact.holds ρ (.lt, .v 0, .n 256, true) := hF _ (List.mem_cons_of_mem _ List.mem_cons_self)
  have k1 : 0 ≤ (ρ 0).i := by have h := of_ltN f1; rw [den_n] at h; exact h
  have k2 : (ρ 0).i < 256 := by have h := of_ltT f2; rw [den_n] at h; exact h
  obtain ⟨n, hn⟩ : ∃ n : Nat, (ρ 0).i = (n : Int) := ⟨(ρ 0).i.toNat, by omega⟩
  have hn2 : n < 256 := by omega
  have q0 : (nuQ 0).den ρ = ((n : Nat) : Int) := hn
  have step : ∀ (t : SE) (m : Nat), m < 256 → t.den ρ = (m : Int) → (SE.bin .quo .u8 t (.n 10)).den ρ = ((m / 10 : Nat) : Int) := fun t m hm ht => by
    show IntKind.u8.wrap ((t.den ρ).tdiv 10) = _
    rw [ht, show ((m : Int).tdiv 10) = ((m / 10 : Nat) : Int) by rw [Int.tdiv_eq_ediv_of_nonneg (by omega)]; omega, u8_wrap (by omega) (by omega)]
  have q1 : (nuQ 1).den ρ = ((n / 10 : Nat) : Int) := step _ n hn2 q0
  have q2 : (nuQ 2).den ρ = ((n / 10 / 10 : Nat) : Int) := step _ _ (by omega) q1
  have q3 : (nuQ 3).den ρ = ((n / 10 / 10 / 10 : Nat) : Int) := step _ _ (by omega) q2
  have dig : ∀ (t : SE) (m : Nat), m < 256 → t.den ρ = (m : Int) → (nuG t).str ρ = [UInt8.ofNat (48 + m % 10)] := fun t m hm ht => by
    show [UInt8.ofNat (IntKind.u8.wrap (48 + (t.den ρ).tmod 10)).toNat] ++ [] = _
    rw [ht, show ((m : Int).tmod 10) = ((m % 10 : Nat) : Int) by rw [Int.tmod_eq_emod_of_nonneg (by omega)]; omega, u8_wrap (by omega) (by omega), show (48 + ((m % 10 : Nat) : Int)).toNat = 48 + m % 10 by omega]
    rfl
  have t0 : (nuT 0).str ρ = [UInt8.ofNat (48 + n % 10)] := by
    show (nuG (nuQ 0)).str ρ ++ [] = _
    rw [dig _ n hn2 q0]; rfl
  have t1 : (nuT 1).str ρ = [UInt8.ofNat (48 + n / 10 % 10), UInt8.ofNat (48 + n % 10)] := by
    show (nuG (nuQ 1)).str ρ ++ (nuT 0).str ρ = _
    rw [dig _ _ (by omega) q1, t0]; rfl
  have t2 : (nuT 2).str ρ = [UInt8.ofNat (48 + n / 10 / 10 % 10), UInt8.ofNat (48 + n / 10 % 10), UInt8.ofNat (48 + n % 10)] := by
    show (nuG (nuQ 2)).str ρ ++ (nuT 1).str ρ = _
    rw [dig _ _ (by omega) q2, t1]; rfl
  have m0 : Fact.holds ρ (mxL (nuT 0)) := leT (by rw [tLen_den, den_n, t0]; simp)
  have m1 : Fact.holds ρ (mxL (nuT 1)) := leT (by rw [tLen_den, den_n, t1]; simp)
  have m2 : Fact.holds ρ (mxL (nuT 2)) := leT (by rw [tLen_den, den_n, t2]; simp)
  have hck := nu_chk
  simp only [Bool.and_eq_true] at hck
  have e62 : (sy 62 (.v 0)).str ρ = decF n := by show decF (ρ 0).i.toNat = _; rw [hn, Int.toNat_natCast]
  by_cases h10 : n < 10
  · refine ⟨nuF 0, [], _, fl_cons m0 (fl_cons (ltN (by rw [q1, den_n]; omega)) fl_nil), hck.1.1, nd_cons ?_ nd_nil⟩
    show (sy 62 (.v 0)).str ρ = _
    rw [e62, t0]; unfold decF; rw [if_pos h10, show n % 10 = n by omega]
  · by_cases h100 : n < 100
    · refine ⟨nuF 1, [], _, fl_cons m0 (fl_cons (ltT (by rw [q1, den_n]; omega)) (fl_cons m1 (fl_cons (ltN (by rw [q2, den_n]; omega)) fl_nil))), hck.1.2, nd_cons ?_ nd_nil⟩
      show (sy 62 (.v 0)).str ρ = _
      rw [e62, t1]; unfold decF; rw [if_neg h10, if_pos h100, show n / 10 % 10 = n / 10 by omega]
    · refine ⟨nuF 2, [], _, fl_cons m0 (fl_cons (ltT (by rw [q1, den_n]; omega)) (fl_cons m1 (fl_cons (ltT (by rw [q2, den_n]; omega)) (fl_cons m2 (fl_cons (ltN (by rw [q3, den_n]; omega)) fl_nil))))), hck.2, nd_cons ?_ nd_nil⟩
      show (sy 62 (.v 0)).str ρ = _
      rw [e62, t2]; unfold decF; rw [if_neg h10, if_neg h100, show n / 10 / 10 % 10 = n / 100 by omega]
noncomputable def gNu : Gn := gC Tryd.prog 9 nuC []
theorem gNu_ok : GoodAt Tryd.prog 13 gNu := good_C gsz (by kernel_rfl) (one1 nu_ctr)
/-! What is known first. -/
noncomputable def fsKw : Func := Tryd.f11
noncomputable def kwC : Ctr := ⟨[], 9 + 1, baseL, [], .bool true, [], []⟩
theorem kw_chk : needsB Tryd.prog 9 fsKw kwC [] (startS Tryd.prog (runD Tryd.prog kn 60) fsKw 100000 (stpL []) (bodyOf fsKw) kwC .nil []) [] = true := by kernel_rfl
theorem kw_ctr : CtrOK Tryd.prog 11 kwC :=
  ctr_fin (fuel := 100000) (stp := stpL []) gsz mixed (runD_ok static kn_ok 60) Tryd.func11 (by kernel_rfl) (show fsKw.body = some (bodyOf fsKw) by kernel_rfl) (by kernel_rfl) (show enterD kwC.args fsKw.ntmps 0 .nil = some .nil by kernel_rfl) (fun ρ hF => ⟨[], [], [], fl_nil, kw_chk, nd_nil⟩)
noncomputable def gKw : Gn := gC Tryd.prog 9 kwC []
theorem gKw_ok : GoodAt Tryd.prog 11 gKw := good_C gsz (by kernel_rfl) (one1 kw_ctr)
noncomputable def kn16 : Known := knCons 11 gKw (knCons 13 gNu (knCons 12 gWh kn15))
theorem kn16_ok : KnownOK Tryd.prog kn16 := knCons_ok gKw_ok (knCons_ok gNu_ok (knCons_ok gWh_ok kn15_ok))
noncomputable def call16 : CallFn := runD Tryd.prog kn16 20
end Go.Proofs.YtcncmfefcbdnoaaDoor
