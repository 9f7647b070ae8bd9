/- Bytes counted. -/
import Derived.Test.YtlfeoiagemlbiaaGreatDoorCAs
import Derived.Test.YtlfeoiagemlbiaaGreatDoorXs4
set_option linter.unusedVariables false
set_option linter.unusedSectionVars false
set_option linter.unusedSimpArgs false
set_option maxRecDepth 100000
noncomputable section
namespace Go.Proofs.YtlfeoiagemlbiaaGreatDoor
open Go.Den Go.Proofs Go.Extern Go.RowKit Go.Lib
variable [Interp]
noncomputable def cntL (c : Nat) (s : List UInt8) : Nat := @List.rec UInt8 (fun _ => Nat) 0 (fun b _ ih => @Bool.rec (fun _ => Nat) ih (ih + 1) (Nat.beq b.toNat c)) s
/-- internal/bytealg.CountString -/
noncomputable def gCnt : Gn := fun args h => match args with
  | [.str s, .int .u8 (.ofNat c)] => match Nat.blt c 256 with
    | true => some (.int .i64 (Int.ofNat (cntL c s)), h)
    | false => none
  | _ => none
theorem cntL_eq {c : Nat} (hc : c < 256) : ∀ s : List UInt8, cntL c s = countByte s (UInt8.ofNat c)
  | [] => rfl
  | b :: s => by
    have h1 : cntL c (b :: s) = @Bool.rec (fun _ => Nat) (cntL c s) (cntL c s + 1) (Nat.beq b.toNat c) := rfl
    have hcn : (UInt8.ofNat c).toNat = c := by simp [Nat.mod_eq_of_lt hc]
    rw [h1, cntL_eq hc s]
    unfold countByte
    rw [List.count_cons]
    cases hb : Nat.beq b.toNat c with
    | true =>
      have hbc : b = UInt8.ofNat c := by
        apply UInt8.toNat_inj.1
        rw [hcn]; exact Nat.eq_of_beq_eq_true hb
      subst hbc
      simp
    | false =>
      have hne : ¬ b = UInt8.ofNat c := by
        intro he
        subst he
        rw [hcn] at hb
        simp at hb
      simp [hne]
theorem k_cnt : GoodAt Tryz.prog 153 gCnt := by
  refine good_extern (x := Extern.BytealgCount.count) Tryz.func153 (by kernel_rfl) (by kernel_rfl) (by kernel_rfl) (by kernel_rfl) (fun args h v h' hd e w A r hA => ?_)
  unfold gCnt at hd
  split at hd
  · rename_i s c
    split at hd
    · rename_i hlt
      cases hd
      obtain ⟨X, Y, h1, h2, rfl⟩ := args2 hA
      simp only [conc] at h1 h2; cases h1; cases h2
      refine ⟨rfl, _, run_countString ⟨s.toArray⟩ (Int.ofNat c) w, ?_⟩
      rw [cntL_eq (Nat.blt_eq.mp hlt)]
      rfl
    · cases hd
  · cases hd
noncomputable def knA : Known := knCons 153 gCnt kn
theorem knA_ok : KnownOK Tryz.prog knA := knCons_ok k_cnt kn_ok
end Go.Proofs.YtlfeoiagemlbiaaGreatDoor
