/- What is known first: it holds. -/
import Derived.Test.YtlfeoiagemlbiaaGreatDoorCZi
import Derived.Test.YtlfeoiagemlbiaaGreatDoorCZj
import Derived.Test.YtlfeoiagemlbiaaGreatDoorCCl
set_option linter.unusedVariables false
set_option linter.unusedSectionVars false
set_option linter.unusedSimpArgs false
set_option maxRecDepth 1000000
noncomputable section
namespace Go.Proofs.YtlfeoiagemlbiaaGreatDoor
open Go.Den Go.Proofs Go.Extern Go.RowKit
variable [Msr]
noncomputable def gAs : Gn := gOr (gC Tryz.prog 9 (asC as1T as1V as1N) []) (gC Tryz.prog 9 (asC as2T as2V as2N) [])
theorem gAs_ok : GoodAt Tryz.prog 15 gAs := good_or (good_C gsz (by kernel_rfl) (one1 as1_ctr)) (good_C gsz (by kernel_rfl) (one1 as2_ctr))
noncomputable def knB : Known := knCons 15 gAs knA
theorem knB_ok : KnownOK Tryz.prog knB := knCons_ok gAs_ok knA_ok
noncomputable def fsKa : Func := Tryz.f8
noncomputable def kaC : Ctr := ⟨[], 9 + 1, baseL, [], .bool true, [], []⟩
theorem ka_chk : needsB Tryz.prog 9 fsKa kaC [] (startS Tryz.prog (runD Tryz.prog knB 60) fsKa 100000 (stpL []) (bodyOf fsKa) kaC .nil []) [] = true := by kernel_rfl
theorem ka_ctr : CtrOK Tryz.prog 8 kaC :=
  ctr_fin (fuel := 100000) (stp := stpL []) gsz mixed (runD_ok static knB_ok 60) Tryz.func8 (by kernel_rfl) (show fsKa.body = some (bodyOf fsKa) by kernel_rfl) (by kernel_rfl) (show enterD kaC.args fsKa.ntmps 0 .nil = some .nil by kernel_rfl) (fun ρ hF => ⟨[], [], [], fl_nil, ka_chk, nd_nil⟩)
noncomputable def gKa : Gn := gC Tryz.prog 9 kaC []
theorem gKa_ok : GoodAt Tryz.prog 8 gKa := good_C gsz (by kernel_rfl) (one1 ka_ctr)
end Go.Proofs.YtlfeoiagemlbiaaGreatDoor
