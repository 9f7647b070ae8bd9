/- What is known of calls: spans, numbers. -/
import Derived.Test.YtlfeoiagemlbiaaGreatDoorCNb
set_option linter.unusedVariables false
set_option linter.unusedSectionVars false
set_option maxRecDepth 100000
noncomputable section
namespace Go.Proofs.YtlfeoiagemlbiaaGreatDoor
open Go.Den Go.Proofs Go.Extern Go.RowKit
variable [Msr]
noncomputable def gSn : Gn := gOr (gC Tryz.prog 9 (spanC [0] 14) []) (gOr (gC Tryz.prog 9 (spanC [1, 2, 3] 15) []) (gC Tryz.prog 9 (spanC [1, 2] 16) []))
theorem gSn_ok : GoodAt Tryz.prog 48 gSn := good_or (good_C gsz (by kernel_rfl) (one1 span_blank)) (good_or (good_C gsz (by kernel_rfl) (one1 span_word)) (good_C gsz (by kernel_rfl) (one1 span_num)))
noncomputable def kn3 : Known := knCons 48 (gOr gSn (fun args h => runD Tryz.prog kn1 20 48 args h)) (knCons 91 (gRun Tryz.prog kn2 20 91 gNb) kn2)
theorem kn3_ok : KnownOK Tryz.prog kn3 := knCons_ok (good_or gSn_ok (good_run static kn1_ok 20 _)) (knCons_ok (good_runC static kn2_ok 20 gNb_ok) kn2_ok)
noncomputable def call3 : CallFn := runD Tryz.prog kn3 20
end Go.Proofs.YtlfeoiagemlbiaaGreatDoor
