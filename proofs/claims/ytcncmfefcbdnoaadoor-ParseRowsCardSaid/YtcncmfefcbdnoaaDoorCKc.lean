/- What is known of calls: spans, numbers. -/
import Derived.Test.YtcncmfefcbdnoaaDoorCNb
set_option linter.unusedVariables false
set_option linter.unusedSectionVars false
set_option maxRecDepth 100000
noncomputable section
namespace Go.Proofs.YtcncmfefcbdnoaaDoor
open Go.Den Go.Proofs Go.Extern Go.RowKit
variable [Msr]
noncomputable def gSn : Gn := gOr (gC Tryd.prog 9 (spanC [0] 14) []) (gOr (gC Tryd.prog 9 (spanC [1, 2, 3] 15) []) (gC Tryd.prog 9 (spanC [1, 2] 16) []))
theorem gSn_ok : GoodAt Tryd.prog 25 gSn := good_or (good_C gsz (by kernel_rfl) (one1 span_blank)) (good_or (good_C gsz (by kernel_rfl) (one1 span_word)) (good_C gsz (by kernel_rfl) (one1 span_num)))
noncomputable def kn3 : Known := knCons 25 (gOr gSn (fun args h => runD Tryd.prog kn1 20 25 args h)) (knCons 38 (gRun Tryd.prog kn2 20 38 gNb) kn2)
theorem kn3_ok : KnownOK Tryd.prog kn3 := knCons_ok (good_or gSn_ok (good_run static kn1_ok 20 _)) (knCons_ok (good_runC static kn2_ok 20 gNb_ok) kn2_ok)
noncomputable def call3 : CallFn := runD Tryd.prog kn3 20
end Go.Proofs.YtcncmfefcbdnoaaDoor
