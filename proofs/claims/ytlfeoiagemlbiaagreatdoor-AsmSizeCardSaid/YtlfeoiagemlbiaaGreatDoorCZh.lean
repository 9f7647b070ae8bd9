/- A small text put together: what comes of it. -/
import Derived.Test.YtlfeoiagemlbiaaGreatDoorCZg
set_option linter.unusedVariables false
set_option linter.unusedSectionVars false
set_option linter.unusedSimpArgs false
set_option maxRecDepth 1000000
noncomputable section
namespace Go.Proofs.YtlfeoiagemlbiaaGreatDoor
open Go.Den Go.Proofs Go.Extern Go.RowKit
variable [Msr]
noncomputable def fsAs : Func := Tryz.f15
noncomputable def asC (t : List UInt8) (v : IV) (new : List OB) : Ctr := ⟨[.str [97], .str t], 9 + 1, baseL, [], v, [], new⟩
noncomputable def asT (t : List UInt8) : Tm := putLT [(0, .str [97]), (1, .str t)]
noncomputable def asB (t : List UInt8) (v : IV) (new : List OB) : Bool := needsR Tryz.prog 9 fsAs (asC t v new) (startS Tryz.prog (runD Tryz.prog knA 100) fsAs 100000 (stpL []) (bodyOf fsAs) (asC t v new) (asT t) []) []
theorem as_ctr {t : List UInt8} {v : IV} {new : List OB} (h : asB t v new = true) (ht : enterD (asC t v new).args fsAs.ntmps 0 .nil = some (asT t)) : CtrOK Tryz.prog 15 (asC t v new) :=
  ctr_fin (fuel := 100000) (stp := stpL []) gsz mixed (runD_ok static knA_ok 100) Tryz.func15 (by kernel_rfl) (show fsAs.body = some (bodyOf fsAs) by kernel_rfl) (by kernel_rfl) ht (fun ρ hF => ⟨[], _, [], fl_nil, h, nd_nil⟩)
noncomputable def as1T : List UInt8 := [109, 97, 105, 110, 58, 32, 97, 100, 100, 105, 32, 99, 49, 44, 32, 99, 48, 44, 32, 53, 10, 32, 106, 109, 112, 32, 109, 97, 105, 110, 10, 32, 46, 100, 97, 116, 97, 10, 120, 58, 32, 46, 119, 111, 114, 100, 32, 55, 10, 32, 46, 101, 120, 112, 111, 114, 116, 32, 109, 97, 105, 110, 10]
noncomputable def as1V : IV := .tuple [.agg [.str [97], .slice (9 + 1) 0 8 8, .slice (9 + 2) 0 16 16, .slice (9 + 3) 0 2 2, .nilSlice], .nilIface]
noncomputable def as1N : List OB := [.cells 5 [.int .u8 5, .int .u8 0, .int .u8 16, .int .u8 14, .int .u8 255, .int .u8 255, .int .u8 0, .int .u8 60] 1, .cells 5 [.int .u8 7, .int .u8 0, .int .u8 0, .int .u8 0, .int .u8 0, .int .u8 0, .int .u8 0, .int .u8 0, .int .u8 0, .int .u8 0, .int .u8 0, .int .u8 0, .int .u8 0, .int .u8 0, .int .u8 0, .int .u8 0] 1, .cells 56 [.str [109, 97, 105, 110], .bool false, .int .u32 0, .bool true, .str [120], .bool true, .int .u32 0, .bool false] 1]
noncomputable def as2T : List UInt8 := [110, 111, 112, 10, 32, 97, 100, 100, 32, 99, 49, 44, 32, 99, 50, 10]
noncomputable def as2V : IV := .tuple [.agg [.str [], .nilSlice, .nilSlice, .nilSlice, .nilSlice], .iface 114 (.ptr (9 + 1) 0)]
noncomputable def as2N : List OB := [.cells 118 [.str [108, 105, 110, 101], .int .i64 1, .iface 70 (.int .i64 11)] 0]
end Go.Proofs.YtlfeoiagemlbiaaGreatDoor
