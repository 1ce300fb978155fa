/- The chapters' examples: single calls. -/
import Derived.Test.YtpmejcfbnghaeaaGreatDoorT36
namespace Go.Abs
set_option maxRecDepth 100000
def tt : D := .lit (.bool true)
theorem a01 : runOf ctxR L2 1000000 185 [] tt = true := by kernel_rfl
noncomputable def K01 : XCall := atL 185 (dataL (tbl [([], tt)])) L2
theorem K01_ok : LibOk ctxR K01 := atL_ok L2_ok (dataL_ok (tbl_ok (one_ok (runOf_ok ctxOkR L2_ok a01))))
theorem a03 : runOf ctxR K01 1000000 256 [] tt = true := by kernel_rfl
noncomputable def K03 : XCall := atL 256 (dataL (tbl [([], tt)])) K01
theorem K03_ok : LibOk ctxR K03 := atL_ok K01_ok (dataL_ok (tbl_ok (one_ok (runOf_ok ctxOkR K01_ok a03))))
theorem a04 : runOf ctxR K03 1000000 296 [] tt = true := by kernel_rfl
noncomputable def K04 : XCall := atL 296 (dataL (tbl [([], tt)])) K03
theorem K04_ok : LibOk ctxR K04 := atL_ok K03_ok (dataL_ok (tbl_ok (one_ok (runOf_ok ctxOkR K03_ok a04))))
theorem a06 : runOf ctxR K04 1000000 181 [] tt = true := by kernel_rfl
noncomputable def K06 : XCall := atL 181 (dataL (tbl [([], tt)])) K04
theorem K06_ok : LibOk ctxR K06 := atL_ok K04_ok (dataL_ok (tbl_ok (one_ok (runOf_ok ctxOkR K04_ok a06))))
theorem a07 : runOf ctxR K06 1000000 67 [] tt = true := by kernel_rfl
noncomputable def K07 : XCall := atL 67 (dataL (tbl [([], tt)])) K06
theorem K07_ok : LibOk ctxR K07 := atL_ok K06_ok (dataL_ok (tbl_ok (one_ok (runOf_ok ctxOkR K06_ok a07))))
theorem a09 : runOf ctxR K07 1000000 257 [] tt = true := by kernel_rfl
noncomputable def K09 : XCall := atL 257 (dataL (tbl [([], tt)])) K07
theorem K09_ok : LibOk ctxR K09 := atL_ok K07_ok (dataL_ok (tbl_ok (one_ok (runOf_ok ctxOkR K07_ok a09))))
theorem a10 : runOf ctxR K09 1000000 182 [] tt = true := by kernel_rfl
noncomputable def K10 : XCall := atL 182 (dataL (tbl [([], tt)])) K09
theorem K10_ok : LibOk ctxR K10 := atL_ok K09_ok (dataL_ok (tbl_ok (one_ok (runOf_ok ctxOkR K09_ok a10))))
theorem a11 : runOf ctxR K10 1000000 65 [] tt = true := by kernel_rfl
noncomputable def K11 : XCall := atL 65 (dataL (tbl [([], tt)])) K10
theorem K11_ok : LibOk ctxR K11 := atL_ok K10_ok (dataL_ok (tbl_ok (one_ok (runOf_ok ctxOkR K10_ok a11))))
theorem a13 : runOf ctxR K11 1000000 186 [] tt = true := by kernel_rfl
noncomputable def K13 : XCall := atL 186 (dataL (tbl [([], tt)])) K11
theorem K13_ok : LibOk ctxR K13 := atL_ok K11_ok (dataL_ok (tbl_ok (one_ok (runOf_ok ctxOkR K11_ok a13))))
theorem a14 : runOf ctxR K13 1000000 66 [] tt = true := by kernel_rfl
noncomputable def K14 : XCall := atL 66 (dataL (tbl [([], tt)])) K13
theorem K14_ok : LibOk ctxR K14 := atL_ok K13_ok (dataL_ok (tbl_ok (one_ok (runOf_ok ctxOkR K13_ok a14))))
theorem a15 : runOf ctxR K14 1000000 16 [] tt = true := by kernel_rfl
noncomputable def K15 : XCall := atL 16 (dataL (tbl [([], tt)])) K14
theorem K15_ok : LibOk ctxR K15 := atL_ok K14_ok (dataL_ok (tbl_ok (one_ok (runOf_ok ctxOkR K14_ok a15))))
theorem a16 : runOf ctxR K15 1000000 17 [] tt = true := by kernel_rfl
noncomputable def K16 : XCall := atL 17 (dataL (tbl [([], tt)])) K15
theorem K16_ok : LibOk ctxR K16 := atL_ok K15_ok (dataL_ok (tbl_ok (one_ok (runOf_ok ctxOkR K15_ok a16))))
theorem a17 : runOf ctxR K16 1000000 4 [] tt = true := by kernel_rfl
noncomputable def K17 : XCall := atL 4 (dataL (tbl [([], tt)])) K16
theorem K17_ok : LibOk ctxR K17 := atL_ok K16_ok (dataL_ok (tbl_ok (one_ok (runOf_ok ctxOkR K16_ok a17))))
end Go.Abs
