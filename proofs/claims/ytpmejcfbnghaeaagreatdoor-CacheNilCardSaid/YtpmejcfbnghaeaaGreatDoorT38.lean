/- CacheNil: the closed run. -/
import Derived.Test.YtpmejcfbnghaeaaGreatDoorT37
namespace Go.Abs
set_option maxRecDepth 100000
theorem cacheNil_run : runOf ctxR K17 1000000 3 [] tt = true := by kernel_rfl
theorem cacheNil_calls : ACalls ctxR 3 [] [] fun r _ => r.toD = some tt := runOf_ok ctxOkR K17_ok cacheNil_run
end Go.Abs
