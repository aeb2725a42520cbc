/- StoreNames, run. -/
import Derived.Test.YthcmmpoifgoniaaSwS
namespace Go.Proofs.Ythcmmpoifgoniaa
open Go.Proofs.Eng
set_option maxRecDepth 1000000
theorem store_run : ((callK cfgS2 40 (.fn 4) [] []).map fun o => (o.p, o.v)) = some (false, bN true) := by kernel_rfl
end Go.Proofs.Ythcmmpoifgoniaa
