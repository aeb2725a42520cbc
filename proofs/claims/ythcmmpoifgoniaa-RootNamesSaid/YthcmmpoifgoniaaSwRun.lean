/- A part of the proof. -/
import Derived.Test.YthcmmpoifgoniaaSwR
namespace Go.Proofs.Ythcmmpoifgoniaa
open Go.Proofs.Eng
set_option maxRecDepth 1000000
theorem root_run : ((callK cfgR 40 (.fn 3) [] []).map fun o => (o.p, o.v)) = some (false, bN true) := by kernel_rfl
end Go.Proofs.Ythcmmpoifgoniaa
