/- WorldNames, run. -/
import Derived.Test.YthcmmpoifgoniaaSwC
namespace Go.Proofs.Ythcmmpoifgoniaa
open Go.Proofs.Eng
set_option maxRecDepth 1000000
def hkW : List (FuncId × Hook) := [(101, ccN 86), (104, cloneN), (94, sortedN 159 9)]
noncomputable def cfgW : Cfg := { P := Try.prog, G := gl, F := fun f => Try.prog.funcs[f]?, hook := hooks hkW, fuel := 10000, cut := fun _ => true }
theorem hkW_ok : CallOK Try.prog gl (hooks hkW) := hooks_ok fun p hp => by
  simp only [hkW, List.mem_cons, List.not_mem_nil, or_false] at hp
  rcases hp with rfl | rfl | rfl
  · exact copyCheck_hook (enters Try.func101 (by kernel_rfl) rfl) copyCheck_used copyCheck_fresh
  · exact clone_ok
  · exact sorted_ok
theorem cfgW_ok : cfgW.OK where
  glob := fun g A => rfl
  mixed := by kernel_rfl
  funcs := cfg_ok.funcs
  hook := hkW_ok
theorem world_run : ((callK cfgW 40 (.fn 5) [] []).map fun o => (o.p, o.v)) = some (false, bN true) := by kernel_rfl
end Go.Proofs.Ythcmmpoifgoniaa
