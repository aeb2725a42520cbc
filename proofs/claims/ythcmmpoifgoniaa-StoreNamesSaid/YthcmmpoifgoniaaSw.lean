/- A part of the proof. -/
import Derived.Test.YthcmmpoifgoniaaRows
import Derived.Test.YthcmmpoifgoniaaSwB
import Derived.Test.YthcmmpoifgoniaaE33
import Derived.WalkKit
import Derived.ProofKit
import Derived.OpenShut
namespace Go.Proofs.Ythcmmpoifgoniaa
open Go.ChangeShapes Go.WideShapes Go.ChangeAt Go.RowKit Go.Proofs.Eng
set_option linter.unusedVariables false

def gl : Nat → NV := fun g => .p (.v (.pointer (some ⟨g, 0, none⟩)))
def hkA : List (FuncId × Hook) := [(101, ccN 86)]
noncomputable def cfg : Cfg := { P := Try.prog, G := gl, F := fun f => Try.prog.funcs[f]?, hook := hooks hkA, fuel := 10000, cut := fun _ => true }
theorem names_ok : (Try.prog.funcs.toList.all fun fn => !(fn.name == "runtime.NumGoroutine")) = true := by kernel_rfl
theorem hkA_ok : CallOK Try.prog gl (hooks hkA) := hooks_ok fun p hp => by
  simp only [hkA, List.mem_cons, List.not_mem_nil, or_false] at hp
  subst hp
  exact copyCheck_hook (enters Try.func101 (by kernel_rfl) rfl) copyCheck_used copyCheck_fresh
theorem cfg_ok : cfg.OK where
  glob := fun g A => rfl
  mixed := by kernel_rfl
  funcs := fun f fn h => ⟨h, by
    have := List.all_eq_true.1 names_ok fn (List.mem_of_getElem? (by rw [Array.getElem?_toList]; exact h))
    simpa using this⟩
  hook := hkA_ok
def seen (o : Option COut) : Option (Bool × NV × List Nat) := o.map fun o => (o.p, o.v, o.A)
set_option maxRecDepth 1000000

end Go.Proofs.Ythcmmpoifgoniaa
