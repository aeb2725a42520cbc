/- The engine, part 32: a run from nothing, as a contract. -/
import Derived.Test.YthcmmpoifgoniaaE31
import Derived.Below
import Derived.ChangeSame
import Derived.RowKit3
set_option linter.unusedVariables false
set_option linter.unusedSimpArgs false
namespace Go.Proofs.Eng

theorem below_of_step {β β' : Beta} {H' : NH} {W W' : World} {A : Nat → Bool} (h : Step β [] W β' H' W' A) : RowKit.Below W.heap.size W W' :=
  ⟨h.same.os, h.same.tape, h.same.output, h.good.ext.size, fun k hk => (h.good.ext.imm k ⟨hk, fun ⟨id, o, l, h1, _⟩ => by simp at h1⟩).2⟩

/-- A run that begins with no object. -/
theorem closed_run {C : Cfg} (hC : C.OK) {d : Nat} {f : FuncId} {b : Bool} {H : NH} {A T : List Nat} (h : callN C d (.fn f) [] [] = some ⟨false, bN b, H, A, T⟩) (W : World)
    (hG : RepG W.heap (Imm W.heap (fun _ => none) []) (fun _ => none) [] C.G) :
    Calls C.P f #[] W fun e W' => e = .returned (.bool b) ∧ RowKit.Below W.heap.size W W' := by
  have hst : St W.heap (fun _ => none) [] := ⟨fun id o ho => by simp at ho, fun id id' o o' ho => by simp at ho⟩
  obtain ⟨_, h2⟩ := (callN_ok hC d).gives f [] [] _ h W (fun _ => none) #[] hst hG ⟨rfl, fun i x y hx => by simp at hx⟩
  refine h2.mono fun e w he => ?_
  cases e with
  | returned v =>
    obtain ⟨_, β', k1, k2⟩ := he
    obtain rfl := k2.v_inv
    exact ⟨rfl, below_of_step k1⟩
  | panicked c => exact absurd he.1 (by simp)
  | outgrown => exact he.elim
end Go.Proofs.Eng
