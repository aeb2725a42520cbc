/- maps.Equal of two empty maps. -/
import Derived.Test.YthcmmpoifgoniaaSwUH
import Derived.Laws.IdiomRangeMap
namespace Go.Proofs.Ythcmmpoifgoniaa
open Go.RowKit Go.Proofs.Eng
set_option linter.unusedVariables false
theorem len_none (w : World) (b c : Nat) (hb : w.heap[b]? = some (.map #[] c)) (ty : TypeId) : (Builtin.len_ #[102] ty #[.map (some b)]).run Try.prog w = .ok (.int .i64 0) w := by
  simp [Builtin.len_, run_underlying Try.underlying102, MapKept.run_getObj_map hb, goInt, Result.andThen]
theorem next_none (w : World) (ty : TypeId) (b c : Nat) (hb : w.heap[b]? = some (.map #[] c)) :
    (Instr.next (.pointer (some ⟨w.heap.size, 0, none⟩)) false ty).run Try.prog (w.alloc (.mapIter (some b) c #[] c)) = .ok (.tuple #[.bool false]) (w.alloc (.mapIter (some b) c #[] c)) := by
  rcases run_next_map (P := Try.prog) w ty b c c #[] #[] c hb (fun x hx => by simp at hx) (Nat.le_refl _) with ⟨_, h⟩ | ⟨e, he, _⟩
  · exact h
  · exact absurd (mem_left he).1 (by simp)
set_option maxHeartbeats 4000000 in
set_option maxRecDepth 1000000 in
theorem equal_walk (b1 b2 c1 c2 : Nat) (w : World) (h1 : w.heap[b1]? = some (.map #[] c1)) (h2 : w.heap[b2]? = some (.map #[] c2)) :
    Calls Try.prog 114 #[.map (some b1), .map (some b2)] w fun e w' => e = .returned (.bool true) ∧ Below w.heap.size w w' := by
  have hrg := run_range_map (P := Try.prog) w 102 9 9 b1 #[] c1 Try.underlying102 h1
  have hnx : ∀ ty, (Instr.next (.pointer (some ⟨w.heap.size, 0, none⟩)) false ty).run Try.prog (w.alloc (.mapIter (some b1) c1 #[] c1)) = _ := fun ty => next_none w ty b1 c1 h1
  have hl1 := fun ty => len_none w b1 c1 h1 ty
  have hl2 := fun ty => len_none w b2 c2 h2 ty
  go_enter Try.func114, Try.ntmps114
  go_wp2
  refine wp_loop_rounds 1 ?_
  rw [rounds_succ]
  go_wp2
  go_ret
  exact ⟨rfl, (Below.refl _ w).alloc (Nat.le_refl _) _⟩
def eqMN : Hook := fun xs H =>
  match xs with
  | [.map a, .map b] => match H[a]?, H[b]? with
    | some (.map []), some (.map []) => some ⟨false, bN true, H, [], []⟩
    | _, _ => none
  | _ => none
theorem repL_two {hp : Heap} {imm : Nat → Prop} {β : Beta} {H : NH} {x x' : NV} {ys : Array Value} (h : RepL hp imm β H [x, x'] ys.toList) : ∃ y y', ys = #[y, y'] ∧ Rep hp imm β H x y ∧ Rep hp imm β H x' y' := by
  obtain ⟨ys⟩ := ys
  match ys, h with
  | [y, y'], h => exact ⟨y, y', rfl, h.2 0 x y rfl rfl, h.2 1 x' y' rfl rfl⟩
  | [], h => exact absurd h.1 (by simp)
  | [_], h => exact absurd h.1 (by simp)
  | _ :: _ :: _ :: _, h => exact absurd h.1 (by simp)
theorem eqM_ok : HookOK Try.prog gl 114 eqMN := by
  constructor
  · intro xs H o h W β ys hst hG hr
    unfold eqMN at h
    split at h
    · rename_i a b
      obtain ⟨y, y', rfl, hy, hy'⟩ := repL_two hr
      split at h
      · rename_i ha hb
        cases h
        cases hy with
        | map _ l hid hl =>
          cases hy' with
          | map _ l' hid' hl' =>
            obtain ⟨me, clock, m1, m2, _⟩ := (hst.obj a _ ha).at hl
            obtain ⟨me', clock', m1', m2', _⟩ := (hst.obj b _ hb).at hl'
            have e1 : me = #[] := Array.eq_empty_of_size_eq_zero (by simpa using m2)
            have e2 : me' = #[] := Array.eq_empty_of_size_eq_zero (by simpa using m2')
            subst e1; subst e2
            refine ⟨enters Try.func114 (by kernel_rfl) rfl _ _, (equal_walk l.b l'.b clock clock' W m1 m1').mono fun e w' he => ?_⟩
            obtain ⟨rfl, hb⟩ := he
            exact ⟨rfl, β, by rw [maskL_nil]; exact below_step hst hb, .p _ _ (.v _)⟩
      · cases h
    · cases h
  · intro xs H o h hA id hid hlt
    unfold eqMN at h
    repeat (split at h <;> try (cases h; done))
    cases h; rfl
end Go.Proofs.Ythcmmpoifgoniaa
