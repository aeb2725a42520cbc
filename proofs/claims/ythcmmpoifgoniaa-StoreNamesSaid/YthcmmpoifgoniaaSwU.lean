/- Store.used: the sum of the lengths of all that has a part of the room. -/
import Derived.Test.YthcmmpoifgoniaaProg
import Derived.WalkKit
import Derived.Maps.RangeRun
import Derived.Laws.IdiomRangeMap
import Derived.LoopTactic
import Derived.Below
namespace Go.Proofs.Ythcmmpoifgoniaa
open Go.RowKit Go.ChangeMaps
set_option linter.unusedVariables false

def bareB (s : ByteArray) : Bool := s.toList == [109, 48] || s.toList == [109, 49]
theorem bare_walk (s : ByteArray) (w : World) : Calls Try.prog 71 #[.string s] w fun e w' => e = .returned (.bool (bareB s)) ∧ w' = w := by
  go_enter Try.func71, Try.ntmps71
  go_wp2
  · go_ret
    rename_i h
    exact ⟨by simp [bareB, h], rfl⟩
  · go_ret
    exact ⟨rfl, rfl⟩
def costE (x : MapEntry) : Nat :=
  match x.key, x.val with
  | .string k, .string d => if bareB k then 0 else d.size
  | _, _ => 0
def costI (x : MapEntry) : MapEntry := { x with val := .int .i64 (costE x) }
theorem born_costI (es : List MapEntry) : (es.map costI).map (·.born) = es.map (·.born) := by rw [List.map_map]; rfl
def leftAt (es : Array MapEntry) (r : Nat) (w : World) : Nat :=
  match w.heap[r]? with
  | some (.mapIter _ _ seen _) => (leftOf es seen).size
  | _ => 0
theorem seenSum_le (seen : Array Nat) : ∀ (l : List MapEntry), 0 ≤ seenSum (l.map costI) seen ∧ seenSum (l.map costI) seen ≤ ((l.map costE).sum : Nat)
  | [] => by simp [seenSum]
  | x :: l => by
    have ih := seenSum_le seen l
    simp only [List.map_cons, seenSum, List.sum_cons]
    have : valOf (costI x).val = (costE x : Int) := rfl
    split <;> omega
theorem seenSum_end (seen : Array Nat) (l : List MapEntry) (h : ∀ x ∈ l, seen.contains x.born = true) : seenSum (l.map costI) seen = ((l.map costE).sum : Nat) := by
  rw [seenSum_full seen _ (fun x hx => by obtain ⟨y, hy, rfl⟩ := List.mem_map.1 hx; exact h y hy), List.map_map]
  clear h
  induction l with
  | nil => rfl
  | cons x l ih =>
    simp only [List.map_cons, List.sum_cons, ih]
    have : valOf (costI x).val = (costE x : Int) := rfl
    simp only [Function.comp, this]
    omega
structure UsedAt (w : World) (bm : Nat) (es : Array MapEntry) (clock : Nat) (seen : Array Nat) (wr : World) : Prop where
  iter : wr.heap[w.heap.size]? = some (.mapIter (some bm) clock seen clock)
  map : wr.heap[bm]? = some (.map es clock)
  below : Below w.heap.size w wr
theorem UsedAt.step {w w1 wr : World} {bm : Nat} {es : Array MapEntry} {clock : Nat} {seen : Array Nat} (h : UsedAt w bm es clock seen wr) (hlt : bm < w.heap.size) (h1 : w1 = wr ∨ w1 = wr.drew) (b : Nat) :
    UsedAt w bm es clock (seen.push b) (setBlock w1 w.heap.size (.mapIter (some bm) clock (seen.push b) clock)) := by
  have hh : w1.heap = wr.heap := by rcases h1 with rfl | rfl <;> rfl
  have ho : w1.os = wr.os := by rcases h1 with rfl | rfl <;> rfl
  have ht : w1.tape = wr.tape := by rcases h1 with rfl | rfl <;> rfl
  have hp : w1.output = wr.output := by rcases h1 with rfl | rfl <;> rfl
  have hr : w1.heap[w.heap.size]? = some (.mapIter (some bm) clock seen clock) := by rw [hh]; exact h.iter
  have hs := MapKept.heap_set (o' := .mapIter (some bm) clock (seen.push b) clock) hr
  refine ⟨hs.1, (hs.2 bm (by omega)).trans (by rw [hh]; exact h.map), ⟨ho.trans h.below.os, ht.trans h.below.tape, hp.trans h.below.output, ?_, fun k hk => (hs.2 k (by omega)).trans (by rw [hh]; exact h.below.block k hk)⟩⟩
  have : (setBlock w1 w.heap.size (.mapIter (some bm) clock (seen.push b) clock)).heap.size = w1.heap.size := by simp [setBlock]
  rw [this, hh]; exact h.below.size

theorem used_less {w wr wr' : World} {bm : Nat} {es : Array MapEntry} {clock : Nat} {seen : Array Nat} {e : MapEntry} (h : UsedAt w bm es clock seen wr) (h' : UsedAt w bm es clock (seen.push e.born) wr') (he : e ∈ (leftOf es seen).toList) :
    leftAt es w.heap.size wr' < leftAt es w.heap.size wr := by
  simp only [leftAt, h.iter, h'.iter]
  exact left_shrinks es seen e he
theorem used_sum0 {es : Array MapEntry} {clock : Nat} {seen : Array Nat} {e : MapEntry} (hst : MapKept.Stamped es clock) (he : e ∈ es.toList) (hs : seen.contains e.born = false) :
    seenSum (es.toList.map costI) (seen.push e.born) = seenSum (es.toList.map costI) seen + (costE e : Int) := by
  have := seenSum_push seen (costI e) hs (es.toList.map costI) (by rw [born_costI]; exact hst.2.1) (List.mem_map.2 ⟨e, he, rfl⟩)
  exact this
theorem used_sum {es : Array MapEntry} {clock : Nat} {seen : Array Nat} {e : MapEntry} {k d : ByteArray} {b : Bool} (hst : MapKept.Stamped es clock) (he : e ∈ es.toList) (hs : seen.contains e.born = false)
    (hk : e.key = .string k) (hd : e.val = .string d) (hb : (!bareB k) = b) (ht : (es.toList.map costE).sum ≤ 1000000000) :
    Value.int .i64 (if b then wrap64 (seenSum (es.toList.map costI) seen + (d.size : Int)) else seenSum (es.toList.map costI) seen) = Value.int .i64 (seenSum (es.toList.map costI) (seen.push e.born)) := by
  have h1 := seenSum_le seen es.toList
  have h2 := seenSum_le (seen.push e.born) es.toList
  rw [used_sum0 hst he hs] at h2 ⊢
  have hc : costE e = if bareB k then 0 else d.size := by simp only [costE, hk, hd]
  cases hbb : bareB k
  · rw [hbb] at hb hc
    subst hb
    simp only [Bool.not_false, if_true, Bool.false_eq_true, if_false] at hc ⊢
    rw [hc] at h2 ⊢
    congr 1
    simp only [wrap64]
    omega
  · rw [hbb] at hb hc
    subst hb
    simp only [Bool.not_true, if_true, Bool.false_eq_true, if_false] at hc ⊢
    rw [hc]
    simp
set_option maxHeartbeats 4000000 in
set_option maxRecDepth 1000000 in
theorem used_walk (s bm : Nat) (es : Array MapEntry) (clock : Nat) (w : World) (hc : w.cell? ⟨s, 2, none⟩ = some (.map (some bm))) (hb : w.heap[bm]? = some (.map es clock)) (hst : MapKept.Stamped es clock)
    (hv : ∀ x ∈ es.toList, ∃ k d, x.key = .string k ∧ x.val = .string d) (ht : (es.toList.map costE).sum ≤ 1000000000) :
    Calls Try.prog 72 #[.pointer (some ⟨s, 0, none⟩)] w fun e w' => e = .returned (.int .i64 ((es.toList.map costE).sum : Nat)) ∧ Below w.heap.size w w' := by
  have hlt : bm < w.heap.size := (Array.getElem?_eq_some_iff.1 hb).1
  have hrg := run_range_map (P := Try.prog) w 102 9 9 bm es clock Try.underlying102 hb
  go_enter Try.func72, Try.ntmps72
  go_wp2
  go_loopw [3] (fun s wr => ∃ seen : Array Nat, UsedAt w bm es clock seen wr ∧ s = .int .i64 (seenSum (es.toList.map costI) seen)) (fun _ wr => leftAt es w.heap.size wr)
  case atStart =>
    refine ⟨#[], ⟨heap_alloc_new w _, by rw [heap_alloc_old w _ hlt]; exact hb, ⟨rfl, rfl, rfl, by show w.heap.size ≤ (w.heap.push _).size; rw [Array.size_push]; omega, fun k hk => heap_alloc_old w _ hk⟩⟩, by rw [seenSum_none]⟩
  case round =>
    obtain ⟨seen, hu, rfl⟩ := hrel
    have law := run_next_at (P := Try.prog) wr 0 w.heap.size bm clock clock seen es clock hu.iter hu.map hst.1 (Nat.le_refl _)
    rcases law with ⟨h0, hrun⟩ | ⟨e, he, w1, hal, hrun⟩
    · have hnx : ∀ ty, (Instr.next (.pointer (some ⟨w.heap.size, 0, none⟩)) false ty).run Try.prog wr = _ := fun _ => hrun
      go_wp2
      go_ret
      rw [seenSum_end seen _ (all_seen es seen h0)]
      exact ⟨rfl, hu.below⟩
    · obtain ⟨k, d, hk, hd⟩ := hv e (mem_left he).1
      rw [hk, hd] at hrun
      have hnx : ∀ ty, (Instr.next (.pointer (some ⟨w.heap.size, 0, none⟩)) false ty).run Try.prog wr = _ := fun _ => hrun
      have hu2 := hu.step hlt hal e.born
      have hen := run_entry_at (P := Try.prog) _ w.heap.size bm clock seen es clock e hu2.iter hu2.map (mem_left he).1 hst.2.1
      rw [hk, hd] at hen
      go_wp2_with (go_at_call 71; refine (bare_walk k _).mono ?_; rintro e w' ⟨rfl, rfl⟩)
      all_goals refine ⟨⟨seen.push e.born, hu2, ?_⟩, ?_⟩
      all_goals first
        | exact used_less hu hu2 he
        | (rename_i hbare; exact used_sum hst (mem_left he).1 (mem_left he).2 hk hd hbare ht)
end Go.Proofs.Ythcmmpoifgoniaa
