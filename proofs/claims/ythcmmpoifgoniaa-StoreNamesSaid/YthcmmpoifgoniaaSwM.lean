/- many: a string of so many noughts. -/
import Derived.Test.YthcmmpoifgoniaaProg
import Derived.WalkKit
import Derived.Laws.MakeOwn
import Derived.Laws.BytesArg
import Derived.Below
namespace Go.Proofs.Ythcmmpoifgoniaa
open Go.RowKit
set_option linter.unusedVariables false
def zeros (n : Nat) : ByteArray := ⟨⟨List.replicate n 0⟩⟩
theorem zeros_eq (n : Nat) : strOfNums (List.replicate n 0) = zeros n := by
  simp only [strOfNums, zeros]
  rw [List.map_replicate]
  rfl
theorem info5 : (Try.prog.info? 5).map (fun i => (i.zero, i.size, i.bytes)) = some (some (.int .u8 0), 1, 1) := by kernel_rfl
theorem made_get (n i : Nat) (hi : i < n) : (madeCells #[Value.int .u8 0] n)[i]? = some (.int .u8 0) := by
  simp [madeCells, hi, Nat.mod_one]
set_option maxHeartbeats 4000000 in
set_option maxRecDepth 1000000 in
theorem many_walk (n : Nat) (w : World) (hn : n ≤ 100000) : Calls Try.prog 19 #[.int .i64 (n : Int)] w fun e w' => e = .returned (.string (zeros n)) ∧ Below w.heap.size w w' := by
  obtain ⟨i, hi, hi2⟩ := Option.map_eq_some_iff.1 info5
  simp only [Prod.mk.injEq] at hi2
  obtain ⟨hz, hsz, hby⟩ := hi2
  have hmk := run_makeSlice (P := Try.prog) w 83 5 i _ Try.underlying83 hi hz .i64 .i64 n n (by omega) (by omega) (by rw [hsz]; simp; omega) (by rw [hby]; omega) (by omega)
  simp only [Int.toNat_natCast, hsz, Nat.mul_one] at hmk
  have hcv := run_convert_bytes_arg (P := Try.prog) (w.alloc (.cells (madeCells (Value.int .u8 0).cells n) 5)) 83 5 Try.underlying83 Try.underlying5 w.heap.size 0 n n (List.replicate n 0) (by simp) (fun j hj => by
    rw [show (Value.int .u8 0).cells = #[Value.int .u8 0] from rfl, Nat.zero_add]
    rw [World.cell?, show (w.alloc (.cells (madeCells #[Value.int .u8 0] n) 5)).heap[w.heap.size]? = some (.cells (madeCells #[Value.int .u8 0] n) 5) from MapKept.heap_alloc w _ |>.1]
    simp only [made_get n j hj]
    simp [List.getD, hj]) 9 Try.underlying9
  rw [zeros_eq] at hcv
  rw [show (Value.int .u8 0).cells = #[Value.int .u8 0] from rfl] at hmk hcv
  go_enter Try.func19, Try.ntmps19
  go_wp2
  go_ret
  exact ⟨rfl, (Below.refl _ w).alloc (Nat.le_refl _) _⟩
end Go.Proofs.Ythcmmpoifgoniaa
