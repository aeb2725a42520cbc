/- StoreNames: its hooks, and its parts, run. -/
import Derived.Test.YthcmmpoifgoniaaSwQ
import Derived.Test.YthcmmpoifgoniaaSwM
import Derived.Test.YthcmmpoifgoniaaE37
namespace Go.Proofs.Ythcmmpoifgoniaa
open Go.Proofs.Eng
set_option maxRecDepth 1000000
def manyN : Hook := fun xs H =>
  match xs with
  | [.p (.v (.int .i64 (.ofNat n)))] => if Nat.ble n 100000 then some ⟨false, .p (.v (.string (zeros n))), H, [], []⟩ else none
  | _ => none
theorem many_ok : HookOK Try.prog gl 19 manyN := by
  constructor
  · intro xs H o h W β ys hst hG hr
    unfold manyN at h
    split at h
    · rename_i n
      obtain ⟨y, rfl, hy⟩ := repL_one hr
      split at h
      · rename_i hn
        cases h
        obtain rfl := hy.v_inv
        refine ⟨enters Try.func19 (by kernel_rfl) rfl _ _, (many_walk n W (Nat.le_of_ble_eq_true hn)).mono fun e w' he => ?_⟩
        obtain ⟨rfl, hb⟩ := he
        exact ⟨rfl, β, by rw [maskL_nil]; exact below_step hst hb, .p _ _ (.v _)⟩
      · cases h
    · cases h
  · intro xs H o h hA id hid hlt
    unfold manyN at h
    repeat (split at h <;> try (cases h; done))
    cases h; rfl

def hkS : List (FuncId × Hook) := [(101, ccN 86), (104, cloneN), (94, sortedN 159 9), (72, usedN), (114, eqMN), (19, manyN)]
noncomputable def cfgS : Cfg := { P := Try.prog, G := gl, F := fun f => Try.prog.funcs[f]?, hook := hooks hkS, fuel := 10000, cut := fun _ => true }
theorem hkS_ok : CallOK Try.prog gl (hooks hkS) := hooks_ok fun p hp => by
  simp only [hkS, List.mem_cons, List.not_mem_nil, or_false] at hp
  rcases hp with rfl | rfl | rfl | rfl | rfl | rfl
  · exact copyCheck_hook (enters Try.func101 (by kernel_rfl) rfl) copyCheck_used copyCheck_fresh
  · exact clone_ok
  · exact sorted_ok
  · exact used_ok
  · exact eqM_ok
  · exact many_ok
theorem cfgS_ok : cfgS.OK where
  glob := fun g A => rfl
  mixed := by kernel_rfl
  funcs := cfg_ok.funcs
  hook := hkS_ok

theorem st_works_run : ((callK cfgS 40 (.fn 15) [] []).map fun o => (o.p, o.v)) = some (false, (bN true)) := by kernel_rfl
def st_works : List (List NV × NV) := [([], (bN true))]
theorem st_works_ok : HookOK Try.prog gl 15 (askH st_works) := askH_ok cfgS_ok (fun g => rfl) fun p hp => by
  simp only [st_works, List.mem_cons, List.not_mem_nil, or_false] at hp
  rcases hp with rfl
  · exact ⟨rfl, rfl, found st_works_run⟩

theorem st_faults_run : ((callK cfgS 40 (.fn 23) [] []).map fun o => (o.p, o.v)) = some (false, (bN true)) := by kernel_rfl
def st_faults : List (List NV × NV) := [([], (bN true))]
theorem st_faults_ok : HookOK Try.prog gl 23 (askH st_faults) := askH_ok cfgS_ok (fun g => rfl) fun p hp => by
  simp only [st_faults, List.mem_cons, List.not_mem_nil, or_false] at hp
  rcases hp with rfl
  · exact ⟨rfl, rfl, found st_faults_run⟩

theorem st_rooms_run : ((callK cfgS 40 (.fn 24) [] []).map fun o => (o.p, o.v)) = some (false, (bN true)) := by kernel_rfl
def st_rooms : List (List NV × NV) := [([], (bN true))]
theorem st_rooms_ok : HookOK Try.prog gl 24 (askH st_rooms) := askH_ok cfgS_ok (fun g => rfl) fun p hp => by
  simp only [st_rooms, List.mem_cons, List.not_mem_nil, or_false] at hp
  rcases hp with rfl
  · exact ⟨rfl, rfl, found st_rooms_run⟩

theorem st_refuses_run : ((callK cfgS 40 (.fn 25) [] []).map fun o => (o.p, o.v)) = some (false, (bN true)) := by kernel_rfl
def st_refuses : List (List NV × NV) := [([], (bN true))]
theorem st_refuses_ok : HookOK Try.prog gl 25 (askH st_refuses) := askH_ok cfgS_ok (fun g => rfl) fun p hp => by
  simp only [st_refuses, List.mem_cons, List.not_mem_nil, or_false] at hp
  rcases hp with rfl
  · exact ⟨rfl, rfl, found st_refuses_run⟩

theorem st_nothing_run : ((callK cfgS 40 (.fn 26) [] []).map fun o => (o.p, o.v)) = some (false, (bN true)) := by kernel_rfl
def st_nothing : List (List NV × NV) := [([], (bN true))]
theorem st_nothing_ok : HookOK Try.prog gl 26 (askH st_nothing) := askH_ok cfgS_ok (fun g => rfl) fun p hp => by
  simp only [st_nothing, List.mem_cons, List.not_mem_nil, or_false] at hp
  rcases hp with rfl
  · exact ⟨rfl, rfl, found st_nothing_run⟩

def hkS2 : List (FuncId × Hook) := [(101, ccN 86), (104, cloneN), (94, sortedN 159 9), (72, usedN), (114, eqMN), (19, manyN), (15, askH st_works), (23, askH st_faults), (24, askH st_rooms), (25, askH st_refuses), (26, askH st_nothing)]
noncomputable def cfgS2 : Cfg := { P := Try.prog, G := gl, F := fun f => Try.prog.funcs[f]?, hook := hooks hkS2, fuel := 10000, cut := fun _ => true }
theorem hkS2_ok : CallOK Try.prog gl (hooks hkS2) := hooks_ok fun p hp => by
  simp only [hkS2, List.mem_cons, List.not_mem_nil, or_false] at hp
  rcases hp with rfl | rfl | rfl | rfl | rfl | rfl | rfl | rfl | rfl | rfl | rfl
  · exact copyCheck_hook (enters Try.func101 (by kernel_rfl) rfl) copyCheck_used copyCheck_fresh
  · exact clone_ok
  · exact sorted_ok
  · exact used_ok
  · exact eqM_ok
  · exact many_ok
  · exact st_works_ok
  · exact st_faults_ok
  · exact st_rooms_ok
  · exact st_refuses_ok
  · exact st_nothing_ok
theorem cfgS2_ok : cfgS2.OK where
  glob := fun g A => rfl
  mixed := by kernel_rfl
  funcs := cfg_ok.funcs
  hook := hkS2_ok

end Go.Proofs.Ythcmmpoifgoniaa
