/- A part of the proof. -/
import Derived.Test.YthcmmpoifgoniaaSwBad
import Derived.Test.YthcmmpoifgoniaaE37
namespace Go.Proofs.Ythcmmpoifgoniaa
open Go.Proofs.Eng
set_option maxRecDepth 1000000
def intN (i : Int) : NV := .p (.v (.int .i64 i))
def strN (s : ByteArray) : NV := .p (.v (.string s))
def byteN (i : Int) : NV := .p (.v (.int .u8 i))
def nilN : NV := .p (.v (.slice none 0 0))
def badV : NV := .tup [.agg [intN 0, intN 0, intN 0, nilN, nilN, nilN], intN 4]
def d_r : ByteArray := ⟨#[114, 114, 114, 114, 114, 114, 114, 114, 114, 114, 114, 114, 114, 114, 114, 114, 114, 114, 114, 114, 114, 114, 114, 114, 114, 114, 114, 114, 114, 114, 114, 114]⟩
def d_q : ByteArray := ⟨#[113, 113, 113, 113, 113, 113, 113, 113, 113, 113, 113, 113, 113, 113, 113, 113, 113, 113, 113, 113, 113, 113, 113, 113, 113, 113, 113, 113, 113, 113, 113, 113]⟩
def d_a : ByteArray := ⟨#[97, 97, 97, 97, 97, 97, 97, 97, 97, 97, 97, 97, 97, 97, 97, 97, 97, 97, 97, 97, 97, 97, 97, 97, 97, 97, 97, 97, 97, 97, 97, 97]⟩
def d_b : ByteArray := ⟨#[98, 98, 98, 98, 98, 98, 98, 98, 98, 98, 98, 98, 98, 98, 98, 98, 98, 98, 98, 98, 98, 98, 98, 98, 98, 98, 98, 98, 98, 98, 98, 98]⟩
def d_p : ByteArray := ⟨#[112, 112, 112, 112, 112, 112, 112, 112, 112, 112, 112, 112, 112, 112, 112, 112, 112, 112, 112, 112, 112, 112, 112, 112, 112, 112, 112, 112, 112, 112, 112, 112]⟩
theorem d_r_run : ((callK cfg 40 (.fn 9) [byteN 114] []).map fun o => (o.p, o.v)) = some (false, (strN d_r)) := by kernel_rfl
theorem d_q_run : ((callK cfg 40 (.fn 9) [byteN 113] []).map fun o => (o.p, o.v)) = some (false, (strN d_q)) := by kernel_rfl
theorem d_a_run : ((callK cfg 40 (.fn 9) [byteN 97] []).map fun o => (o.p, o.v)) = some (false, (strN d_a)) := by kernel_rfl
theorem d_b_run : ((callK cfg 40 (.fn 9) [byteN 98] []).map fun o => (o.p, o.v)) = some (false, (strN d_b)) := by kernel_rfl
theorem d_p_run : ((callK cfg 40 (.fn 9) [byteN 112] []).map fun o => (o.p, o.v)) = some (false, (strN d_p)) := by kernel_rfl
def ds : List (List NV × NV) := [([byteN 114], (strN d_r)), ([byteN 113], (strN d_q)), ([byteN 97], (strN d_a)), ([byteN 98], (strN d_b)), ([byteN 112], (strN d_p))]
theorem ds_ok : HookOK Try.prog gl 9 (askH ds) := askH_ok cfg_ok (fun g => rfl) fun p hp => by
  simp only [ds, List.mem_cons, List.not_mem_nil, or_false] at hp
  rcases hp with rfl | rfl | rfl | rfl | rfl
  · exact ⟨rfl, rfl, found d_r_run⟩
  · exact ⟨rfl, rfl, found d_q_run⟩
  · exact ⟨rfl, rfl, found d_a_run⟩
  · exact ⟨rfl, rfl, found d_b_run⟩
  · exact ⟨rfl, rfl, found d_p_run⟩

def hkD : List (FuncId × Hook) := [(101, ccN 86), (9, askH ds)]
noncomputable def cfgD : Cfg := { P := Try.prog, G := gl, F := fun f => Try.prog.funcs[f]?, hook := hooks hkD, fuel := 10000, cut := fun _ => true }
theorem hkD_ok : CallOK Try.prog gl (hooks hkD) := hooks_ok fun p hp => by
  simp only [hkD, List.mem_cons, List.not_mem_nil, or_false] at hp
  rcases hp with rfl | rfl
  · exact copyCheck_hook (enters Try.func101 (by kernel_rfl) rfl) copyCheck_used copyCheck_fresh
  · exact ds_ok
theorem cfgD_ok : cfgD.OK where
  glob := fun g A => rfl
  mixed := by kernel_rfl
  funcs := cfg_ok.funcs
  hook := hkD_ok

theorem works_run : ((callK cfgD 40 (.fn 7) [] []).map fun o => (o.p, o.v)) = some (false, (bN true)) := by kernel_rfl
def wk : List (List NV × NV) := [([], (bN true))]
theorem wk_ok : HookOK Try.prog gl 7 (askH wk) := askH_ok cfgD_ok (fun g => rfl) fun p hp => by
  simp only [wk, List.mem_cons, List.not_mem_nil, or_false] at hp
  rcases hp with rfl
  · exact ⟨rfl, rfl, found works_run⟩

theorem bad0_run : ((callK cfg 40 (.fn 11) [strN bad0] []).map fun o => (o.p, o.v)) = some (false, badV) := by kernel_rfl
theorem bad1_run : ((callK cfg 40 (.fn 11) [strN bad1] []).map fun o => (o.p, o.v)) = some (false, badV) := by kernel_rfl
theorem bad2_run : ((callK cfg 40 (.fn 11) [strN bad2] []).map fun o => (o.p, o.v)) = some (false, badV) := by kernel_rfl
theorem bad3_run : ((callK cfg 40 (.fn 11) [strN bad3] []).map fun o => (o.p, o.v)) = some (false, badV) := by kernel_rfl
theorem bad4_run : ((callK cfg 40 (.fn 11) [strN bad4] []).map fun o => (o.p, o.v)) = some (false, badV) := by kernel_rfl
theorem bad5_run : ((callK cfg 40 (.fn 11) [strN bad5] []).map fun o => (o.p, o.v)) = some (false, badV) := by kernel_rfl
theorem bad6_run : ((callK cfg 40 (.fn 11) [strN bad6] []).map fun o => (o.p, o.v)) = some (false, badV) := by kernel_rfl
theorem bad7_run : ((callK cfg 40 (.fn 11) [strN bad7] []).map fun o => (o.p, o.v)) = some (false, badV) := by kernel_rfl
theorem bad8_run : ((callK cfg 40 (.fn 11) [strN bad8] []).map fun o => (o.p, o.v)) = some (false, badV) := by kernel_rfl
theorem bad9_run : ((callK cfg 40 (.fn 11) [strN bad9] []).map fun o => (o.p, o.v)) = some (false, badV) := by kernel_rfl
theorem bad10_run : ((callK cfg 40 (.fn 11) [strN bad10] []).map fun o => (o.p, o.v)) = some (false, badV) := by kernel_rfl
theorem bad11_run : ((callK cfg 40 (.fn 11) [strN bad11] []).map fun o => (o.p, o.v)) = some (false, badV) := by kernel_rfl
def bads : List (List NV × NV) := [([strN bad0], badV), ([strN bad1], badV), ([strN bad2], badV), ([strN bad3], badV), ([strN bad4], badV), ([strN bad5], badV), ([strN bad6], badV), ([strN bad7], badV), ([strN bad8], badV), ([strN bad9], badV), ([strN bad10], badV), ([strN bad11], badV)]
theorem bads_ok : HookOK Try.prog gl 11 (askH bads) := askH_ok cfg_ok (fun g => rfl) fun p hp => by
  simp only [bads, List.mem_cons, List.not_mem_nil, or_false] at hp
  rcases hp with rfl | rfl | rfl | rfl | rfl | rfl | rfl | rfl | rfl | rfl | rfl | rfl
  · exact ⟨rfl, rfl, found bad0_run⟩
  · exact ⟨rfl, rfl, found bad1_run⟩
  · exact ⟨rfl, rfl, found bad2_run⟩
  · exact ⟨rfl, rfl, found bad3_run⟩
  · exact ⟨rfl, rfl, found bad4_run⟩
  · exact ⟨rfl, rfl, found bad5_run⟩
  · exact ⟨rfl, rfl, found bad6_run⟩
  · exact ⟨rfl, rfl, found bad7_run⟩
  · exact ⟨rfl, rfl, found bad8_run⟩
  · exact ⟨rfl, rfl, found bad9_run⟩
  · exact ⟨rfl, rfl, found bad10_run⟩
  · exact ⟨rfl, rfl, found bad11_run⟩

def hkR : List (FuncId × Hook) := [(101, ccN 86), (9, askH ds), (7, askH wk), (11, askH bads)]
noncomputable def cfgR : Cfg := { P := Try.prog, G := gl, F := fun f => Try.prog.funcs[f]?, hook := hooks hkR, fuel := 10000, cut := fun _ => true }
theorem hkR_ok : CallOK Try.prog gl (hooks hkR) := hooks_ok fun p hp => by
  simp only [hkR, List.mem_cons, List.not_mem_nil, or_false] at hp
  rcases hp with rfl | rfl | rfl | rfl
  · exact copyCheck_hook (enters Try.func101 (by kernel_rfl) rfl) copyCheck_used copyCheck_fresh
  · exact ds_ok
  · exact wk_ok
  · exact bads_ok
theorem cfgR_ok : cfgR.OK where
  glob := fun g A => rfl
  mixed := by kernel_rfl
  funcs := cfg_ok.funcs
  hook := hkR_ok

end Go.Proofs.Ythcmmpoifgoniaa
