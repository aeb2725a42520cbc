/- A part of the proof. -/
import Derived.Test.YthcmmpoifgoniaaSwZ
import Derived.Test.YthcmmpoifgoniaaSw
import Derived.Test.YthcmmpoifgoniaaE39
namespace Go.Proofs.Ythcmmpoifgoniaa
open Go.WideShapes Go.RowKit Go.Maps Go.Sort Go.Shelf Go.Proofs.Eng

theorem clone_ok : HookOK Try.prog gl 104 cloneN := clone_hook (enters Try.func104 (by kernel_rfl) rfl) (fun b es clock w hb => AnyW.maps_Clone clone104 b es clock w hb) (fun w => AnyW.maps_Clone_nil clone104 w)

theorem sorts94 (m : Nat) : AnyZ.SortsIn Try.prog sorted94_ren Fence.wide m :=
  ⟨fun blk off cap ss W hH hblk hsz => callsIn_wide.2 (AnyM.slices_Sort_string sort130 blk off cap ss W hH hblk hsz),
   fun p cap W => callsIn_wide.2 (AnyM.slices_Sort_string_none sort130 p cap W)⟩
def anyR : Value → Option (DataW Unit × List MemPlace) := fun _ => some (.nil, [])
theorem key9 {s : ByteArray} (h : s.size ≤ 1000) : keyOf Try.prog 9 (.string s) = some (.string s.data.toList) := by
  have hs : s.size ≤ maxLen := Nat.le_trans h (by decide)
  simp [keyOf, Try.underlying9, mapKey, hs]
theorem owns_of {es : Array MapEntry} {clock : Nat} {ks : List ByteArray} {b : Nat} {W : World} (hb : W.heap[b]? = some (.map es clock)) (hst : MapKept.Stamped es clock) (hk : es.toList.map (·.key) = ks.map .string)
    (hs : ∀ s ∈ ks, s.size ≤ 1000) (hl : ks.length ≤ 1000) : ∃ D0 : DataW Unit, W.ownsMap Try.prog 9 anyR b es.size D0 ∧ Maps.size D0 ≤ 1000 ∧ (strKeys D0).Perm (ks.map (·.data.toList)) := by
  have hmem : ∀ x ∈ es.toList, ∃ s ∈ ks, x.key = .string s := fun x hx => by
    have : x.key ∈ es.toList.map (·.key) := List.mem_map.2 ⟨x, hx, rfl⟩
    rw [hk] at this
    obtain ⟨s, h1, h2⟩ := List.mem_map.1 this
    exact ⟨s, h1, h2.symm⟩
  have hrd : ∀ x ∈ es.toList, ∀ s ∈ ks, x.key = .string s → WideElems.rd Try.prog 9 anyR x = some (.string s.data.toList, .nil) := fun x hx s hsk e => by
    simp only [WideElems.rd, e, key9 (hs s hsk), Option.bind_some, anyR, Option.map_some]
  have hn : es.size ≤ 1000 := by
    have : (es.toList.map (·.key)).length = (ks.map Value.string).length := by rw [hk]
    simp only [List.length_map, Array.length_toList] at this
    omega
  refine ⟨_, ⟨es, clock, hb, ⟨Nat.le_trans hn (by decide), hst, fun x hx => ?_⟩, Nat.le_refl _, rfl⟩, ?_, ?_⟩
  · obtain ⟨s, h1, h2⟩ := hmem x hx
    exact ⟨_, hrd x hx s h1 h2⟩
  · simp only [Maps.size]
    rw [(sorted_perm _).length_eq]
    simpa using hn
  · simp only [strKeys]
    refine ((sorted_perm _).map _).trans (.of_eq ?_)
    have h2 : (es.toList.map (·.key)).map (fun v => match v with | .string s => s.data.toList | _ => []) = (ks.map Value.string).map (fun v => match v with | .string s => s.data.toList | _ => []) := by rw [hk]
    simp only [List.map_map] at h2 ⊢
    refine Eq.trans (List.map_congr_left fun x hx => ?_) (h2.trans (List.map_congr_left fun s _ => rfl))
    obtain ⟨s, h1, h3⟩ := hmem x hx
    simp only [Function.comp, WideElems.rg, hrd x hx s h1 h3, h3]
    rfl
theorem sortsKeys159 : SortsKeys Try.prog 94 159 9 := by
  intro Bm b es clock ks W hm hb hst hk hs hl
  obtain ⟨D0, hown, hsz, hperm⟩ := owns_of hb hst hk hs hl
  have hBm : Bm < W.heap.size := by
    rw [cell?_eq, cellAt] at hm
    split at hm
    · rename_i h; exact (Array.getElem?_eq_some_iff.1 h).1
    · cases hm
  have hseq : SeqGives Fence.wide 2 Try.prog 159 #[.pointer (some ⟨Bm, 0, none⟩)] encStr (fun ss => ss.Perm (strKeys D0)) (Maps.size D0) W :=
    AnyZ.keys_gives (ρ := keys139_ren) { keys139 with } Fence.wide _ trivial rfl (by omega) Bm b _ D0 W hBm hm hown
  refine (callsIn_wide.1 (AnyZ.sorted_in sorted94 Fence.wide 5 trivial trivial trivial trivial rfl (by omega) (sorts94 _) (enters_of Try.func130 (by kernel_rfl) rfl) 159 #[.pointer (some ⟨Bm, 0, none⟩)] trivial (enters_of Try.func159 (by kernel_rfl) rfl) _ _ (Nat.le_trans hsz (by decide)) (by omega) W hseq)).mono ?_
  rintro e w' ⟨v, ss, rfl, hS, hrow, hnil, hbel⟩
  exact ⟨v, ss, rfl, hS.trans hperm, hrow, fun h => hnil.2 h, hbel⟩
theorem sorted_ok : HookOK Try.prog gl 94 (sortedN 159 9) := sorted_hook (enters Try.func94 (by kernel_rfl) rfl) sortsKeys159
end Go.Proofs.Ythcmmpoifgoniaa
