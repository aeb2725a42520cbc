/- The engine, part 22u: bytes told as a string without a copy. -/
import Derived.Test.YthcmmpoifgoniaaE22
import Derived.Lib.UnsafeStr
set_option linter.unusedVariables false
set_option linter.unusedSimpArgs false
namespace Go.Proofs.Eng

/-- Bytes, each within its bounds. -/
def isByteR (x : List VV) : Bool :=
  match x with
  | [.v (.int .u8 q)] => decide (0 ≤ q) && decide (q < 256)
  | _ => false
def allBytesR (n : Nat) (get : Nat → List VV) : Bool := (List.range n).all fun i => isByteR (get i)
theorem allBytesR_at {n : Nat} {get : Nat → List VV} (h : allBytesR n get = true) (i : Nat) (hi : i < n) : ∃ m : Int, get i = [.v (.int .u8 m)] ∧ 0 ≤ m ∧ m < 256 := by
  have := List.all_eq_true.1 h i (List.mem_range.2 hi)
  unfold isByteR at this
  split at this
  · rename_i m he
    rw [Bool.and_eq_true, decide_eq_true_eq, decide_eq_true_eq] at this
    exact ⟨m, he, this⟩
  · cases this
/-- A string over the first bytes of a row; nobody writes to them any more. -/
def unsafeStrN (P : Program) (H : NH) (ts : Array TypeId) (x k : NV) : Option (NV × NH) :=
  match x, k with
  | .p (.v (.pointer none)), .p (.v (.int .i64 m)) =>
    match ts.toList with
    | [pt, it] => if m = 0 then some (vN (.string ⟨#[]⟩), H) else none
    | _ => none
  | .pe id 0 0, .p (.v (.int .i64 m)) =>
    match H[id]?, ts.toList with
    | some (.prow T true 1 n get), [pt, it] =>
      match P.underlying pt with
      | some (.pointer e) =>
        if 0 < m ∧ m ≤ n ∧ m ≤ 9223372036854775807 ∧ e = T ∧ P.cellsOf T = 1 ∧ allBytesR m.toNat get = true then
          some (vN (.string (strOf m.toNat get)), H.set id (.prow T false 1 n get))
        else none
      | _ => none
    | _, _ => none
  | _, _ => none

section
variable {β : Beta} {H : NH} {P : Program} {W : World}

/-- A row that nobody writes to any more, its cells marked. -/
theorem Step.sealUp {id sz n : Nat} {T E : TypeId} {get : Nat → List VV} {l : Loc} {c : Array Value} {fr fr' : Nat × Nat} (hst : St W.heap β H) (hid : H[id]? = some (.prow T true sz n get)) (hl : β id = some l)
    (hb : W.heap[l.b]? = some (.cells c E fr)) : Step β H W β (H.set id (.prow T false sz n get)) (atHeap W (W.heap.setIfInBounds l.b (.cells c E fr'))) none? := by
  have hlen := (List.getElem?_eq_some_iff.1 hid).1
  have hbl := (Array.getElem?_eq_some_iff.1 hb).1
  have hown : Own β H l.b := ⟨id, _, l, hid, rfl, hl, rfl⟩
  have hget : ∀ (i : Nat) (x : NO), (H.set id (.prow T false sz n get))[i]? = some x → (i = id ∧ x = .prow T false sz n get) ∨ (i ≠ id ∧ H[i]? = some x) := by
    intro i x hx
    by_cases hi : i = id
    · subst hi; rw [List.getElem?_set_self hlen] at hx; injection hx with hx; exact .inl ⟨rfl, hx.symm⟩
    · rw [List.getElem?_set_ne (Ne.symm hi)] at hx; exact .inr ⟨hi, hx⟩
  have himm : ∀ b, Imm W.heap β H b → Imm (W.heap.setIfInBounds l.b (.cells c E fr')) β (H.set id (.prow T false sz n get)) b ∧ (W.heap.setIfInBounds l.b (.cells c E fr'))[b]? = W.heap[b]? := by
    rintro b ⟨hb', hn⟩
    have hne : l.b ≠ b := fun e => hn (e ▸ hown)
    refine ⟨⟨by simpa using hb', ?_⟩, Array.getElem?_setIfInBounds_ne hne⟩
    rintro ⟨i, x, m, hx, hxw, he⟩
    rcases hget i x hx with ⟨rfl, rfl⟩ | ⟨_, hx0⟩
    · cases hxw
    · exact hn ⟨i, x, m, hx0, hxw, he⟩
  have hkeep : ∀ i, i < H.length → none? i = false → i < (H.set id (.prow T false sz n get)).length ∧ Stays β H[i]? β i ∧ Shape H[i]? (H.set id (.prow T false sz n get))[i]? := by
    intro i hi _
    refine ⟨by rw [List.length_set]; exact hi, .inl rfl, ?_⟩
    by_cases he : i = id
    · subst he
      rw [List.getElem?_set_self hlen, hid]
      exact ⟨false, get, rfl⟩
    · rw [List.getElem?_set_ne (Ne.symm he)]
      exact Shape.refl _
  have hborn : ∀ i x m, (H.set id (.prow T false sz n get))[i]? = some x → x.alive = true → β i = some m → (∃ o0, H[i]? = some o0 ∧ o0.alive = true ∧ β i = some m) ∨ ¬ Imm W.heap β H m.b := by
    intro i x m h1 h2 h3
    rcases hget i x h1 with ⟨rfl, rfl⟩ | ⟨hi, hx0⟩
    · exact .inl ⟨_, hid, rfl, h3⟩
    · exact .inl ⟨x, hx0, h2, h3⟩
  refine ⟨⟨fun i x hx => ?_, fun i j x y hx hy hne hxw hya m m' hm hm' => ?_⟩, ⟨⟨himm, by simp [atHeap]⟩, hkeep, hborn⟩, Same.atHeap _ _⟩
  · rcases hget i x hx with ⟨rfl, rfl⟩ | ⟨hi, hx0⟩
    · obtain ⟨c', fr0, h1, h2, h3, h4, h5⟩ := (hst.obj i _ hid).at hl
      rw [hb] at h1
      cases h1
      refine .mk hl ⟨c, fr', by simp only [atHeap]; rw [Array.getElem?_setIfInBounds_self_of_lt hbl], (fun e => by cases e), h3, h4, fun k hk => ⟨(h5 k hk).1, fun j x y hx hy => ⟨((h5 k hk).2 j x y hx hy).1, ((h5 k hk).2 j x y hx hy).2.mono himm⟩⟩⟩
    · have := (hst.obj i x hx0).mono (A := none?) himm hkeep rfl fun ha m hm => by
        have := hst.apart id i _ x hid hx0 (Ne.symm hi) rfl ha l m hl hm
        rw [Array.getElem?_setIfInBounds_ne this]
      rwa [show cleanO none? x = x from cleanO_none x] at this
  · rcases hget i x hx with ⟨rfl, rfl⟩ | ⟨hi, hx0⟩
    · cases hxw
    · rcases hget j y hy with ⟨rfl, rfl⟩ | ⟨hj, hy0⟩
      · exact hst.apart i j x _ hx0 hid hne hxw rfl m m' hm hm'
      · exact hst.apart i j x y hx0 hy0 hne hxw hya m m' hm hm'

theorem unsafeStrN_run {ts : Array TypeId} {ty : TypeId} {x k r : NV} {a b : Value} {H' : NH} (hst : St W.heap β H) (h : unsafeStrN P H ts x k = some (r, H')) (hx : (Rep W.heap (Imm W.heap β H) β H) x a) (hk : (Rep W.heap (Imm W.heap β H) β H) k b) :
    ∃ v W' β', (Builtin.unsafeString_ ts ty #[a, b]).run P W = .ok v W' ∧ Step β H W β' H' W' none? ∧ Rep W'.heap (Imm W'.heap β' H') β' H' r v := by
  unfold unsafeStrN at h
  split at h
  · rename_i m
    split at h
    · rename_i pt it hts
      split at h
      · rename_i hm
        subst hm
        cases h
        obtain rfl := hx.v_inv
        obtain rfl := hk.v_inv
        have hts' : ts = #[pt, it] := by apply Array.ext'; simpa using hts
        subst hts'
        exact ⟨_, W, β, Lib.run_unsafeString_none W pt it ty none, Step.refl hst, .p _ _ (.v _)⟩
      · cases h
    · cases h
  · rename_i id m
    split at h
    · rename_i T n get pt it ho hts
      split at h
      case h_2 => cases h
      rename_i e h4
      split at h
      · rename_i hc
        obtain ⟨h1, h2, h3, rfl, h5, h6⟩ := hc
        cases h
        obtain rfl := hk.v_inv
        have hts' : ts = #[pt, it] := by apply Array.ext'; simpa using hts
        subst hts'
        cases hx with
        | pe _ _ _ l T' rw' sz' n' get' ho' hi hl =>
          rw [ho] at ho'
          cases ho'
          obtain ⟨c, fr, c1, c2, c3, c4, c5⟩ := (hst.obj id _ ho).at hl
          have hn : m.toNat ≤ n := by omega
          have hcell : ∀ j x, ((List.range m.toNat).map fun i => byteOf (get i))[j]? = some x → W.cell? ((⟨l.b, 0, none⟩ : Addr).add j) = some (.int .u8 x.toNat) := by
            intro j x hx
            rw [List.getElem?_map, Option.map_eq_some_iff] at hx
            obtain ⟨i, hi, rfl⟩ := hx
            obtain ⟨hj, rfl⟩ := List.getElem?_eq_some_iff.1 hi
            simp only [List.length_range] at hj
            simp only [List.getElem_range]
            obtain ⟨q, hq, q0, q1⟩ := allBytesR_at h6 j hj
            have hsz : j < c.size := by have := c3.2; have := c3.1; omega
            have hy := (c5 j (by omega)).2 0 (.v (.int .u8 q)) c[j] (by rw [hq]; rfl) (by simp [hsz])
            have hcj : c[j] = .int .u8 q := by
              have h7 := hy.2
              generalize c[j] = y at h7
              cases h7; rfl
            have e1 : W.cell? ((⟨l.b, 0, none⟩ : Addr).add j) = some c[j] := by
              rw [show (⟨l.b, 0, none⟩ : Addr).add j = ⟨l.b, j, none⟩ by simp [Addr.add]; omega, cell?_eq, cellAt, c1]
              exact Array.getElem?_eq_getElem hsz
            rw [e1, hcj, hq]
            simp only [byteOf]
            congr 2
            have : (UInt8.ofNat q.toNat).toNat = q.toNat := by simp; omega
            rw [this]; omega
          have hrun := Lib.run_unsafeString_row (P := P) W pt it ty e h4 h5 l.b c.size (by simp [World.shape?, c1]) ((List.range m.toNat).map fun i => byteOf (get i)) (by
              intro e; have := congrArg List.length e; simp at this; omega) (by simp; have := c3.2; have := c3.1; omega) (by simp; omega) hcell
          simp only [List.length_map, List.length_range] at hrun
          rw [show ((m.toNat : Nat) : Int) = m by omega] at hrun
          have hfz : W.freeze ⟨l.b, 0, none⟩ m.toNat = atHeap W (W.heap.setIfInBounds l.b (.cells c e (if fr.1 == fr.2 then (0, 0 + m.toNat) else (min fr.1 0, max fr.2 (0 + m.toNat))))) := by
            unfold World.freeze
            rw [if_neg (by omega)]
            unfold atHeap
            congr 1
            apply Array.ext_getElem?
            intro i
            rw [Array.getElem?_modify]
            by_cases hi : l.b = i
            · subst hi
              rw [if_pos rfl, c1, Array.getElem?_setIfInBounds_self_of_lt (Array.getElem?_eq_some_iff.1 c1).1]
              rfl
            · rw [if_neg hi, Array.getElem?_setIfInBounds_ne hi]
          rw [hfz] at hrun
          exact ⟨_, _, β, hrun, Step.sealUp (fr' := if fr.1 == fr.2 then (0, 0 + m.toNat) else (min fr.1 0, max fr.2 (0 + m.toNat))) hst ho hl c1, .p _ _ (.v _)⟩
      · cases h
    · cases h
  · cases h
end
end Go.Proofs.Eng
