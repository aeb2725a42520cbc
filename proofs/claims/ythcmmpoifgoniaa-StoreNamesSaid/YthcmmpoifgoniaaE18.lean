/- The engine, part 18: slices that are made, or that grow. -/
import Derived.Test.YthcmmpoifgoniaaE17
import Derived.IntWalk
set_option linter.unusedVariables false
set_option linter.unusedSimpArgs false
namespace Go.Proofs.Eng

/-- Is no value of a type a reference, but slices? -/
def pureTy (P : Program) : Nat → TypeId → Bool
  | 0, _ => false
  | d + 1, T =>
    match P.underlying T with
    | some (.int _) => true
    | some .bool => true
    | some .string => true
    | some (.slice e) => pureTy P d e
    | some (.array _ e) => pureTy P d e
    | some (.struct fs) => fs.toList.all fun f => pureTy P d f.type
    | _ => false
/-- An element type: its size, its bytes, its zero. -/
def elemOf (P : Program) (e : TypeId) : Option (Nat × Nat × List VV) :=
  match P.info? e with
  | some i =>
    match i.zero with
    | some z => if 0 < i.size ∧ 0 < i.bytes ∧ z.cells.size = i.size ∧ z.cells.toList.all (fun c => c.oneCell') = true then some (i.size, i.bytes, z.cells.toList.map .v) else none
    | none => none
  | none => none
def makeSliceN (P : Program) (H : NH) (T : TypeId) (l c : NV) : Option (NV × NH) :=
  match P.underlying T, l, c with
  | some (.slice e), .p (.v (.int _ l)), .p (.v (.int _ c)) =>
    match elemOf P e with
    | some (s, b, z) =>
      if pureTy P 8 e then
        if 0 ≤ l ∧ l ≤ c ∧ b * c ≤ 281474976710656 then some (.full H.length, H ++ [.prow e true s l.toNat fun _ => z]) else none
      else none
    | none => none
  | _, _, _ => none
/-- Element k of cells. -/
def chunk (s len : Nat) (vs : List VV) (z : List VV) (k : Nat) : List VV := if k < len then (vs.drop (k * s)).take s else z
def buildSliceN (P : Program) (H : NH) (T : TypeId) (len : Nat) (parts : List (Nat × NV)) : Option (NV × NH) :=
  match P.underlying T with
  | some (.slice e) =>
    match elemOf P e with
    | some (s, b, z) =>
      if len * s ≤ 16777216 then
        match fillN (fun i => some (i * s, s)) ((List.replicate len (z.map NV.p)).flatten) parts with
        | some cells =>
          if pureTy P 8 e then
            match purL H cells with
            | some (vs, H1) => some (.part H1.length 0 len true, H1 ++ [.prow e true s len (chunk s len vs z)])
            | none => none
          else some (.part H.length 0 len true, H ++ [.row e s cells])
        | none => none
      else none
    | none => none
  | _ => none

section
variable {β : Beta} {H : NH} {P : Program} {W : World}

theorem elemOf_inv {e : TypeId} {s b : Nat} {z : List VV} (h : elemOf P e = some (s, b, z)) : ∃ i v, P.info? e = some i ∧ i.zero = some v ∧ i.size = s ∧ i.bytes = b ∧ 0 < s ∧ 0 < b ∧
    v.cells.size = s ∧ z = v.cells.toList.map .v ∧ ∀ u ∈ v.cells.toList, u.oneCell' = true := by
  unfold elemOf at h
  split at h
  · rename_i i hi
    split at h
    · rename_i v hv
      split at h
      · rename_i hc
        cases h
        exact ⟨i, v, hi, hv, rfl, rfl, hc.1, hc.2.1, hc.2.2.1, rfl, fun u hu => List.all_eq_true.1 hc.2.2.2 u hu⟩
      · cases h
    · cases h
  · cases h
theorem elemOf_sz {e : TypeId} {s b : Nat} {z : List VV} (h : elemOf P e = some (s, b, z)) : tySz P e = some s := by
  obtain ⟨i, v, h1, _, h3, _⟩ := elemOf_inv h
  simp [tySz, h1, h3]

/-- Zeros, as many as are wanted. -/
def zerosA (v : Array Value) (n : Nat) : Array Value := (Array.range n).map fun i => v[i % v.size]!
theorem zerosA_get {v : Array Value} {n i : Nat} (h : i < n) (h0 : 0 < v.size) : (zerosA v n)[i]? = v[i % v.size]? := by
  unfold zerosA
  rw [Array.getElem?_map, Array.getElem?_range]
  have hlt : i % v.size < v.size := Nat.mod_lt _ h0
  have e1 : v[i % v.size]! = v[i % v.size] := getElem!_pos v (i % v.size) hlt
  rw [if_pos h, Option.map_some, e1, Array.getElem?_eq_getElem hlt]
theorem zerosA_size (v : Array Value) (n : Nat) : (zerosA v n).size = n := by simp [zerosA]
theorem wrap_i64 {n : Int} (h0 : 0 ≤ n) (h : n ≤ 281474976710656) : IntKind.i64.wrap n = n := by
  exact IntWalk.i64_in n (by omega)
/-- A row of zeros. -/
theorem zeros_prow {e : TypeId} {s b c l n : Nat} {z : List VV} {v : Value} {i : TypeInfo} {imm : Nat → Prop} {hp : Heap} {β' : Beta} {H' : NH} (hz : v.cells.size = s) (hs : 0 < s) (e1 : z = v.cells.toList.map .v)
    (h1 : ∀ u ∈ v.cells.toList, u.oneCell' = true) (hlc : l ≤ c) (hb : hp[n]? = some (.cells (zerosA v.cells (c * s)) e (0, 0))) :
    ObjAt hp imm β' H' ⟨n, 0, c⟩ (.prow e true s l fun _ => z) := by
  refine ⟨_, (0, 0), hb, fun _ => unfrozen0 _, ⟨hlc, by rw [zerosA_size]; simp⟩, hs, fun k hk => ⟨by rw [e1]; simp [hz], fun j x y hx hy => ?_⟩⟩
  rw [e1, List.getElem?_map, Option.map_eq_some_iff] at hx
  obtain ⟨q, hq, rfl⟩ := hx
  have hj : j < s := by have := (List.getElem?_eq_some_iff.1 hq).1; simpa [hz] using this
  have hks : k * s + j < c * s := by
    have : (k + 1) * s ≤ c * s := Nat.mul_le_mul_right _ (by omega)
    rw [Nat.succ_mul] at this; omega
  simp only [Nat.zero_add] at hy
  rw [zerosA_get hks (by omega), hz, Nat.mul_comm, Nat.mul_add_mod, Nat.mod_eq_of_lt hj, ← Array.getElem?_toList, hq] at hy
  cases hy
  exact ⟨h1 _ (List.mem_of_getElem? hq), .v _⟩
theorem makeSliceN_run {T : TypeId} {x y r : NV} {a c : Value} {H' : NH} (hst : St W.heap β H) (h : makeSliceN P H T x y = some (r, H')) (hx : (Rep W.heap (Imm W.heap β H) β H) x a) (hy : (Rep W.heap (Imm W.heap β H) β H) y c) :
    ∃ v W' β', (Instr.makeSlice T a c).run P W = .ok v W' ∧ Step β H W β' H' W' none? ∧ Rep W'.heap (Imm W'.heap β' H') β' H' r v := by
  unfold makeSliceN at h
  split at h
  · rename_i e kl l kc c0 hu
    obtain rfl := hx.v_inv
    obtain rfl := hy.v_inv
    split at h
    · rename_i s b z he
      split at h
      · split at h
        · rename_i hc
          cases h
          obtain ⟨i, v, i1, i2, i3, i4, i5, i6, i7, i8, i9⟩ := elemOf_inv he
          have hc3 : c0 ≤ 281474976710656 := by
            have h1 : (1 : Int) * c0 ≤ b * c0 := Int.mul_le_mul_of_nonneg_right (by omega) (by omega)
            omega
          have hcn : (c0.toNat : Int) = c0 := Int.toNat_of_nonneg (by omega)
          refine ⟨.slice (some ⟨W.heap.size, 0, none⟩) l.toNat c0.toNat, _, _, ?_, Step.alloc hst (.cells (zerosA v.cells (c0.toNat * s)) e) (.prow e true s l.toNat fun _ => z) c0.toNat fun β' H' e1 e2 g => ?_, ?_⟩
          · have hl64 := wrap_i64 (n := l) hc.1 (by omega)
            have hc64 := wrap_i64 (n := c0) (by omega) hc3
            have hti : (typeInfo e).run P W = .ok i W := by simp [typeInfo, i1]
            have hzv : (zeroValue e).run P W = .ok v W := by simp [zeroValue, typeInfo, i1, i2]
            have hbig : ¬ ((i.bytes : Int) * c0 > 2 ^ 48) := by rw [i4]; have := hc.2.2; omega
            simp only [Instr.makeSlice, Sem.run_bind, run_underlying hu, Result.andThen_ok, asInt, asIntOf, Sem.run_pure, hti, hl64, hc64]
            rw [if_neg (by
              simp only [Bool.or_eq_true, decide_eq_true_eq, not_or]
              exact ⟨⟨⟨by omega, hbig⟩, by omega⟩, by omega⟩)]
            simp only [Sem.run_bind, Sem.run_pure, Result.andThen_ok, run_askRoom, tySz_run (elemOf_sz he)]
            by_cases hn : c0.toNat * s = 0
            · rw [if_pos hn]
              simp only [Sem.run_bind, Sem.run_pure, Result.andThen_ok, newRow, run_newObj, hn]
              simp [zerosA, atHeap, show Array.range 0 = (#[] : Array Nat) from rfl]
            · rw [if_neg hn]
              simp only [Sem.run_bind, Sem.run_pure, Result.andThen_ok, newRow, run_newObj, hzv]
              rfl
          · exact zeros_prow (b := b) (i := i) i7 i5 i8 i9 (by have := hc.2.1; have := hc.1; omega) (by simp)
          · have := Rep.fullP (hp := W.heap.push (.cells (zerosA v.cells (c0.toNat * s)) e)) (imm := Imm (W.heap.push (.cells (zerosA v.cells (c0.toNat * s)) e)) (upd β H.length (some ⟨W.heap.size, 0, c0.toNat⟩)) (H ++ [.prow e true s l.toNat fun _ => z]))
              (β := upd β H.length (some ⟨W.heap.size, 0, c0.toNat⟩)) (H := H ++ [.prow e true s l.toNat fun _ => z]) H.length ⟨W.heap.size, 0, c0.toNat⟩ e true s l.toNat (fun _ => z) c0.toNat (by simp)
              (by have := hc.2.1; have := hc.1; omega) (Nat.le_refl _) (upd_self _ _ _)
            exact this
        · cases h
      · cases h
    · cases h
  · cases h

theorem RepC.mono {β' : Beta} {H' : NH} {W' : World} (g : Good W.heap β H W'.heap β' H' none?) {cs : List NV} {c : Array Value} (h : RepC W.heap (Imm W.heap β H) β H cs c) :
    RepC W'.heap (Imm W'.heap β' H') β' H' cs c := ⟨h.1, fun i x y hx hy => ⟨(h.2 i x y hx hy).1, g.rep0 (h.2 i x y hx hy).2⟩⟩
theorem flatten_replicate_get {α : Type} (z : List α) (len : Nat) : ∀ (i : Nat), i < len * z.length → ((List.replicate len z).flatten)[i]? = z[i % z.length]? := by
  induction len with
  | zero => intro i h; simp at h
  | succ n ih =>
    intro i h
    rw [List.replicate_succ, List.flatten_cons]
    by_cases hi : i < z.length
    · rw [List.getElem?_append_left hi, Nat.mod_eq_of_lt hi]
    · rw [List.getElem?_append_right (by omega), ih _ (by rw [Nat.succ_mul] at h; omega), ← Nat.mod_eq_sub_mod (by omega)]
theorem zeros_repC {s len : Nat} {v : Value} {hp : Heap} {imm : Nat → Prop} (hv : v.cells.size = s) (h0 : 0 < s) (h1 : ∀ u ∈ v.cells.toList, u.oneCell' = true) :
    RepC hp imm β H ((List.replicate len ((v.cells.toList.map VV.v).map NV.p)).flatten) (zerosA v.cells (len * s)) := by
  have hlen : ((List.replicate len ((v.cells.toList.map VV.v).map NV.p)).flatten).length = len * s := by
    simp [hv]
  refine ⟨by rw [zerosA_size, hlen], fun i x y hx hy => ?_⟩
  have hi : i < len * s := by rw [← hlen]; exact (List.getElem?_eq_some_iff.1 hx).1
  rw [flatten_replicate_get _ _ _ (by simpa [hv] using hi)] at hx
  rw [zerosA_get hi (by omega)] at hy
  simp only [List.length_map, Array.length_toList] at hx
  rw [List.getElem?_map, List.getElem?_map, Array.getElem?_toList, hy] at hx
  cases hx
  exact ⟨h1 _ (Array.mem_toList_iff.2 (Array.mem_of_getElem? hy)), .p _ _ (.v _)⟩
theorem fillN_length (place : Nat → Option (Nat × Nat)) : ∀ (parts : List (Nat × NV)) (cs r : List NV), fillN place cs parts = some r → r.length = cs.length := by
  intro parts
  induction parts with
  | nil => intro cs r h; simp only [fillN] at h; cases h; rfl
  | cons p parts ih =>
    intro cs r h
    obtain ⟨i, v⟩ := p
    simp only [fillN] at h
    split at h
    · split at h
      · rename_i hc
        rw [ih _ _ h, splice_length (by omega)]
      · cases h
    · cases h
theorem purL_len : ∀ (xs : List NV) (H H' : NH) (vs : List VV), purL H xs = some (vs, H') → H'.length = H.length := by
  have hv : ∀ (H H' : NH) (x : NV) (v : VV), purV H x = some (v, H') → H'.length = H.length := by
    intro H H' x v h
    unfold purV at h
    split at h
    · cases h; rfl
    · cases h; rfl
    · split at h
      · cases h; simp
      · cases h
    · split at h
      · cases h; simp
      · cases h
    · cases h
  intro xs
  induction xs with
  | nil => intro H H' vs h; simp only [purL] at h; cases h; rfl
  | cons x xs ih =>
    intro H H' vs h
    simp only [purL] at h
    split at h
    · rename_i v H1 h1
      split at h
      · rename_i vs' H2 h2
        cases h
        rw [ih _ _ _ h2, hv _ _ _ _ h1]
      · cases h
    · cases h
/-- Cells without references: a new row of elements. -/
theorem chunk_obj {s len n : Nat} {e : TypeId} {vs : List VV} {z : List VV} {c : Array Value} {imm : Nat → Prop} {hp : Heap} {β' : Beta} {H' : NH} (h0 : 0 < s) (hv : vs.length = len * s) (hc : c.size = len * s)
    (hb : hp[n]? = some (.cells c e (0, 0))) (hr : ∀ (i : Nat) (v : VV) (y : Value), vs[i]? = some v → c[i]? = some y → y.oneCell' = true ∧ PV hp imm v y) :
    ObjAt hp imm β' H' ⟨n, 0, len⟩ (.prow e true s len (chunk s len vs z)) := by
  refine ⟨c, (0, 0), hb, fun _ => unfrozen0 c, ⟨Nat.le_refl _, by simp [hc]⟩, h0, fun k hk => ?_⟩
  have hks : (k + 1) * s ≤ len * s := Nat.mul_le_mul_right _ hk
  rw [Nat.succ_mul] at hks
  simp only [chunk, if_pos hk]
  refine ⟨by simp; omega, fun j x y hx hy => ?_⟩
  rw [List.getElem?_take] at hx
  split at hx
  · rw [List.getElem?_drop] at hx
    simp only [Nat.zero_add] at hy
    exact hr _ x y hx hy
  · cases hx
theorem buildSliceN_run {T : TypeId} {len : Nat} {parts : List (Nat × NV)} {parts' : Array (Nat × Value)} {r : NV} {H' : NH} (hst : St W.heap β H) (h : buildSliceN P H T len parts = some (r, H'))
    (hl : parts'.toList.length = parts.length) (hp' : ∀ (i : Nat) (p : Nat × NV) (p' : Nat × Value), parts[i]? = some p → parts'.toList[i]? = some p' → p'.1 = p.1 ∧ (Rep W.heap (Imm W.heap β H) β H) p.2 p'.2) :
    ∃ v W' β', (Instr.buildSlice T len parts').run P W = .ok v W' ∧ Step β H W β' H' W' none? ∧ Rep W'.heap (Imm W'.heap β' H') β' H' r v := by
  unfold buildSliceN at h
  split at h
  · rename_i e hu
    split at h
    · rename_i s b z he
      obtain ⟨i, v, i1, i2, i3, i4, i5, i6, i7, i8, i9⟩ := elemOf_inv he
      split at h
      · rename_i hbig
        split at h
        · rename_i cells hf
          subst i8
          have hz := zeros_repC (β := β) (H := H) (hp := W.heap) (imm := Imm W.heap β H) (len := len) i7 i5 i9
          obtain ⟨c, hc1, hc2⟩ := fill_rep (hp := W.heap) (imm := Imm W.heap β H) (β := β) (H := H) _ parts parts'.toList _ _ cells hl hp' hz hf
          have hlen : cells.length = len * s := by
            rw [fillN_length _ _ _ _ hf]; simp [i7]
          have hrun : (Instr.buildSlice T len parts').run P W = .ok (.slice (some ⟨W.heap.size, 0, none⟩) len len) (atHeap W (W.heap.push (.cells c e))) := by
            have hzv : (zeroValue e).run P W = .ok v W := by simp [zeroValue, typeInfo, i1, i2]
            simp only [Instr.buildSlice, Sem.run_bind, run_underlying hu, Result.andThen_ok, tySz_run (elemOf_sz he)]
            rw [if_neg (by omega)]
            by_cases hn : len * s = 0
            · have hz0 : zerosA v.cells (len * s) = (Array.range (len * s)).map fun i => (#[] : Array Value)[i % (#[] : Array Value).size]! := by rw [hn]; simp [zerosA]
              rw [hz0] at hc1
              simp only [if_pos hn, Sem.run_bind, Sem.run_pure, Result.andThen_ok, hc1, newRow, run_newObj]
              rfl
            · have hc1' : Instr.fill (fun i => some (i * s, s)) ((Array.range (len * s)).map fun i => v.cells[i % v.cells.size]!) parts'.toList = some c := hc1
              simp only [if_neg hn, Sem.run_bind, Sem.run_pure, Result.andThen_ok, hzv, hc1', newRow, run_newObj]
              rfl
          split at h
          · split at h
            · rename_i vs H1 hvs
              cases h
              obtain ⟨s1, vl, vr⟩ := purL_run cells H c vs H1 0 hst hvs (by rw [hc2.1]; omega) (fun i x y h1 h2 => (hc2.2 i x y h1 (by simpa using h2)).2)
              have hst2 := Step.alloc s1.st (.cells c e) (.prow e true s len (chunk s len vs (v.cells.toList.map VV.v))) len (fun β' H' e1 e2 g => by
                refine chunk_obj i5 (by rw [vl, hlen]) (by rw [hc2.1, hlen]) (by simp) (fun i w y h1 h2 => ?_)
                have hi : i < cells.length := by have := (List.getElem?_eq_some_iff.1 h1).1; omega
                exact ⟨(hc2.2 i cells[i] y (List.getElem?_eq_getElem hi) h2).1, (vr i w y h1 (by simpa using h2)).mono g.ext.imm⟩)
              refine ⟨_, _, _, hrun, s1.trans0 hst2, ?_⟩
              have := Rep.partP (hp := (atHeap W (W.heap.push (.cells c e))).heap) (imm := Imm (atHeap W (W.heap.push (.cells c e))).heap (upd β H1.length (some ⟨W.heap.size, 0, len⟩)) (H1 ++ [.prow e true s len (chunk s len vs (v.cells.toList.map VV.v))]))
                (β := upd β H1.length (some ⟨W.heap.size, 0, len⟩)) (H := H1 ++ [.prow e true s len (chunk s len vs (v.cells.toList.map VV.v))]) H1.length 0 len true ⟨W.heap.size, 0, len⟩ e true s len (chunk s len vs (v.cells.toList.map VV.v)) len (by simp)
                (by omega) (Nat.le_refl _) (fun _ => rfl) (upd_self _ _ _)
              simpa [slot] using this
            · cases h
          · cases h
            have hdv : s ∣ cells.length := by rw [hlen]; exact Nat.dvd_mul_left s len
            have hst2 := Step.newRow (T := e) (sz := s) hst hc2 i5 hdv
            have hk : cells.length / s = len := by rw [hlen]; exact Nat.mul_div_cancel _ i5
            rw [hk] at hst2
            refine ⟨_, _, _, hrun, hst2, ?_⟩
            have := Rep.partR (hp := (atHeap W (W.heap.push (.cells c e))).heap) (imm := Imm (atHeap W (W.heap.push (.cells c e))).heap (upd β H.length (some ⟨W.heap.size, 0, len⟩)) (H ++ [.row e s cells]))
              (β := upd β H.length (some ⟨W.heap.size, 0, len⟩)) (H := H ++ [.row e s cells]) H.length 0 len true ⟨W.heap.size, 0, len⟩ e s cells len (by simp) (by rw [hk]; omega) (Nat.le_refl _) (fun _ => rfl) (upd_self _ _ _)
            simpa [slot] using this
        · cases h
      · cases h
    · cases h
  · cases h
end
end Go.Proofs.Eng
