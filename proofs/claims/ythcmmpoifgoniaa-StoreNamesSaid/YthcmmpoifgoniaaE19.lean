/- The engine, part 19: append. -/
import Derived.Test.YthcmmpoifgoniaaE18
set_option linter.unusedVariables false
set_option linter.unusedSimpArgs false
namespace Go.Proofs.Eng

/-- A row, and another one behind it. -/
def catG (get : Nat → List VV) (n : Nat) (get2 : Nat → List VV) : Nat → List VV := fun k => if k < n then get k else get2 (k - n)
/-- m elements, zeros behind them. -/
def cutG (m : Nat) (get : Nat → List VV) (z : List VV) : Nat → List VV := fun k => if k < m then get k else z
def bytesG (s : ByteArray) : Nat → List VV := fun k => [.v (.int .u8 (bAt s k).toNat)]
/-- What is appended: how many, which. -/
def srcA (H : NH) (s : Nat) (z : List VV) (x : NV) : Option (Nat × (Nat → List VV)) :=
  match x with
  | .p (.v (.string t)) => if s = 1 then some (t.size, bytesG t) else none
  | .p (.v (.slice none 0 _)) => some (0, fun _ => z)
  | x =>
    match srcN H x with
    | some (s', m, get) => if s' = s then some (m, cutG m get z) else none
    | none => none
def isIntTy (P : Program) (T : TypeId) : Option Bool :=
  match P.underlying T with
  | some (.int _) => some true
  | some _ => some false
  | none => none
/-- Is there no row behind a slice, nor room in it? -/
def emptyDst (x : NV) : Bool :=
  match x with
  | .p (.v (.slice none 0 0)) => true
  | .xsl _ 0 _ => true
  | .part _ _ 0 true => true
  | _ => false
def appendN (P : Program) (H : NH) (ts : Array TypeId) (d x : NV) : Option (NV × NH × Option Nat) :=
  match ts[0]?, ts[1]? with
  | some T, some T2 =>
    match P.underlying T, isIntTy P T2 with
    | some (.slice e), some false =>
      match elemOf P e with
      | some (s, b, z) =>
        if pureTy P 8 e then
          match srcA H s z x with
          | some (m, get2) =>
            if emptyDst d then
              if (2 * m + 192) * b ≤ 281474976710656 then some (.full H.length, H ++ [.prow e true s m get2], none) else none
            else match d with
              | .full id =>
                match H[id]? with
                | some (.prow T' true s' n get) =>
                  if T' = e ∧ s' = s then
                    if (2 * (n + m) + 192) * b ≤ 281474976710656 then some (.full id, cleanH (only id) (H.set id (.prow e true s (n + m) (catG get n get2))), some id) else none
                  else none
                | _ => none
              | _ => none
          | none => none
        else none
      | none => none
    | _, _ => none
  | _, _ => none

theorem growBy_le (n : Nat) : ∀ (r c : Nat), Builtin.growBy n r c ≤ max c (2 * n + 192) := by
  intro r
  induction r with
  | zero => intro c; simp only [Builtin.growBy]; omega
  | succ r ih =>
    intro c
    simp only [Builtin.growBy]
    split
    · omega
    · have := ih (c + (c + 768) / 4)
      omega
theorem nextcap_le {n c : Nat} (h : c < n) : Builtin.nextslicecap n c ≤ 2 * n + 192 := by
  unfold Builtin.nextslicecap
  split
  · omega
  · split
    · omega
    · have := growBy_le n 4 c
      omega

section
variable {β : Beta} {H : NH} {P : Program} {W : World}

/-- What an append is given besides the slice. -/
structure Src (P : Program) (W : World) (imm : Nat → Prop) (s m : Nat) (get : Nat → List VV) (x : Value) (news : Array Value) : Prop where
  len : (Builtin.lenOf x).run P W = .ok m W
  cells : ∀ W' : World, W'.heap = W.heap → (Builtin.firstCells s m x).run P W' = .ok news W'
  size : news.size = m * s
  row : ∀ i, i < m → (get i).length = s ∧ ∀ (j : Nat) (x : VV) (y : Value), (get i)[j]? = some x → news[i * s + j]? = some y → y.oneCell' = true ∧ PV W.heap imm x y
/-- The same, but for what the cells read as. -/
structure SrcB (P : Program) (W : World) (s m : Nat) (x : Value) (news : Array Value) : Prop where
  len : (Builtin.lenOf x).run P W = .ok m W
  cells : ∀ W' : World, W'.heap = W.heap → (Builtin.firstCells s m x).run P W' = .ok news W'
theorem Src.toB {imm : Nat → Prop} {s m : Nat} {get : Nat → List VV} {x : Value} {news : Array Value} (h : Src P W imm s m get x news) : SrcB P W s m x news := ⟨h.len, h.cells⟩
theorem Src.one {imm : Nat → Prop} {s m : Nat} {get : Nat → List VV} {x : Value} {news : Array Value} (h : Src P W imm s m get x news) (h0 : 0 < s) : ∀ u ∈ news.toList, u.oneCell' = true := by
  intro u hu
  obtain ⟨k, hk⟩ := List.getElem?_of_mem hu
  rw [Array.getElem?_toList] at hk
  have hlt : k < m * s := by rw [← h.size]; exact (Array.getElem?_eq_some_iff.1 hk).1
  have hi : k / s < m := by rw [Nat.div_lt_iff_lt_mul h0]; exact hlt
  have hj : k % s < s := Nat.mod_lt _ h0
  obtain ⟨g1, g2⟩ := h.row _ hi
  have he : k / s * s + k % s = k := by rw [Nat.mul_comm]; exact Nat.div_add_mod k s
  exact (g2 (k % s) _ u (List.getElem?_eq_getElem (by omega)) (by rw [he]; exact hk)).1
theorem cell_of_heap {W' : World} (h : W'.heap = W.heap) (a : Addr) : W'.cell? a = W.cell? a := by
  simp [World.cell?, h]
theorem srcAt_src {imm : Nat → Prop} {s m : Nat} {get : Nat → List VV} {x : Value} (h0 : 0 < s) (h : SrcAt W imm s m get x) : ∃ news, Src P W imm s m get x news := by
  obtain ⟨A, c, rfl, hc⟩ := h
  rcases Nat.eq_zero_or_pos m with rfl | hm
  · refine ⟨#[], rfl, fun W' _ => ?_, by simp, fun i hi => absurd hi (Nat.not_lt_zero _)⟩
    cases A with
    | none => rfl
    | some A => simp [Builtin.firstCells, loadCells, loadCellsFrom]
  · obtain ⟨b, o, rfl, hcells⟩ := hc hm
    have hex : ∀ k, k < m * s → ∃ y, W.cell? ⟨b, o + k, none⟩ = some y := fun k hk => by
      have hi : k / s < m := by rw [Nat.div_lt_iff_lt_mul h0]; exact hk
      have hj : k % s < s := Nat.mod_lt _ h0
      obtain ⟨g1, g2⟩ := hcells _ hi
      obtain ⟨y, h1, _⟩ := g2 (k % s) _ (List.getElem?_eq_getElem (by omega))
      have he : k / s * s + k % s = k := by rw [Nat.mul_comm]; exact Nat.div_add_mod k s
      rw [he] at h1
      exact ⟨y, h1⟩
    refine ⟨((List.range (m * s)).map fun k => (W.cell? ⟨b, o + k, none⟩).getD undef).toArray, rfl, fun W' hW' => ?_, by simp, fun i hi => ⟨(hcells i hi).1, fun j x y hx hy => ?_⟩⟩
    · simp only [Builtin.firstCells]
      refine run_loadCells W' _ _ _ fun k hk => ?_
      obtain ⟨y, hy⟩ := hex k hk
      rw [add_plain', cell_of_heap hW', hy]; rfl
    · obtain ⟨y', h1, h2, h3⟩ := (hcells i hi).2 j x hx
      have hj : j < s := by rw [← (hcells i hi).1]; exact (List.getElem?_eq_some_iff.1 hx).1
      have hk : i * s + j < m * s := by
        have : (i + 1) * s ≤ m * s := Nat.mul_le_mul_right _ hi
        rw [Nat.succ_mul] at this; omega
      simp only [List.getElem?_toArray, List.getElem?_map, List.getElem?_range hk, Option.map_some, h1, Option.getD_some] at hy
      cases hy
      exact ⟨h2, h3⟩
theorem cutG_src {imm : Nat → Prop} {s m : Nat} {get : Nat → List VV} {z : List VV} {x : Value} {news : Array Value} (h : Src P W imm s m get x news) : Src P W imm s m (cutG m get z) x news :=
  ⟨h.len, h.cells, h.size, fun i hi => by simp only [cutG, if_pos hi]; exact h.row i hi⟩
theorem srcA_src {s m : Nat} {z : List VV} {get : Nat → List VV} {x : NV} {a : Value} (h0 : 0 < s) (hst : St W.heap β H) (h : srcA H s z x = some (m, get)) (hx : (Rep W.heap (Imm W.heap β H) β H) x a) :
    ∃ news, Src P W (Imm W.heap β H) s m get a news := by
  unfold srcA at h
  split at h
  · rename_i t
    split at h
    · rename_i hs
      subst hs
      cases h
      obtain rfl := hx.v_inv
      refine ⟨(t.extract 0 t.size).data.map fun b => .int .u8 b.toNat, rfl, fun W' _ => rfl, ?_, fun i hi => ⟨rfl, fun j x y hx hy => ?_⟩⟩
      · simp [ByteArray.data_extract]
      · cases j with
        | succ j => simp [bytesG] at hx
        | zero =>
          simp only [bytesG, List.getElem?_cons_zero] at hx
          cases hx
          simp only [Nat.mul_one, Nat.add_zero] at hy
          have hb := byteAt hi
          have : (t.extract 0 t.size).data[i]? = some (bAt t i) := by
            rw [ByteArray.data_extract]
            have e1 : t.data.extract 0 t.size = t.data := by
              have : t.size = t.data.size := rfl
              rw [this]; simp
            rw [e1]
            have : t.data[i]? = t[i]? := by
              rw [getElem?_pos t i hi, Array.getElem?_eq_getElem (show i < t.data.size from hi)]; rfl
            rw [this, hb]
          rw [Array.getElem?_map, this] at hy
          cases hy
          exact ⟨rfl, .v _⟩
    · cases h
  · cases h
    obtain rfl := hx.v_inv
    exact ⟨#[], rfl, fun W' _ => rfl, by simp, fun i hi => absurd hi (Nat.not_lt_zero _)⟩
  · split at h
    · rename_i s' m' get' hsrc
      split at h
      · rename_i hs
        subst hs
        cases h
        obtain ⟨news, hn⟩ := srcAt_src (P := P) h0 (srcN_at hst hsrc hx)
        exact ⟨news, cutG_src hn⟩
      · cases h
    · cases h
end
end Go.Proofs.Eng
