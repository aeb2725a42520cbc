/- The engine, part 21r: append to rows that hold references. -/
import Derived.Test.YthcmmpoifgoniaaE21
set_option linter.unusedVariables false
set_option linter.unusedSimpArgs false
namespace Go.Proofs.Eng

/-- What is appended to a row of cells: how many elements, their cells. -/
def srcR (H : NH) (s : Nat) (x : NV) : Option (Nat × List NV) :=
  match x with
  | .p (.v (.slice none 0 _)) => some (0, [])
  | .full id => match H[id]? with
    | some (.row _ s' cells) => if s' = s then some (cells.length / s, cells) else none
    | _ => none
  | .part id off len _ => match H[id]? with
    | some (.row _ s' cells) => if s' = s then some (len, (cells.drop (off * s)).take (len * s)) else none
    | _ => none
  | _ => none
def appendR (P : Program) (H : NH) (ts : Array TypeId) (d x : NV) : Option (NV × NH × Option Nat) :=
  match ts[0]?, ts[1]? with
  | some T, some T2 =>
    match P.underlying T, isIntTy P T2 with
    | some (.slice e), some false =>
      match elemOf P e with
      | some (s, b, z) =>
        match srcR H s x with
        | some (m, cs) =>
          if emptyDst d then
            if (2 * m + 192) * b ≤ 281474976710656 then some (.full H.length, H ++ [.row e s cs], none) else none
          else match d with
            | .full id =>
              match H[id]? with
              | some (.row T' s' cells) =>
                if T' = e ∧ s' = s then
                  if (2 * (cells.length / s + m) + 192) * b ≤ 281474976710656 then some (.full id, cleanH (only id) (H.set id (.row e s (cleanL (only id) (cells ++ cs)))), some id) else none
                else none
              | _ => none
            | _ => none
        | none => none
      | none => none
    | _, _ => none
  | _, _ => none

/-- Nothing is appended to nil. -/
def appZ (P : Program) (H : NH) (ts : Array TypeId) (d x : NV) : Option (NV × NH × Option Nat) :=
  if isNilN d then
    match ts[0]?, ts[1]? with
    | some T, some T2 =>
      match P.underlying T, isIntTy P T2 with
      | some (.slice e), some false =>
        match elemOf P e with
        | some (s, b, z) =>
          match srcA H s z x with
          | some (0, _) => some (d, H, none)
          | _ => none
        | none => none
      | _, _ => none
    | _, _ => none
  else none
def appN (P : Program) (H : NH) (ts : Array TypeId) (d x : NV) : Option (NV × NH × Option Nat) :=
  match appZ P H ts d x with
  | some r => some r
  | none => match appendN P H ts d x with
    | some r => some r
    | none => appendR P H ts d x

mutual
theorem cleanV_idem (A : Nat → Bool) (x : NV) : cleanV A (cleanV A x) = cleanV A x := by
  cases x with
  | fn f a b => simp only [cleanV, cleanL_idem A a, cleanL_idem A b]
  | agg xs => simp only [cleanV, cleanL_idem A xs]
  | tup xs => simp only [cleanV, cleanL_idem A xs]
  | p x => rfl
  | xsl => rfl
  | vp => rfl
  | junk => rfl
  | ptr id off => simp only [cleanV]; split <;> simp_all [cleanV]
  | pe id i j => simp only [cleanV]; split <;> simp_all [cleanV]
  | full id => simp only [cleanV]; split <;> simp_all [cleanV]
  | part id off len e => simp only [cleanV]; split <;> simp_all [cleanV]
  | map id => simp only [cleanV]; split <;> simp_all [cleanV]
  | yld id => simp only [cleanV]; split <;> simp_all [cleanV]
theorem cleanL_idem (A : Nat → Bool) (xs : List NV) : cleanL A (cleanL A xs) = cleanL A xs := by
  cases xs with
  | nil => rfl
  | cons x xs => simp only [cleanL, cleanV_idem A x, cleanL_idem A xs]
end

section
variable {β : Beta} {H : NH} {P : Program} {W : World}

/-- Cells of a row, from k on. -/
theorem row_src {id s n k : Nat} {T : TypeId} {cells : List NV} {l : Loc} {c : Nat} (hst : St W.heap β H) (ho : H[id]? = some (.row T s cells)) (hl : β id = some l) (hk : k + n * s ≤ cells.length) :
    ∃ news, SrcB P W s n (.slice (some (slot l k)) n c) news ∧ RepC W.heap (Imm W.heap β H) β H ((cells.drop k).take (n * s)) news := by
  obtain ⟨cs, fr, c1, c2, c3, h0, hd, c6⟩ := (hst.obj id _ ho).at hl
  have hex : ∀ j, j < n * s → ∃ y, cs[l.o + (k + j)]? = some y := fun j hj => by
    have h1 : cells.length ≤ l.k * s := c3.1
    have h2 : l.o + (k + j) < cs.size := by have := c3.2; omega
    exact ⟨_, Array.getElem?_eq_getElem h2⟩
  refine ⟨((List.range (n * s)).map fun j => (cs[l.o + (k + j)]?).getD undef).toArray, ⟨rfl, fun W' hW' => ?_⟩, by simp; omega, fun i x y hx hy => ?_⟩
  · simp only [Builtin.firstCells]
    refine run_loadCells W' _ _ _ fun j hj => ?_
    obtain ⟨y, hy⟩ := hex j hj
    rw [add_slot, cell_of_heap hW', slot, cell?_eq, cellAt, c1]
    simp only [hy, Option.getD_some]
  · rw [List.getElem?_take] at hx
    split at hx
    · rename_i hi
      rw [List.getElem?_drop] at hx
      obtain ⟨y', hy'⟩ := hex i hi
      simp only [List.getElem?_toArray, List.getElem?_map, List.getElem?_range hi, Option.map_some, hy', Option.getD_some] at hy
      cases hy
      exact c6 _ x _ hx hy'
    · cases hx
theorem srcR_src {s m : Nat} {cs : List NV} {x : NV} {a : Value} (h0 : 0 < s) (hst : St W.heap β H) (h : srcR H s x = some (m, cs)) (hx : (Rep W.heap (Imm W.heap β H) β H) x a) :
    ∃ news, SrcB P W s m a news ∧ cs.length = m * s ∧ RepC W.heap (Imm W.heap β H) β H cs news := by
  unfold srcR at h
  split at h
  · cases h
    obtain rfl := hx.v_inv
    exact ⟨#[], ⟨rfl, fun W' _ => rfl⟩, by simp, rfl, fun i x y hx => by simp at hx⟩
  · rename_i id
    split at h
    · rename_i T s' cells ho
      split at h
      · rename_i hs
        subst hs
        cases h
        rcases full_inv hst (by rw [ho]; rfl) hx with ⟨h1, hl, A, rfl⟩ | ⟨l, c, hl, hc, hk, rfl⟩
        · have hn := hst.obj id _ ho
          unfold ObjRep at hn
          rw [hl] at hn
          obtain ⟨rfl, _⟩ := hn
          refine ⟨#[], ⟨by rw [List.length_nil, Nat.zero_div]; rfl, fun W' _ => ?_⟩, by simp, rfl, fun i x y hx => by simp at hx⟩
          rw [List.length_nil, Nat.zero_div]
          cases A <;> simp [Builtin.firstCells, loadCells, loadCellsFrom]
        · have hd : s' ∣ cs.length := by obtain ⟨ca, fr, c1, c2, c3, c4, c5, c6⟩ := (hst.obj id _ ho).at hl; exact c5
          have he : cs.length / s' * s' = cs.length := Nat.div_mul_cancel hd
          obtain ⟨news, k1, k2⟩ := row_src (P := P) (n := cs.length / s') (k := 0) (c := c) hst ho hl (by omega)
          refine ⟨news, k1, he.symm, ?_⟩
          rw [List.drop_zero, he, List.take_length] at k2
          exact k2
      · cases h
    · cases h
  · rename_i id off len ex
    split at h
    · rename_i T s' cells ho
      split at h
      · rename_i hs
        subst hs
        cases h
        rcases part_inv (by rw [ho]; rfl) hx with ⟨rfl, A, rfl⟩ | ⟨l, c, hl, hn, hc, he, rfl⟩
        · refine ⟨#[], ⟨rfl, fun W' _ => ?_⟩, by simp, by simp, fun i x y hx => by simp at hx⟩
          cases A <;> simp [Builtin.firstCells, loadCells, loadCellsFrom]
        · have hd : s' ∣ cells.length := by obtain ⟨cs, fr, c1, c2, c3, c4, c5, c6⟩ := (hst.obj id _ ho).at hl; exact c5
          have hle : off * s' + m * s' ≤ cells.length := by
            rw [← Nat.add_mul]
            have := Nat.mul_le_mul_right s' hn
            rwa [Nat.div_mul_cancel hd] at this
          obtain ⟨news, k1, k2⟩ := row_src (P := P) (n := m) (k := off * s') (c := c) hst ho hl hle
          exact ⟨news, k1, by simp; omega, k2⟩
      · cases h
    · cases h
  · cases h
/-- Two rows of cells one behind the other. -/
theorem catR_obj {s n m k n0 : Nat} {e : TypeId} {cells cs : List NV} {olds news rest : Array Value} {imm : Nat → Prop} {hp : Heap} {β' : Beta} {H' : NH} (h0 : 0 < s) (hn : cells.length = n * s) (hm : cs.length = m * s) (hk : n + m ≤ k)
    (hrs : rest.size = (k - (n + m)) * s) (hb : hp[n0]? = some (.cells (olds ++ news ++ rest) e (0, 0))) (ho : RepC hp imm β' H' cells olds) (hnw : RepC hp imm β' H' cs news) :
    ObjAt hp imm β' H' ⟨n0, 0, k⟩ (.row e s (cells ++ cs)) := by
  have hos : olds.size = n * s := by rw [ho.1, hn]
  have hns : news.size = m * s := by rw [hnw.1, hm]
  have hsz : (olds ++ news ++ rest).size = k * s := by
    simp only [Array.size_append, hos, hns, hrs]
    rw [← Nat.add_mul, ← Nat.add_mul]; congr 1; omega
  have hle : (n + m) * s ≤ k * s := Nat.mul_le_mul_right _ hk
  rw [Nat.add_mul] at hle
  refine ⟨_, (0, 0), hb, unfrozen0 _, ⟨by simp only [List.length_append, hn, hm]; exact hle, by rw [hsz]; simp⟩, h0, ?_, fun i x y hx hy => ?_⟩
  · rw [List.length_append, hn, hm, ← Nat.add_mul]; exact Nat.dvd_mul_left _ _
  · simp only [Nat.zero_add] at hy
    by_cases hi : i < cells.length
    · rw [List.getElem?_append_left hi] at hx
      rw [Array.append_assoc, Array.getElem?_append_left (by omega)] at hy
      exact ho.2 i x y hx hy
    · rw [List.getElem?_append_right (by omega)] at hx
      have hi2 : i - cells.length < cs.length := (List.getElem?_eq_some_iff.1 hx).1
      rw [Array.append_assoc, Array.getElem?_append_right (by omega), show i - olds.size = i - cells.length by omega, Array.getElem?_append_left (by omega)] at hy
      exact hnw.2 _ x y hx hy
theorem RepC.clean {β' : Beta} {H' : NH} {hp' : Heap} {A : Nat → Bool} (g : Good W.heap β H hp' β' H' A) {cs : List NV} {c : Array Value} (h : RepC W.heap (Imm W.heap β H) β H cs c) :
    RepC hp' (Imm hp' β' H') β' H' (cleanL A cs) c := by
  refine ⟨by rw [cleanL_eq, List.length_map]; exact h.1, fun i x y hx hy => ?_⟩
  rw [cleanL_eq, List.getElem?_map, Option.map_eq_some_iff] at hx
  obtain ⟨x0, hx, rfl⟩ := hx
  exact ⟨(h.2 i x0 y hx hy).1, g.rep (h.2 i x0 y hx hy).2⟩
theorem cleanL_app (A : Nat → Bool) (xs ys : List NV) : cleanL A (xs ++ ys) = cleanL A xs ++ cleanL A ys := by simp [cleanL_eq]
theorem cleanL_len (A : Nat → Bool) (xs : List NV) : (cleanL A xs).length = xs.length := by simp [cleanL_eq]
theorem repC_ones {hp : Heap} {imm : Nat → Prop} {cs : List NV} {c : Array Value} (h : RepC hp imm β H cs c) : ∀ u ∈ c.toList, u.oneCell' = true := by
  intro u hu
  obtain ⟨i, hi⟩ := List.getElem?_of_mem hu
  rw [Array.getElem?_toList] at hi
  have hlt : i < cs.length := by rw [← h.1]; exact (Array.getElem?_eq_some_iff.1 hi).1
  exact (h.2 i cs[i] u (List.getElem?_eq_getElem hlt) hi).1
theorem appendR_run {ts : Array TypeId} {ty : TypeId} {d x r : NV} {a b : Value} {H' : NH} {A : Option Nat} (hst : St W.heap β H) (h : appendR P H ts d x = some (r, H', A)) (hd : (Rep W.heap (Imm W.heap β H) β H) d a) (hx : (Rep W.heap (Imm W.heap β H) β H) x b) :
    ∃ v W' β', (Builtin.append_ ts ty #[a, b]).run P W = .ok v W' ∧ Step β H W β' H' W' (maskA A) ∧ Rep W'.heap (Imm W'.heap β' H') β' H' r v := by
  unfold appendR at h
  split at h
  · rename_i T T2 hT hT2
    split at h
    · rename_i e hu hi
      split at h
      · rename_i s bt z he
        obtain ⟨inf, v0, i1, i2, i3, i4, h0, i6, i7, i8, i9⟩ := elemOf_inv he
        split at h
        · rename_i m cs hsrc0
          obtain ⟨news, hsrc, hcs, hrep⟩ := srcR_src (P := P) h0 hst hsrc0 hx
          have hone := repC_ones hrep
          have hns : news.size = m * s := by rw [hrep.1, hcs]
          have hmk : cs.length / s = m := by rw [hcs]; exact Nat.mul_div_cancel _ h0
          split at h
          · rename_i hed
            split at h
            · rename_i hbd
              cases h
              obtain ⟨A, rfl⟩ := emptyDst_inv hed hd
              rcases Nat.eq_zero_or_pos m with rfl | hm
              · have hn0 : news.toList = [] := by
                  simp at hns; simp [hns]
                have hc0 : cs = [] := List.eq_nil_of_length_eq_zero (by rw [hcs]; simp)
                subst hc0
                have hrun := append_fits (P := P) (W := W) (ty := ty) (n := 0) (c := 0) (A := A) (W' := W) hT hT2 hu hi he hsrc (by omega) (fun a _ => by rw [hn0]; rfl) (fun _ => rfl)
                exact ⟨_, _, _, hrun, Step.ghost hst _ ⟨rfl, h0⟩, .full0 _ A (by simp [NilAt]) (upd_self _ _ _)⟩
              · obtain ⟨k, rest, W', k1, k2, k3, k4, k5⟩ := append_grows (P := P) (W := W) (ty := ty) (n := 0) (c := 0) (A := A) (olds := #[]) hT hT2 hu hi he hsrc (by omega) (by omega) (by simpa using hbd)
                  (fun W' _ => by cases A <;> simp [Builtin.firstCells, loadCells, loadCellsFrom]) (by simp)
                have hs1 := Step.alloc hst (.cells (#[] ++ news ++ rest) e) (.row e s cs) k (fun β' H' e1 e2 g => by
                  have := catR_obj (hp := W.heap.push (.cells (#[] ++ news ++ rest) e)) (imm := Imm (W.heap.push (.cells (#[] ++ news ++ rest) e)) β' H') (β' := β') (H' := H') (n := 0) (m := m) (k := k) (n0 := W.heap.size) (cells := []) (cs := cs) (olds := #[]) (news := news) (rest := rest) (e := e) h0
                    (by simp) hcs (by omega) k2 (by simp) ⟨rfl, fun i x y hx => by simp at hx⟩ (RepC.mono (W' := atHeap W (W.heap.push (.cells (#[] ++ news ++ rest) e))) g hrep)
                  simpa using this)
                refine ⟨_, W', _, k5, hs1.world k3 k4, ?_⟩
                rw [k3]
                have := Rep.fullR (hp := W.heap.push (.cells (#[] ++ news ++ rest) e)) (imm := Imm (W.heap.push (.cells (#[] ++ news ++ rest) e)) (upd β H.length (some ⟨W.heap.size, 0, k⟩)) (H ++ [.row e s cs]))
                  (β := upd β H.length (some ⟨W.heap.size, 0, k⟩)) (H := H ++ [.row e s cs]) H.length ⟨W.heap.size, 0, k⟩ e s cs k (by simp) (by rw [hmk]; omega) (Nat.le_refl _) (upd_self _ _ _)
                rw [hmk] at this
                rw [Nat.zero_add]
                exact this
            · cases h
          · split at h
            · rename_i id hed
              split at h
              · rename_i T' s' cells ho
                split at h
                · rename_i hts
                  obtain ⟨rfl, rfl⟩ := hts
                  split at h
                  · rename_i hbd
                    cases h
                    have hlen := (List.getElem?_eq_some_iff.1 ho).1
                    have hcl : cleanO (only id) (.row T' s' (cleanL (only id) (cells ++ cs))) = .row T' s' (cleanL (only id) (cells ++ cs)) := by simp only [cleanO, cleanL_idem]
                    have hget : (cleanH (only id) (H.set id (.row T' s' (cleanL (only id) (cells ++ cs)))))[id]? = some (.row T' s' (cleanL (only id) (cells ++ cs))) := by
                      rw [cleanH_get, List.getElem?_set_self hlen, Option.map_some, hcl]
                    rcases full_inv hst (by rw [ho]; rfl) hd with ⟨h1, hl, A, rfl⟩ | ⟨l, c, hl, hc, hk, rfl⟩
                    · have hn := hst.obj id _ ho
                      unfold ObjRep at hn
                      rw [hl] at hn
                      obtain ⟨rfl, _⟩ := hn
                      simp only [List.nil_append] at hget hcl ⊢
                      rcases Nat.eq_zero_or_pos m with rfl | hm
                      · have hn0 : news.toList = [] := by
                          simp at hns; simp [hns]
                        have hc0 : cs = [] := List.eq_nil_of_length_eq_zero (by rw [hcs]; simp)
                        subst hc0
                        have hrun := append_fits (P := P) (W := W) (ty := ty) (n := 0) (c := 0) (A := A) (W' := W) hT hT2 hu hi he hsrc (by omega) (fun a _ => by rw [hn0]; rfl) (fun _ => rfl)
                        have hs1 := Step.grows (W' := W) (l' := none) (o' := .row T' s' (cleanL (only id) [])) hst ho rfl rfl hcl (Same.refl W) (Nat.le_refl _) (fun _ _ _ => rfl) (fun x hx => by cases hx)
                          (fun β' H' e1 e2 g => .mkNil (by rw [e1, upd_self]) ⟨rfl, h0⟩)
                        exact ⟨_, _, _, hrun, hs1, .full0 _ A (by rw [hget]; rfl) (upd_self _ _ _)⟩
                      · obtain ⟨k, rest, W', k1, k2, k3, k4, k5⟩ := append_grows (P := P) (W := W) (ty := ty) (n := 0) (c := 0) (A := A) (olds := #[]) hT hT2 hu hi he hsrc (by omega) (by omega) (by simpa using hbd)
                          (fun W' _ => by cases A <;> simp [Builtin.firstCells, loadCells, loadCellsFrom]) (by simp)
                        have hs1 := Step.grows (W' := W') (l' := some ⟨W.heap.size, 0, k⟩) (o' := .row T' s' (cleanL (only id) cs)) hst ho rfl rfl hcl k4 (by rw [k3]; simp) (fun b hb _ => by rw [k3, Array.getElem?_push, if_neg (by omega)])
                          (fun x hx => by cases hx; exact .inl (Nat.le_refl _))
                          (fun β' H' e1 e2 g => ObjRep.mk (l := ⟨W.heap.size, 0, k⟩) (by rw [e1, upd_self]) (by
                            have := catR_obj (hp := W'.heap) (imm := Imm W'.heap β' H') (β' := β') (H' := H') (n := 0) (m := m) (k := k) (n0 := W.heap.size) (cells := []) (cs := cleanL (only id) cs) (olds := #[]) (news := news) (rest := rest) (e := T') h0
                              (by simp) (by rw [cleanL_len, hcs]) (by omega) k2 (by rw [k3]; simp) ⟨rfl, fun i x y hx => by simp at hx⟩ (RepC.clean g hrep)
                            simpa using this))
                        refine ⟨_, W', _, k5, hs1, ?_⟩
                        have := Rep.fullR (hp := W'.heap) (imm := Imm W'.heap (upd β id (some ⟨W.heap.size, 0, k⟩)) (cleanH (only id) (H.set id (.row T' s' (cleanL (only id) cs))))) (β := upd β id (some ⟨W.heap.size, 0, k⟩))
                          (H := cleanH (only id) (H.set id (.row T' s' (cleanL (only id) cs)))) id ⟨W.heap.size, 0, k⟩ T' s' _ k hget (by rw [cleanL_len, hmk]; omega) (Nat.le_refl _) (upd_self _ _ _)
                        rw [cleanL_len, hmk] at this
                        rw [Nat.zero_add]
                        exact this
                    · obtain ⟨co, fr, c1, c2, c3, _, c5, c6⟩ := (hst.obj id _ ho).at hl
                      have hdv : cells.length / s' * s' = cells.length := Nat.div_mul_cancel c5
                      obtain ⟨n, hn⟩ : ∃ n, cells.length / s' = n := ⟨_, rfl⟩
                      rw [hn] at hdv hc hbd ⊢
                      have hdl : (cleanL (only id) (cells ++ cs)).length / s' = n + m := by
                        rw [cleanL_len, List.length_append, hcs, ← hdv, ← Nat.add_mul]; exact Nat.mul_div_cancel _ h0
                      by_cases hfit : n + m ≤ c
                      · have hroom : l.o + n * s' + news.toList.length ≤ co.size := by
                          rw [Array.length_toList, hns]
                          have : (n + m) * s' ≤ l.k * s' := Nat.mul_le_mul_right _ (by omega)
                          rw [Nat.add_mul] at this
                          have := c3.2
                          omega
                        have hsto := storeCells_run (P := P) news.toList W l.b (l.o + n * s') 0 co T' fr c1 c2 (by simpa using hroom) hone
                        simp only [Nat.add_zero] at hsto
                        have hrun := append_fits (P := P) (W := W) (ty := ty) (n := n) (c := c) (A := some (slot l 0)) (W' := atHeap W (W.heap.setIfInBounds l.b (.cells (setMany co (l.o + n * s') news.toList) T' fr))) hT hT2 hu hi he hsrc hfit (fun a ha => by cases ha; rw [add_slot]; simpa [slot] using hsto) (fun e => by cases e)
                        have hsz : (setMany co (l.o + n * s') news.toList).size = co.size := setMany_size hroom
                        have hs1 := Step.grows (W' := atHeap W (W.heap.setIfInBounds l.b (.cells (setMany co (l.o + n * s') news.toList) T' fr))) (l' := some l) (o' := .row T' s' (cleanL (only id) (cells ++ cs))) hst ho rfl rfl hcl (Same.atHeap _ _) (by simp [atHeap])
                          (fun b hb hbl => by simp only [atHeap]; rw [Array.getElem?_setIfInBounds_ne (hbl l hl)]) (fun x hx => by cases hx; exact .inr ⟨_, hl, rfl⟩)
                          (fun β' H' e1 e2 g => ObjRep.mk (l := l) (by rw [e1, upd_self]) (by
                            have hle : (n + m) * s' ≤ l.k * s' := Nat.mul_le_mul_right _ (by omega)
                            rw [Nat.add_mul] at hle
                            refine ⟨_, fr, Array.getElem?_setIfInBounds_self_of_lt (Array.getElem?_eq_some_iff.1 c1).1, fun k hk => c2 k (by rwa [hsz] at hk), ⟨by rw [cleanL_len, List.length_append, hcs]; omega, by rw [hsz]; exact c3.2⟩, h0, ?_, fun i x y hx hy => ?_⟩
                            · rw [cleanL_len, List.length_append, hcs, ← hdv, ← Nat.add_mul]; exact Nat.dvd_mul_left _ _
                            · rw [cleanL_app] at hx
                              have hold : RepC _ _ β' H' (cleanL (only id) cs) news := RepC.clean g hrep
                              by_cases hin : i < cells.length
                              · rw [List.getElem?_append_left (by rw [cleanL_len]; exact hin), cleanL_eq, List.getElem?_map, Option.map_eq_some_iff] at hx
                                obtain ⟨x0, hx, rfl⟩ := hx
                                rw [setMany_get hroom, if_neg (by omega)] at hy
                                exact ⟨(c6 i x0 y hx hy).1, g.rep (c6 i x0 y hx hy).2⟩
                              · rw [List.getElem?_append_right (by rw [cleanL_len]; omega), cleanL_len] at hx
                                have hi2 := (List.getElem?_eq_some_iff.1 hx).1
                                rw [cleanL_len, hcs] at hi2
                                rw [setMany_get hroom, if_pos (by rw [Array.length_toList, hns]; omega), Array.getElem?_toList, show l.o + i - (l.o + n * s') = i - cells.length by omega] at hy
                                exact hold.2 _ x y hx hy))
                        refine ⟨_, _, _, hrun, hs1, ?_⟩
                        have := Rep.fullR (hp := (atHeap W (W.heap.setIfInBounds l.b (.cells (setMany co (l.o + n * s') news.toList) T' fr))).heap) (imm := Imm (atHeap W (W.heap.setIfInBounds l.b (.cells (setMany co (l.o + n * s') news.toList) T' fr))).heap (upd β id (some l)) (cleanH (only id) (H.set id (.row T' s' (cleanL (only id) (cells ++ cs))))))
                          (β := upd β id (some l)) (H := cleanH (only id) (H.set id (.row T' s' (cleanL (only id) (cells ++ cs))))) id l T' s' _ c hget (by rw [hdl]; exact hfit) hk (upd_self _ _ _)
                        rw [hdl] at this
                        exact this
                      · obtain ⟨olds, hold, hro⟩ := row_src (P := P) (n := n) (k := 0) (c := c) hst ho hl (by omega)
                        rw [List.drop_zero, hdv, List.take_length] at hro
                        obtain ⟨k, rest, W', k1, k2, k3, k4, k5⟩ := append_grows (P := P) (W := W) (ty := ty) (n := n) (c := c) (A := some (slot l 0)) (olds := olds) hT hT2 hu hi he hsrc (by omega) hc hbd hold.cells (by rw [hro.1, hdv])
                        have hs1 := Step.grows (W' := W') (l' := some ⟨W.heap.size, 0, k⟩) (o' := .row T' s' (cleanL (only id) (cells ++ cs))) hst ho rfl rfl hcl k4 (by rw [k3]; simp) (fun b hb _ => by rw [k3, Array.getElem?_push, if_neg (by omega)])
                          (fun x hx => by cases hx; exact .inl (Nat.le_refl _))
                          (fun β' H' e1 e2 g => ObjRep.mk (l := ⟨W.heap.size, 0, k⟩) (by rw [e1, upd_self]) (by
                            rw [cleanL_app]
                            exact catR_obj (rest := rest) (olds := olds) (news := news) h0 (by rw [cleanL_len, hdv]) (by rw [cleanL_len, hcs]) k1 k2 (by rw [k3]; simp) (RepC.clean g hro) (RepC.clean g hrep)))
                        refine ⟨_, W', _, k5, hs1, ?_⟩
                        have := Rep.fullR (hp := W'.heap) (imm := Imm W'.heap (upd β id (some ⟨W.heap.size, 0, k⟩)) (cleanH (only id) (H.set id (.row T' s' (cleanL (only id) (cells ++ cs)))))) (β := upd β id (some ⟨W.heap.size, 0, k⟩))
                          (H := cleanH (only id) (H.set id (.row T' s' (cleanL (only id) (cells ++ cs))))) id ⟨W.heap.size, 0, k⟩ T' s' _ k hget (by rw [hdl]; exact k1) (Nat.le_refl _) (upd_self _ _ _)
                        rw [hdl] at this
                        exact this
                  · cases h
                · cases h
              · cases h
            · cases h
        · cases h
      · cases h
    · cases h
  · cases h
theorem appZ_run {ts : Array TypeId} {ty : TypeId} {d x r : NV} {a b : Value} {H' : NH} {A : Option Nat} (hst : St W.heap β H) (h : appZ P H ts d x = some (r, H', A)) (hd : (Rep W.heap (Imm W.heap β H) β H) d a) (hx : (Rep W.heap (Imm W.heap β H) β H) x b) :
    ∃ v W' β', (Builtin.append_ ts ty #[a, b]).run P W = .ok v W' ∧ Step β H W β' H' W' (maskA A) ∧ Rep W'.heap (Imm W'.heap β' H') β' H' r v := by
  unfold appZ at h
  split at h
  · rename_i hnil
    split at h
    · rename_i T T2 hT hT2
      split at h
      · rename_i e hu hi
        split at h
        · rename_i s bt z he
          obtain ⟨inf, v0, i1, i2, i3, i4, h0, i6, i7, i8, i9⟩ := elemOf_inv he
          split at h
          · rename_i get2 hsrc0
            cases h
            obtain ⟨news, hsrc⟩ := srcA_src (P := P) h0 hst hsrc0 hx
            obtain rfl := isNil_inv hnil hd
            exact ⟨_, W, β, append_fits (P := P) (W := W) (ty := ty) (n := 0) (c := 0) (A := none) (W' := W) hT hT2 hu hi he hsrc.toB (by omega) (fun a ha => by cases ha) (fun _ => rfl), Step.refl hst, hd⟩
          · cases h
        · cases h
      · cases h
    · cases h
  · cases h
theorem appN_run {ts : Array TypeId} {ty : TypeId} {d x r : NV} {a b : Value} {H' : NH} {A : Option Nat} (hst : St W.heap β H) (h : appN P H ts d x = some (r, H', A)) (hd : (Rep W.heap (Imm W.heap β H) β H) d a) (hx : (Rep W.heap (Imm W.heap β H) β H) x b) :
    ∃ v W' β', (Builtin.append_ ts ty #[a, b]).run P W = .ok v W' ∧ Step β H W β' H' W' (maskA A) ∧ Rep W'.heap (Imm W'.heap β' H') β' H' r v := by
  unfold appN at h
  split at h
  · rename_i h1; cases h; exact appZ_run hst h1 hd hx
  split at h
  · rename_i h1; cases h; exact appendN_run hst h1 hd hx
  · exact appendR_run hst h hd hx
end
end Go.Proofs.Eng
