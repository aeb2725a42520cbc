/- The engine, part 21: append, what it comes to. -/
import Derived.Test.YthcmmpoifgoniaaE20
set_option linter.unusedVariables false
set_option linter.unusedSimpArgs false
namespace Go.Proofs.Eng

def maskA : Option Nat → Nat → Bool
  | none => none?
  | some i => only i

theorem put_good {hp hp' : Heap} {β : Beta} {H : NH} {A : Nat → Bool} (h : St hp β H) (id : Nat) (o o' : NO) (l' : Option Loc) (hid : H[id]? = some o) (hw : o.owned = true) (hw' : o'.owned = true)
    (hsz : hp.size ≤ hp'.size) (hhp : ∀ b, b < hp.size → (∀ l, β id = some l → l.b ≠ b) → hp'[b]? = hp[b]?)
    (hl' : ∀ x, l' = some x → hp.size ≤ x.b ∨ ∃ l, β id = some l ∧ l.b = x.b)
    (hA : ∀ i, A i = true → i = id) (hs : A id = false → l' = β id ∧ Shape (some o) (some o')) : Good hp β H hp' (upd β id l') (cleanH A (H.set id o')) A := by
  have hlen : id < H.length := (List.getElem?_eq_some_iff.1 hid).1
  refine ⟨⟨?_, hsz⟩, ?_, fun i x m h1 h2 h3 => ?_⟩
  case refine_3 =>
    rw [cleanH_get, Option.map_eq_some_iff] at h1
    obtain ⟨x0, h1, rfl⟩ := h1
    by_cases hi : i = id
    · subst hi
      rw [upd_self] at h3
      rcases hl' m h3 with k1 | ⟨l, k1, k2⟩
      · exact .inr fun hi => Nat.lt_irrefl _ (Nat.lt_of_lt_of_le hi.1 k1)
      · exact .inr fun hi => hi.2 ⟨i, o, l, hid, hw, k1, k2⟩
    · rw [List.getElem?_set_ne (Ne.symm hi)] at h1
      rw [upd_ne hi] at h3
      exact .inl ⟨x0, h1, by rwa [cleanO_alive] at h2, h3⟩
  · rintro b ⟨hb, hn⟩
    refine ⟨⟨Nat.lt_of_lt_of_le hb hsz, ?_⟩, hhp b hb fun l hl e => hn ⟨id, o, l, hid, hw, hl, e⟩⟩
    rintro ⟨i, x, m, hx, hxw, hm, rfl⟩
    rw [cleanH_get, Option.map_eq_some_iff] at hx
    obtain ⟨x0, hx, rfl⟩ := hx
    by_cases hi : i = id
    · subst hi
      rw [upd_self] at hm
      rcases hl' m hm with h1 | ⟨l, h1, h2⟩
      · omega
      · exact hn ⟨i, o, l, hid, hw, h1, h2⟩
    · rw [List.getElem?_set_ne (Ne.symm hi)] at hx
      rw [upd_ne hi] at hm; exact hn ⟨i, x0, m, hx, by rwa [cleanO_owned] at hxw, hm, rfl⟩
  · intro i hi hAi
    refine ⟨by rw [cleanH_length, List.length_set]; exact hi, ?_, ?_⟩
    · by_cases he : i = id
      · subst he; exact .inl (by rw [upd_self]; exact (hs hAi).1)
      · exact .inl (upd_ne he)
    · rw [cleanH_get]
      by_cases he : i = id
      · subst he
        rw [List.getElem?_set_self hlen, hid]
        exact (hs hAi).2.trans (Shape.clean A (some o'))
      · rw [List.getElem?_set_ne (Ne.symm he)]
        exact Shape.clean A _

section
variable {β : Beta} {H : NH} {P : Program} {W : World}

theorem Step.world {β' : Beta} {H' : NH} {W1 W2 : World} {A : Nat → Bool} (h : Step β H W β' H' W1 A) (he : W2.heap = W1.heap) (hs : Same W W2) : Step β H W β' H' W2 A :=
  ⟨by rw [he]; exact h.st, by rw [he]; exact h.good, hs⟩
/-- A row that grows: its cells lie at l' then. -/
theorem Step.grows {id : Nat} {o o' : NO} {l' : Option Loc} {W' : World} (hst : St W.heap β H) (hid : H[id]? = some o) (hw : o.owned = true) (hw' : o'.owned = true) (hcl : cleanO (only id) o' = o')
    (hsame : Same W W') (hsz : W.heap.size ≤ W'.heap.size) (hhp : ∀ b, b < W.heap.size → (∀ l, β id = some l → l.b ≠ b) → W'.heap[b]? = W.heap[b]?)
    (hl' : ∀ x, l' = some x → W.heap.size ≤ x.b ∨ ∃ l, β id = some l ∧ l.b = x.b)
    (ho : ∀ β' H', β' = upd β id l' → H' = cleanH (only id) (H.set id o') → Good W.heap β H W'.heap β' H' (only id) → ObjRep W'.heap (Imm W'.heap β' H') β' H' id o') :
    Step β H W (upd β id l') (cleanH (only id) (H.set id o')) W' (only id) := by
  have hA : ∀ i, only id i = true → i = id := fun i hi => by simpa [only] using hi
  have hs : only id id = false → l' = β id ∧ Shape (some o) (some o') := fun h => by simp [only] at h
  have g := put_good hst id _ o' l' hid hw hw' hsz hhp hl' hA hs
  obtain ⟨k1, k2⟩ := hst.put id _ o' l' hid hw hw' hsz hhp hl' hA hs (by rw [hcl]; exact ho _ _ rfl rfl g)
  exact ⟨k1, k2, hsame⟩

/-- Two rows one behind the other. -/
theorem cat_obj {s n m k n0 : Nat} {e : TypeId} {get get2 : Nat → List VV} {olds news rest : Array Value} {imm : Nat → Prop} {hp : Heap} {β' : Beta} {H' : NH} (h0 : 0 < s) (hos : olds.size = n * s)
    (hns : news.size = m * s) (hk : n + m ≤ k) (hrs : rest.size = (k - (n + m)) * s) (hb : hp[n0]? = some (.cells (olds ++ news ++ rest) e (0, 0)))
    (ho : ∀ i, i < n → (get i).length = s ∧ ∀ (j : Nat) (x : VV) (y : Value), (get i)[j]? = some x → olds[i * s + j]? = some y → y.oneCell' = true ∧ PV hp imm x y)
    (hn : ∀ i, i < m → (get2 i).length = s ∧ ∀ (j : Nat) (x : VV) (y : Value), (get2 i)[j]? = some x → news[i * s + j]? = some y → y.oneCell' = true ∧ PV hp imm x y) :
    ObjAt hp imm β' H' ⟨n0, 0, k⟩ (.prow e true s (n + m) (catG get n get2)) := by
  have hsz : (olds ++ news ++ rest).size = k * s := by
    simp only [Array.size_append, hos, hns, hrs]
    rw [← Nat.add_mul, ← Nat.add_mul]; congr 1; omega
  refine ⟨_, (0, 0), hb, fun _ => unfrozen0 _, ⟨hk, by rw [hsz]; simp⟩, h0, fun i hi => ?_⟩
  simp only [Nat.zero_add, catG]
  by_cases hlt : i < n
  · rw [if_pos hlt]
    refine ⟨(ho i hlt).1, fun j x y hx hy => ?_⟩
    have hj : j < s := by rw [← (ho i hlt).1]; exact (List.getElem?_eq_some_iff.1 hx).1
    have hio : i * s + j < olds.size := by
      have : (i + 1) * s ≤ n * s := Nat.mul_le_mul_right _ hlt
      rw [Nat.succ_mul] at this; omega
    rw [Array.append_assoc, Array.getElem?_append_left hio] at hy
    exact (ho i hlt).2 j x y hx hy
  · rw [if_neg hlt]
    refine ⟨(hn (i - n) (by omega)).1, fun j x y hx hy => ?_⟩
    have hj : j < s := by rw [← (hn (i - n) (by omega)).1]; exact (List.getElem?_eq_some_iff.1 hx).1
    have hio : i * s + j - olds.size = (i - n) * s + j := by
      rw [hos, Nat.sub_mul]
      have : n * s ≤ i * s := Nat.mul_le_mul_right _ (by omega)
      omega
    have hin : (i - n) * s + j < news.size := by
      have : (i - n + 1) * s ≤ m * s := Nat.mul_le_mul_right _ (by omega)
      rw [Nat.succ_mul] at this; omega
    rw [Array.append_assoc, Array.getElem?_append_right (by
      rw [hos]
      have : n * s ≤ i * s := Nat.mul_le_mul_right _ (by omega)
      omega), hio, Array.getElem?_append_left hin] at hy
    exact (hn (i - n) (by omega)).2 j x y hx hy
theorem catG_zero (get get2 : Nat → List VV) : catG get 0 get2 = get2 := by funext k; simp [catG]
theorem emptyDst_inv {x : NV} {a : Value} (h : emptyDst x = true) (hx : (Rep W.heap (Imm W.heap β H) β H) x a) : ∃ A, a = .slice A 0 0 := by
  unfold emptyDst at h
  split at h
  · obtain rfl := hx.v_inv; exact ⟨none, rfl⟩
  · cases hx with | xsl _ _ _ A hp => exact ⟨A, rfl⟩
  · cases hx with
    | partP _ _ _ _ l T rw' sz n get c ho hn hc he hl => obtain rfl := he rfl; exact ⟨_, rfl⟩
    | partR _ _ _ _ l T sz cells c ho hn hc he hl => obtain rfl := he rfl; exact ⟨_, rfl⟩
    | part0 _ _ _ A hid => exact ⟨A, rfl⟩
  · cases h
theorem appendN_run {ts : Array TypeId} {ty : TypeId} {d x r : NV} {a b : Value} {H' : NH} {A : Option Nat} (hst : St W.heap β H) (h : appendN P H ts d x = some (r, H', A)) (hd : (Rep W.heap (Imm W.heap β H) β H) d a) (hx : (Rep W.heap (Imm W.heap β H) β H) x b) :
    ∃ v W' β', (Builtin.append_ ts ty #[a, b]).run P W = .ok v W' ∧ Step β H W β' H' W' (maskA A) ∧ Rep W'.heap (Imm W'.heap β' H') β' H' r v := by
  unfold appendN at h
  split at h
  · rename_i T T2 hT hT2
    split at h
    · rename_i e hu hi
      split at h
      · rename_i s bt z he
        obtain ⟨inf, v0, i1, i2, i3, i4, h0, i6, i7, i8, i9⟩ := elemOf_inv he
        split at h
        · split at h
          · rename_i m get2 hsrc0
            obtain ⟨news, hsrc⟩ := srcA_src (P := P) h0 hst hsrc0 hx
            have hone := hsrc.one h0
            split at h
            · rename_i hed
              split at h
              · rename_i hbd
                cases h
                obtain ⟨A, rfl⟩ := emptyDst_inv hed hd
                rcases Nat.eq_zero_or_pos m with rfl | hm
                · have hn0 : news.toList = [] := by
                    have := hsrc.size; simp at this; simp [this]
                  have hrun := append_fits (P := P) (W := W) (ty := ty) (n := 0) (c := 0) (A := A) (W' := W) hT hT2 hu hi he hsrc.toB (by omega) (fun a _ => by rw [hn0]; rfl) (fun _ => rfl)
                  exact ⟨_, _, _, hrun, Step.ghost hst _ ⟨rfl, h0⟩, .full0 _ A (by simp [NilAt]) (upd_self _ _ _)⟩
                · obtain ⟨k, rest, W', k1, k2, k3, k4, k5⟩ := append_grows (P := P) (W := W) (ty := ty) (n := 0) (c := 0) (A := A) (olds := #[]) hT hT2 hu hi he hsrc.toB (by omega) (by omega) (by simpa using hbd)
                    (fun W' _ => by cases A <;> simp [Builtin.firstCells, loadCells, loadCellsFrom]) (by simp)
                  have hs1 := Step.alloc hst (.cells (#[] ++ news ++ rest) e) (.prow e true s m get2) k (fun β' H' e1 e2 g => by
                    have := cat_obj (hp := W.heap.push (.cells (#[] ++ news ++ rest) e)) (imm := Imm (W.heap.push (.cells (#[] ++ news ++ rest) e)) β' H') (β' := β') (H' := H') (n := 0) (m := m) (k := k) (n0 := W.heap.size) (get := get2) (get2 := get2) (olds := #[]) (news := news) (rest := rest) (e := e) h0
                      (by simp) hsrc.size (by omega) k2 (by simp) (fun i hi => absurd hi (Nat.not_lt_zero _)) (fun i hi => ⟨(hsrc.row i hi).1, fun j x y h1 h2 => ⟨((hsrc.row i hi).2 j x y h1 h2).1, ((hsrc.row i hi).2 j x y h1 h2).2.mono g.ext.imm⟩⟩)
                    rw [catG_zero, Nat.zero_add] at this
                    exact this)
                  refine ⟨_, W', _, k5, hs1.world k3 k4, ?_⟩
                  rw [k3]
                  have := Rep.fullP (hp := W.heap.push (.cells (#[] ++ news ++ rest) e)) (imm := Imm (W.heap.push (.cells (#[] ++ news ++ rest) e)) (upd β H.length (some ⟨W.heap.size, 0, k⟩)) (H ++ [.prow e true s m get2]))
                    (β := upd β H.length (some ⟨W.heap.size, 0, k⟩)) (H := H ++ [.prow e true s m get2]) H.length ⟨W.heap.size, 0, k⟩ e true s m get2 k (by simp) (by omega) (Nat.le_refl _) (upd_self _ _ _)
                  rw [Nat.zero_add]
                  exact this
              · cases h
            · split at h
              · rename_i id hed
                split at h
                · rename_i T' s' n get ho
                  split at h
                  · rename_i hts
                    obtain ⟨rfl, rfl⟩ := hts
                    split at h
                    · rename_i hbd
                      cases h
                      have hlen := (List.getElem?_eq_some_iff.1 ho).1
                      have hget : ∀ (o' : NO), cleanO (only id) o' = o' → (cleanH (only id) (H.set id o'))[id]? = some o' := fun o' hc => by
                        rw [cleanH_get, List.getElem?_set_self hlen, Option.map_some, hc]
                      rcases full_inv hst (by rw [ho]; rfl) hd with ⟨rfl, hl, A, rfl⟩ | ⟨l, c, hl, hc, hk, rfl⟩
                      · rcases Nat.eq_zero_or_pos m with rfl | hm
                        · have hn0 : news.toList = [] := by
                            have := hsrc.size; simp at this; simp [this]
                          have hrun := append_fits (P := P) (W := W) (ty := ty) (n := 0) (c := 0) (A := A) (W' := W) hT hT2 hu hi he hsrc.toB (by omega) (fun a _ => by rw [hn0]; rfl) (fun _ => rfl)
                          have hs1 := Step.grows (W' := W) (l' := none) (o' := .prow T' true s' (0 + 0) (catG get 0 get2)) hst ho rfl rfl rfl (Same.refl W) (Nat.le_refl _) (fun _ _ _ => rfl) (fun x hx => by cases hx)
                            (fun β' H' e1 e2 g => .mkNil (by rw [e1, upd_self]) ⟨rfl, h0⟩)
                          exact ⟨_, _, _, hrun, hs1, .full0 _ A (by rw [hget _ rfl]; rfl) (upd_self _ _ _)⟩
                        · obtain ⟨k, rest, W', k1, k2, k3, k4, k5⟩ := append_grows (P := P) (W := W) (ty := ty) (n := 0) (c := 0) (A := A) (olds := #[]) hT hT2 hu hi he hsrc.toB (by omega) (by omega) hbd
                            (fun W' _ => by cases A <;> simp [Builtin.firstCells, loadCells, loadCellsFrom]) (by simp)
                          have hs1 := Step.grows (W' := W') (l' := some ⟨W.heap.size, 0, k⟩) (o' := .prow T' true s' (0 + m) (catG get 0 get2)) hst ho rfl rfl rfl k4 (by rw [k3]; simp) (fun b hb _ => by rw [k3, Array.getElem?_push, if_neg (by omega)])
                            (fun x hx => by cases hx; exact .inl (Nat.le_refl _))
                            (fun β' H' e1 e2 g => ObjRep.mk (l := ⟨W.heap.size, 0, k⟩) (by rw [e1, upd_self]) (by
                              refine cat_obj (rest := rest) (olds := #[]) (news := news) h0 (by simp) hsrc.size k1 k2 (by rw [k3]; simp) (fun i hi => absurd hi (Nat.not_lt_zero _)) (fun i hi => ⟨(hsrc.row i hi).1, fun j x y h1 h2 => ⟨((hsrc.row i hi).2 j x y h1 h2).1, ((hsrc.row i hi).2 j x y h1 h2).2.mono g.ext.imm⟩⟩)))
                          refine ⟨_, W', _, k5, hs1, ?_⟩
                          exact Rep.fullP _ ⟨W.heap.size, 0, k⟩ T' true s' (0 + m) _ k (hget _ rfl) k1 (Nat.le_refl _) (upd_self _ _ _)
                      · obtain ⟨cs, fr, c1, c2, c3, c4, c5⟩ := (hst.obj id _ ho).at hl
                        have c2 := c2 rfl
                        by_cases hfit : n + m ≤ c
                        · have hroom : l.o + n * s' + news.toList.length ≤ cs.size := by
                            rw [Array.length_toList, hsrc.size]
                            have : (n + m) * s' ≤ l.k * s' := Nat.mul_le_mul_right _ (by omega)
                            rw [Nat.add_mul] at this
                            omega
                          have hsto := storeCells_run (P := P) news.toList W l.b (l.o + n * s') 0 cs T' fr c1 c2 (by simpa using hroom) hone
                          simp only [Nat.add_zero] at hsto
                          have hrun := append_fits (P := P) (W := W) (ty := ty) (n := n) (c := c) (A := some (slot l 0)) (W' := atHeap W (W.heap.setIfInBounds l.b (.cells (setMany cs (l.o + n * s') news.toList) T' fr))) hT hT2 hu hi he hsrc.toB hfit (fun a ha => by cases ha; rw [add_slot]; simpa [slot] using hsto) (fun e => by cases e)
                          have hsz : (setMany cs (l.o + n * s') news.toList).size = cs.size := setMany_size hroom
                          have hs1 := Step.grows (W' := atHeap W (W.heap.setIfInBounds l.b (.cells (setMany cs (l.o + n * s') news.toList) T' fr))) (l' := some l) (o' := .prow T' true s' (n + m) (catG get n get2)) hst ho rfl rfl rfl (Same.atHeap _ _) (by simp [atHeap])
                            (fun b hb hbl => by simp only [atHeap]; rw [Array.getElem?_setIfInBounds_ne (hbl l hl)]) (fun x hx => by cases hx; exact .inr ⟨_, hl, rfl⟩)
                            (fun β' H' e1 e2 g => ObjRep.mk (l := l) (by rw [e1, upd_self]) (by
                              refine ⟨_, fr, Array.getElem?_setIfInBounds_self_of_lt (Array.getElem?_eq_some_iff.1 c1).1, fun _ k hk => c2 k (by rwa [hsz] at hk), ⟨by omega, by rw [hsz]; exact c3.2⟩, h0, fun i hi => ?_⟩
                              simp only [catG]
                              by_cases hin : i < n
                              · rw [if_pos hin]
                                refine ⟨(c5 i hin).1, fun j x y hx hy => ?_⟩
                                have hj : j < s' := by rw [← (c5 i hin).1]; exact (List.getElem?_eq_some_iff.1 hx).1
                                have hlt : i * s' + j < n * s' := by
                                  have : (i + 1) * s' ≤ n * s' := Nat.mul_le_mul_right _ hin
                                  rw [Nat.succ_mul] at this; omega
                                rw [setMany_get hroom, if_neg (by omega)] at hy
                                exact ⟨((c5 i hin).2 j x y hx hy).1, ((c5 i hin).2 j x y hx hy).2.mono g.ext.imm⟩
                              · rw [if_neg hin]
                                have him : i - n < m := by omega
                                refine ⟨(hsrc.row _ him).1, fun j x y hx hy => ?_⟩
                                have hj : j < s' := by rw [← (hsrc.row _ him).1]; exact (List.getElem?_eq_some_iff.1 hx).1
                                have h7 : n * s' ≤ i * s' := Nat.mul_le_mul_right _ (by omega)
                                have h8 : (i - n + 1) * s' ≤ m * s' := Nat.mul_le_mul_right _ (by omega)
                                rw [Nat.succ_mul] at h8
                                have h9 : (i - n) * s' = i * s' - n * s' := Nat.sub_mul _ _ _
                                rw [setMany_get hroom, if_pos (by rw [Array.length_toList, hsrc.size]; omega), Array.getElem?_toList, show l.o + (i * s' + j) - (l.o + n * s') = (i - n) * s' + j by omega] at hy
                                exact ⟨((hsrc.row _ him).2 j x y hx hy).1, ((hsrc.row _ him).2 j x y hx hy).2.mono g.ext.imm⟩))
                          refine ⟨_, _, _, hrun, hs1, ?_⟩
                          exact Rep.fullP _ l T' true s' (n + m) _ c (hget _ rfl) hfit hk (upd_self _ _ _)
                        · have hsrcd : SrcAt W (Imm W.heap β H) s' n get (.slice (some (slot l 0)) n c) := srcN_at (x := .full id) hst (by simp [srcN, ho]) hd
                          obtain ⟨olds, hold⟩ := srcAt_src (P := P) h0 hsrcd
                          obtain ⟨k, rest, W', k1, k2, k3, k4, k5⟩ := append_grows (P := P) (W := W) (ty := ty) (n := n) (c := c) (A := some (slot l 0)) (olds := olds) hT hT2 hu hi he hsrc.toB (by omega) hc hbd hold.cells hold.size
                          have hs1 := Step.grows (W' := W') (l' := some ⟨W.heap.size, 0, k⟩) (o' := .prow T' true s' (n + m) (catG get n get2)) hst ho rfl rfl rfl k4 (by rw [k3]; simp) (fun b hb _ => by rw [k3, Array.getElem?_push, if_neg (by omega)])
                            (fun x hx => by cases hx; exact .inl (Nat.le_refl _))
                            (fun β' H' e1 e2 g => ObjRep.mk (l := ⟨W.heap.size, 0, k⟩) (by rw [e1, upd_self]) (by
                              refine cat_obj (rest := rest) (olds := olds) (news := news) h0 hold.size hsrc.size k1 k2 (by rw [k3]; simp) (fun i hi => ⟨(hold.row i hi).1, fun j x y h1 h2 => ⟨((hold.row i hi).2 j x y h1 h2).1, ((hold.row i hi).2 j x y h1 h2).2.mono g.ext.imm⟩⟩) (fun i hi => ⟨(hsrc.row i hi).1, fun j x y h1 h2 => ⟨((hsrc.row i hi).2 j x y h1 h2).1, ((hsrc.row i hi).2 j x y h1 h2).2.mono g.ext.imm⟩⟩)))
                          refine ⟨_, W', _, k5, hs1, ?_⟩
                          exact Rep.fullP _ ⟨W.heap.size, 0, k⟩ T' true s' (n + m) _ k (hget _ rfl) k1 (Nat.le_refl _) (upd_self _ _ _)
                    · cases h
                  · cases h
                · cases h
              · cases h
          · cases h
        · cases h
      · cases h
    · cases h
  · cases h
end
end Go.Proofs.Eng
