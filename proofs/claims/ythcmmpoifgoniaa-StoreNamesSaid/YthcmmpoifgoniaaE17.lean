/- The engine, part 17: stores. -/
import Derived.Test.YthcmmpoifgoniaaE16
set_option linter.unusedVariables false
set_option linter.unusedSimpArgs false
namespace Go.Proofs.Eng
section
variable {β : Beta} {H : NH} {P : Program} {W : World}

theorem upd_same (β : Beta) (id : Nat) : upd β id (β id) = β := by
  funext i
  by_cases h : i = id
  · subst h; rw [upd_self]
  · rw [upd_ne h]
/-- An object is another one, in its block. -/
theorem Step.put {id : Nat} {o o' : NO} {l : Loc} {obj : Obj} (hst : St W.heap β H) (hid : H[id]? = some o) (hl : β id = some l) (hw : o.owned = true) (hw' : o'.owned = true) (hs : Shape (some o) (some o'))
    (ho : ∀ H', H' = H.set id o' → Good W.heap β H (W.heap.setIfInBounds l.b obj) β H' none? → ObjAt (W.heap.setIfInBounds l.b obj) (Imm (W.heap.setIfInBounds l.b obj) β H') β H' l o') :
    Step β H W β (H.set id o') (atHeap W (W.heap.setIfInBounds l.b obj)) none? := by
  have hlen := (List.getElem?_eq_some_iff.1 hid).1
  have hhp : ∀ b, b < W.heap.size → (∀ m, β id = some m → m.b ≠ b) → (W.heap.setIfInBounds l.b obj)[b]? = W.heap[b]? := fun b _ hb => by
    rw [Array.getElem?_setIfInBounds_ne (hb l hl)]
  have g : Good W.heap β H (W.heap.setIfInBounds l.b obj) β (H.set id o') none? := by
    refine ⟨⟨?_, by simp⟩, fun i hi _ => ⟨by simpa using hi, .inl rfl, ?_⟩, fun i q m h1 h2 h3 => ?_⟩
    case refine_3 =>
      by_cases he : i = id
      · subst he; exact .inl ⟨o, hid, owned_alive hw, h3⟩
      · rw [List.getElem?_set_ne (Ne.symm he)] at h1; exact .inl ⟨q, h1, h2, h3⟩
    · rintro b ⟨hb, hn⟩
      refine ⟨⟨by simpa using hb, ?_⟩, hhp b hb fun m hm e => hn ⟨id, o, m, hid, hw, hm, e⟩⟩
      rintro ⟨i, q, m, hi, hqw, hm, rfl⟩
      by_cases he : i = id
      · subst he; exact hn ⟨i, o, m, hid, hw, hm, rfl⟩
      · rw [List.getElem?_set_ne (Ne.symm he)] at hi; exact hn ⟨i, q, m, hi, hqw, hm, rfl⟩
    · by_cases he : i = id
      · subst he; rw [List.getElem?_set_self hlen, hid]; exact hs
      · rw [List.getElem?_set_ne (Ne.symm he)]; exact Shape.refl _
  have key := hst.put (A := none?) (hp' := W.heap.setIfInBounds l.b obj) id o o' (β id) hid hw hw' (by simp) hhp (fun x hx => .inr ⟨x, hx, rfl⟩) (fun i hi => by cases hi) (fun _ => ⟨rfl, hs⟩)
    (by
      rw [cleanH_none, upd_same, show cleanO none? o' = o' from cleanO_none o']
      exact .mk hl (ho _ rfl g))
  rw [cleanH_none, upd_same] at key
  exact ⟨key.1, key.2, Same.atHeap _ _⟩
theorem storeVar_run {T : TypeId} {s : Nat} {v : Value} {b o : Nat} {c : Array Value} {E : TypeId} {fr : Nat × Nat} (hs : tySz P T = some s) (hv : v.cells.size = s)
    (hb : W.heap[b]? = some (.cells c E fr)) (hf : Unfrozen c fr) (hl : o + s ≤ c.size) (h1 : ∀ u ∈ v.cells.toList, u.oneCell' = true) :
    (Instr.storeAt T (.pointer (some ⟨b, o, none⟩)) v).run P W = .ok () (atHeap W (W.heap.setIfInBounds b (.cells (setMany c o v.cells.toList) E fr))) := by
  have := storeCells_run (P := P) v.cells.toList W b o 0 c E fr hb hf (by simp; omega) h1
  simp only [Instr.storeAt, Instr.sureAddr, storeVar, Sem.run_bind, Sem.run_pure, Result.andThen_ok, tySz_run hs]
  rw [if_neg (by simp [hv])]
  simpa using this
theorem repC_one {hp : Heap} {imm : Nat → Prop} {cs : List NV} {c : Array Value} (h : RepC hp imm β H cs c) : ∀ u ∈ c.toList, u.oneCell' = true := by
  intro u hu
  obtain ⟨i, hi⟩ := List.getElem?_of_mem hu
  rw [Array.getElem?_toList] at hi
  have hlt : i < cs.length := by have := (Array.getElem?_eq_some_iff.1 hi).1; rw [h.1] at this; exact this
  exact (h.2 i cs[i] u (List.getElem?_eq_getElem hlt) hi).1
theorem storeN_run {T : TypeId} {x y : NV} {a b : Value} {H' : NH} (hst : St W.heap β H) (h : storeN P H T x y = some H') (hx : (Rep W.heap (Imm W.heap β H) β H) x a) (hy : (Rep W.heap (Imm W.heap β H) β H) y b) :
    ∃ W', (Instr.storeAt T a b).run P W = .ok () W' ∧ Step β H W β H' W' none? := by
  unfold storeN at h
  split at h
  · rename_i cs s hcs hs
    have hc := hy.cells hcs
    split at h
    · rename_i hlen
      split at h
      · rename_i id off
        split at h
        · rename_i T' sz cells ho
          split at h
          · rename_i hfit
            cases h
            cases hx with
            | ptr _ _ l hid hl =>
              obtain ⟨c, fr, h1, h2, h3, h4, h5, h6⟩ := (hst.obj id _ ho).at hl
              have hrun := storeVar_run (P := P) (W := W) (v := b) (b := l.b) (o := l.o + off) hs (by rw [hc.1, hlen]) h1 h2 (by omega) (repC_one hc)
              refine ⟨_, hrun, Step.put hst ho hl rfl rfl ⟨_, rfl, splice_length (by omega)⟩ fun H' e g => ?_⟩
              have hsz : (setMany c (l.o + off) b.cells.toList).size = c.size := setMany_size (by simp [hc.1]; omega)
              refine ⟨_, fr, Array.getElem?_setIfInBounds_self_of_lt (Array.getElem?_eq_some_iff.1 h1).1, ?_, ?_, h4, by rw [splice_length (by omega)]; exact h5, fun k p q hp hq => ?_⟩
              · intro k hk; rw [hsz] at hk; exact h2 k hk
              · rw [splice_length (by omega), hsz]; exact h3
              · rw [splice_get (by omega)] at hp
                rw [setMany_get (by simp [hc.1]; omega)] at hq
                have hbl : b.cells.toList.length = cs.length := by simp [hc.1]
                by_cases hk : off ≤ k ∧ k < off + cs.length
                · rw [if_pos hk] at hp
                  rw [if_pos (by omega), show l.o + k - (l.o + off) = k - off by omega, Array.getElem?_toList] at hq
                  obtain ⟨q1, q2⟩ := hc.2 _ p q hp hq
                  exact ⟨q1, g.rep0 q2⟩
                · rw [if_neg hk] at hp
                  rw [if_neg (by omega)] at hq
                  obtain ⟨q1, q2⟩ := h6 k p q hp hq
                  exact ⟨q1, g.rep0 q2⟩
          · cases h
        · cases h
      · rename_i id i j
        split at h
        · rename_i vs H1 hvs
          obtain ⟨s1, vl, vr⟩ := purL_run cs H b.cells vs H1 0 hst hvs (by rw [hc.1]; omega) (fun i x y h1 h2 => (hc.2 i x y h1 (by simpa using h2)).2)
          have hx1 := s1.rep0 hx
          split at h
          · rename_i T' sz n get ho
            have key : ∀ (row : List VV), (j + s ≤ sz) → row.length = sz → (∀ (k : Nat) (q : VV), row[k]? = some q → if j ≤ k ∧ k < j + s then vs[k - j]? = some q else (get i)[k]? = some q) →
                ∃ W', (Instr.storeAt T a b).run P W = .ok () W' ∧ Step β H W β (H1.set id (.prow T' true sz n (setG get i row))) W' none? := by
              intro row hjs hrl hrow
              cases hx1 with
              | pe _ _ _ l _ _ _ _ _ ho' hi hl =>
                rw [ho] at ho'; cases ho'
                obtain ⟨c, fr, h1, h2, h3, h4, h5⟩ := (s1.st.obj id _ ho).at hl
                have h2 := h2 rfl
                have hin : (i + 1) * sz ≤ l.k * sz := Nat.mul_le_mul_right _ (by omega)
                rw [Nat.succ_mul] at hin
                have hrun := storeVar_run (P := P) (W := W) (v := b) (b := l.b) (o := l.o + (i * sz + j)) hs (by rw [hc.1, hlen]) h1 h2 (by omega) (repC_one hc)
                refine ⟨_, hrun, s1.trans0 (Step.put s1.st ho hl rfl rfl ⟨true, _, rfl⟩ fun H' e g => ?_)⟩
                have hbl : b.cells.toList.length = s := by simp [hc.1, hlen]
                have hsz : (setMany c (l.o + (i * sz + j)) b.cells.toList).size = c.size := setMany_size (by omega)
                refine ⟨_, fr, Array.getElem?_setIfInBounds_self_of_lt (Array.getElem?_eq_some_iff.1 h1).1, ?_, ?_, h4, fun i' hi' => ?_⟩
                · intro _ k hk; rw [hsz] at hk; exact h2 k hk
                · rw [hsz]; exact h3
                · obtain ⟨g1, g2⟩ := h5 i' hi'
                  by_cases hii : i' = i
                  · subst hii
                    simp only [setG, if_true]
                    refine ⟨hrl, fun k q y hq hy' => ?_⟩
                    have hks : k < sz := by rw [← hrl]; exact (List.getElem?_eq_some_iff.1 hq).1
                    have hq := hrow k q hq
                    rw [setMany_get (by omega)] at hy'
                    by_cases hk : j ≤ k ∧ k < j + s
                    · rw [if_pos hk] at hq
                      rw [if_pos (by omega), show l.o + (i' * sz + k) - (l.o + (i' * sz + j)) = k - j by omega, Array.getElem?_toList] at hy'
                      refine ⟨repC_one hc y (Array.mem_toList_iff.2 (Array.mem_of_getElem? hy')), (vr _ q y hq (by simpa using hy')).mono g.ext.imm⟩
                    · rw [if_neg hk] at hq
                      rw [if_neg (by omega)] at hy'
                      obtain ⟨q1, q2⟩ := g2 k q y hq hy'
                      exact ⟨q1, q2.mono g.ext.imm⟩
                  · simp only [setG, if_neg hii]
                    refine ⟨g1, fun k q y hq hy' => ?_⟩
                    have hks : k < sz := by rw [← g1]; exact (List.getElem?_eq_some_iff.1 hq).1
                    rw [setMany_get (by omega), if_neg] at hy'
                    · obtain ⟨q1, q2⟩ := g2 k q y hq hy'
                      exact ⟨q1, q2.mono g.ext.imm⟩
                    · intro hcon
                      rcases Nat.lt_or_gt_of_ne hii with hlt | hgt
                      · have : (i' + 1) * sz ≤ i * sz := Nat.mul_le_mul_right _ hlt
                        rw [Nat.succ_mul] at this
                        omega
                      · have : (i + 1) * sz ≤ i' * sz := Nat.mul_le_mul_right _ hgt
                        rw [Nat.succ_mul] at this
                        omega
            split at h
            · rename_i hjs
              obtain ⟨rfl, rfl⟩ := hjs
              cases h
              exact key vs (by omega) (by rw [vl, hlen]) (fun k q hq => by
                have hk := (List.getElem?_eq_some_iff.1 hq).1
                rw [vl, hlen] at hk
                rw [if_pos (by omega)]; exact hq)
            · split at h
              · rename_i hjs
                cases h
                have hgl : (get i).length = sz := by
                  cases hx1 with
                  | pe _ _ _ l _ _ _ _ _ ho' hi hl =>
                    rw [ho] at ho'; cases ho'
                    obtain ⟨c, fr, h1, h2, h3, h4, h5⟩ := (s1.st.obj id _ ho).at hl
                    exact (h5 i hi).1
                have htl : ((get i).take j).length = j := by rw [List.length_take]; omega
                refine key _ hjs (by simp [vl, hlen, hgl]; omega) (fun k q hq => ?_)
                rw [List.append_assoc] at hq
                by_cases hkj : k < j
                · rw [List.getElem?_append_left (by omega), List.getElem?_take, if_pos hkj] at hq
                  rw [if_neg (by omega)]; exact hq
                · rw [List.getElem?_append_right (by omega), htl] at hq
                  by_cases hk2 : k < j + s
                  · rw [List.getElem?_append_left (by rw [vl, hlen]; omega)] at hq
                    rw [if_pos (by omega)]; exact hq
                  · rw [List.getElem?_append_right (by rw [vl, hlen]; omega), List.getElem?_drop, vl, hlen] at hq
                    rw [if_neg (by omega), ← hq]
                    congr 1; omega
              · cases h
          · cases h
        · cases h
      · cases h
    · cases h
  · cases h
end
end Go.Proofs.Eng
