/- The engine, part 39: slices.Sorted over maps.Keys, by its contract. -/
import Derived.Test.YthcmmpoifgoniaaE38
set_option linter.unusedVariables false
set_option linter.unusedSimpArgs false
namespace Go.Proofs.Eng
open Go.RowKit Go.Sort

/-- The contract that is asked for. -/
def SortsKeys (P : Program) (f k : FuncId) (T : TypeId) : Prop :=
  ∀ (Bm b : Nat) (es : Array MapEntry) (clock : Nat) (ks : List ByteArray) (W : World), W.cell? ⟨Bm, 0, none⟩ = some (.map (some b)) → W.heap[b]? = some (.map es clock) → MapKept.Stamped es clock →
    es.toList.map (·.key) = ks.map .string → (∀ s ∈ ks, s.size ≤ 1000) → ks.length ≤ 1000 →
    Calls P f #[.func (.func k) #[] #[.pointer (some ⟨Bm, 0, none⟩)]] W fun e w' => ∃ (v : Value) (ss : List (List UInt8)), e = .returned v ∧ ss.Perm (ks.map (·.data.toList)) ∧
      w'.ownsRow W.heap.size T 1 v ss.length ((ss.mergeSort leB).map encStr) ∧ (ss = [] → v = .slice none 0 0) ∧ Below W.heap.size W w'
theorem stamped_of {me : Array MapEntry} {clock : Nat} {es : List (Value × VV)} {ks : List ByteArray} (h2 : me.size = es.length)
    (h3 : ∀ (i : Nat) (k : Value) (x : VV) (e : MapEntry), es[i]? = some (k, x) → me[i]? = some e → e.key = k)
    (h4 : ∀ (i : Nat) (e : MapEntry), me[i]? = some e → e.born < clock) (h5 : ∀ (i j : Nat) (e e' : MapEntry), me[i]? = some e → me[j]? = some e' → e.born = e'.born → i = j)
    (hk : es.map (·.1) = ks.map .string) (hd : ks.Nodup) : MapKept.Stamped me clock ∧ me.toList.map (·.key) = ks.map .string := by
  have hkeys : me.toList.map (·.key) = ks.map .string := by
    rw [← hk]
    apply List.ext_getElem?
    intro i
    rw [List.getElem?_map, List.getElem?_map, Array.getElem?_toList]
    cases he : me[i]? with
    | none => rw [List.getElem?_eq_none (by rw [← h2]; exact Array.getElem?_eq_none_iff.1 he)]; rfl
    | some e =>
      have hi : i < es.length := by rw [← h2]; exact (Array.getElem?_eq_some_iff.1 he).1
      rw [List.getElem?_eq_getElem hi]
      simp only [Option.map_some, Option.some.injEq]
      exact h3 i es[i].1 es[i].2 e (List.getElem?_eq_getElem hi) he
  refine ⟨⟨fun x hx => ?_, ?_, ?_⟩, hkeys⟩
  · obtain ⟨i, hi, rfl⟩ := List.getElem_of_mem hx
    exact h4 i _ (by rw [← Array.getElem?_toList]; exact List.getElem?_eq_getElem hi)
  · rw [List.Nodup, List.pairwise_iff_getElem]
    intro i j hi hj hij he
    simp only [List.getElem_map] at he
    simp only [List.length_map] at hi hj
    have := h5 i j _ _ (by rw [← Array.getElem?_toList]; exact List.getElem?_eq_getElem hi) (by rw [← Array.getElem?_toList]; exact List.getElem?_eq_getElem hj) he
    omega
  · rw [hkeys]
    exact List.pairwise_map.2 (hd.imp fun {a b} hab e => hab (by cases e; rfl))
theorem sorted_hook {P : Program} {G : Nat → NV} {f k : FuncId} {T : TypeId} (hent : ∀ args W, (callFunc f args).run P W = .ok (.enter f args) W) (hc : SortsKeys P f k T) : HookOK P G f (sortedN k T) := by
  constructor
  · intro xs H o h W β ys hst hG hr
    unfold sortedN at h
    split at h
    · rename_i k' r
      obtain ⟨y, rfl, hy⟩ := repL_one hr
      split at h
      · rename_i hk
        subst hk
        split at h
        · rename_i T' sz m ho
          split at h
          · rename_i es hm
            split at h
            · rename_i ks hks
              split at h
              · rename_i hcond
                simp only [Bool.and_eq_true] at hcond
                cases hy with
                | fn _ _ _ ys ys' hl hl' h0 h1 =>
                  have e0 : ys = #[] := Array.eq_empty_of_size_eq_zero (by simpa using hl)
                  subst e0
                  obtain ⟨ys'⟩ := ys'
                  match ys', hl', h1 with
                  | [p], _, h1 =>
                    have hp := h1 0 _ p rfl rfl
                    cases hp with
                    | ptr _ _ l hid hlr =>
                      obtain ⟨c, fr, c1, c2, c3, c4, c5, c6⟩ := (hst.obj r _ ho).at hlr
                      have hsz : sz = 1 := by simpa using c5
                      subst hsz
                      have hcs : 0 < c.size := by have := c3.1; have := c3.2; simp at *; omega
                      have hc0 : c[0]? = some c[0] := Array.getElem?_eq_getElem hcs
                      have h7 := (c6 0 _ _ rfl (by rw [show l.o + 0 = 0 from rfl]; exact hc0)).2
                      generalize hcv : c[0] = cv at h7 hc0
                      cases h7 with
                      | map _ l2 hid2 hl2 =>
                        obtain ⟨me, clock, m1, m2, m3, m4, m5⟩ := (hst.obj m _ hm).at hl2
                        obtain ⟨k1, k2⟩ := keyS_eq hks
                        obtain ⟨hstamp, hkeys⟩ := stamped_of m2 (fun i k x e h1 h2 => (m3 i k x e h1 h2).1) m4 m5 k1 (noDup_nodup hcond.1)
                        refine ⟨hent _ _, (hc l.b l2.b me clock ks W (by rw [cell?_eq, cellAt, c1]; exact hc0) m1 hstamp hkeys k2 (Nat.le_of_ble_eq_true hcond.2)).mono fun e w' he => ?_⟩
                        obtain ⟨v, ss, rfl, hperm, hrow, hnil, hbel⟩ := he
                        rw [isortB_eq hperm] at hrow
                        have hlen : ss.length = (isortB ks).length := by rw [hperm.length_eq, List.length_map, (isortB_perm ks).length_eq]
                        rw [hlen] at hrow
                        generalize isortB ks = l at h hrow hlen
                        match l, h with
                        | [], h =>
                          cases h
                          obtain rfl := hnil (List.eq_nil_of_length_eq_zero hlen)
                          exact ⟨rfl, β, by rw [maskL_nil]; exact below_step hst hbel, .p _ _ (.v _)⟩
                        | s :: l, h =>
                          cases h
                          rcases hrow.2 with ⟨_, h0⟩ | ⟨g, cap, cur, rfl, hbase, hgb, r1, r2, r3, r4⟩
                          · cases h0
                          · refine ⟨rfl, upd β H.length (some ⟨g, 0, cap⟩), ?_, ?_⟩
                            · rw [maskL_nil]
                              refine Step.newBelow hst hbel _ _ hbase (Array.getElem?_eq_some_iff.1 hgb).1 fun β' H' e1 e2 gd => ?_
                              have hl1 : (rowS (s :: l)).length = (s :: l).length := by simp [rowS]
                              refine ⟨cur, (0, 0), hgb, unfrozen0 cur, ⟨by rw [hl1]; simpa using r1, by show 0 + cap * 1 ≤ cur.size; omega⟩, Nat.one_pos, Nat.one_dvd _, fun i x y hx hy => ?_⟩
                              rw [show (⟨g, 0, cap⟩ : Loc).o + i = i from Nat.zero_add _] at hy
                              have hi : i < (s :: l).length := by rw [← hl1]; exact (List.getElem?_eq_some_iff.1 hx).1
                              have hy2 : cur.toList[i]? = some y := by rw [Array.getElem?_toList]; exact hy
                              have hy3 : (((s :: l).map (·.data.toList)).map encStr)[i]? = some y := by
                                rw [← r4, List.getElem?_take, if_pos (by omega)]; exact hy2
                              simp only [rowS, List.getElem?_map] at hx hy3
                              cases hs : (s :: l)[i]? with
                              | none => rw [hs] at hx; cases hx
                              | some t =>
                                rw [hs] at hx hy3
                                simp only [Option.map_some, Option.some.injEq] at hx hy3
                                subst hx hy3
                                exact ⟨rfl, .p _ _ (by
                                  have : (Value.string t) = encStr t.data.toList := by simp [encStr]
                                  rw [← this]; exact .v _)⟩
                            · have := Rep.fullR (hp := w'.heap) (imm := Imm w'.heap (upd β H.length (some ⟨g, 0, cap⟩)) (H ++ [.row T 1 (rowS (s :: l))])) (β := upd β H.length (some ⟨g, 0, cap⟩)) (H := H ++ [.row T 1 (rowS (s :: l))]) H.length ⟨g, 0, cap⟩ T 1 (rowS (s :: l)) cap (by simp) (by simpa [rowS] using r1) (Nat.le_refl _) (upd_self _ _ _)
                              simpa [rowS, slot] using this
                  | [], hl', _ => exact absurd hl' (by simp)
                  | _ :: _ :: _, hl', _ => exact absurd hl' (by simp)
              · cases h
            · cases h
          · cases h
        · cases h
      · cases h
    · cases h
  · intro xs H o h hA id hid hlt
    unfold sortedN at h
    repeat (split at h <;> try (cases h; done))
    · cases h; rfl
    · cases h; exact frame_app hlt
end Go.Proofs.Eng
