/- The engine, part 13: the rest of the operations that look at objects. -/
import Derived.Test.YthcmmpoifgoniaaE12
set_option linter.unusedVariables false
set_option linter.unusedSimpArgs false
namespace Go.Proofs.Eng
section
variable {β : Beta} {H : NH} {P : Program} {W : World}

theorem lenH_run {T ty : TypeId} {x r : NV} {a : Value} {ts : Array TypeId} (hst : St W.heap β H) (hT : ts[0]? = some T) (h : lenH P H T x = some r) (hx : (Rep W.heap (Imm W.heap β H) β H) x a) :
    ∃ v, (Builtin.len_ ts ty #[a]).run P W = .ok v W ∧ (Rep W.heap (Imm W.heap β H) β H) r v := by
  unfold lenH at h
  split at h
  · rename_i e id hu
    split at h
    · rename_i T' rw' sz n get ho
      cases h
      cases hx with
      | full0 _ A hid hl =>
        have hn := hst.obj id _ ho
        unfold ObjRep at hn; rw [hl] at hn
        obtain ⟨rfl, _⟩ := hn
        exact ⟨_, by simp [Builtin.len_, hT, run_underlying hu, goInt], vRep _⟩
      | fullP _ l _ _ _ _ _ c ho' => rw [ho] at ho'; cases ho'; exact ⟨_, by simp [Builtin.len_, hT, run_underlying hu, goInt], vRep _⟩
      | fullR _ l _ _ _ c ho' => rw [ho] at ho'; cases ho'
    · rename_i T' sz cells ho
      cases h
      cases hx with
      | full0 _ A hid hl =>
        have hn := hst.obj id _ ho
        unfold ObjRep at hn; rw [hl] at hn
        obtain ⟨rfl, _⟩ := hn
        exact ⟨.int .i64 0, by simp [Builtin.len_, hT, run_underlying hu, goInt], by simpa using vRep (.int .i64 0)⟩
      | fullP _ l _ _ _ _ _ c ho' => rw [ho] at ho'; cases ho'
      | fullR _ l _ _ _ c ho' => rw [ho] at ho'; cases ho'; exact ⟨_, by simp [Builtin.len_, hT, run_underlying hu, goInt], vRep _⟩
    · cases h
  · rename_i hu; cases h
    cases hx with
    | xsl => exact ⟨_, by simp [Builtin.len_, hT, run_underlying hu, goInt], vRep _⟩
  · rename_i K E id hu
    split at h
    · rename_i es ho
      cases h
      cases hx with
      | map _ l hid hl =>
        obtain ⟨me, clock, h1, h2, _⟩ := (hst.obj id _ ho).at hl
        refine ⟨_, ?_, vRep _⟩
        have hg : (getObj l.b).run P W = .ok (.map me clock) W := by simp only [getObj, Sem.run, h1]
        have h0 : (#[Value.map (some l.b)] : Array Value)[0]? = some (.map (some l.b)) := rfl
        simp only [Builtin.len_, hT, h0, run_underlying hu, goInt, Sem.run_bind, Result.andThen_ok, hg, Sem.run_pure]
        rw [← h2]
    · cases h
  · cases h

theorem indexAt_slice {T e : TypeId} {A : Addr} {len c s : Nat} {k : IntKind} {i : Int} (hu : P.underlying T = some (.slice e)) (hs : tySz P e = some s) (hc : 0 ≤ i ∧ i < len) :
    (Instr.indexAt T (.slice (some A) len c) (.int k i)).run P W = .ok (.pointer (some (A.add (i.toNat * s)))) W := by
  simp only [Instr.indexAt, asIntOf, Sem.run_bind, Sem.run_pure, Result.andThen_ok, run_underlying hu, tySz_run hs, if_pos hc, Sem.run_ite]
theorem indexAddrH_run {T : TypeId} {x ix r : NV} {a b : Value} (hst : St W.heap β H) (h : indexAddrH P H T x ix = some r) (hx : (Rep W.heap (Imm W.heap β H) β H) x a) (hy : (Rep W.heap (Imm W.heap β H) β H) ix b) :
    ∃ v, (Instr.indexAt T a b).run P W = .ok v W ∧ (Rep W.heap (Imm W.heap β H) β H) r v := by
  unfold indexAddrH at h
  split at h
  · rename_i e k i hu
    obtain rfl := hy.v_inv
    split at h
    · rename_i id
      split at h
      · rename_i T' rw' sz n get ho
        split at h
        · rename_i hs
          split at h
          · rename_i hc
            cases h
            have hlt : i.toNat < n := by have := hc.1; have := hc.2; omega
            cases hx with
            | full0 _ A hid hl =>
              have hn := hst.obj id _ ho
              unfold ObjRep at hn; rw [hl] at hn
              obtain ⟨rfl, _⟩ := hn
              omega
            | fullP _ l _ _ _ _ _ c ho' hc' hk hl =>
              rw [ho] at ho'; cases ho'
              refine ⟨_, indexAt_slice hu hs hc, ?_⟩
              rw [add_slot, Nat.zero_add]
              exact .pe id _ 0 l T' rw' sz n get ho hlt hl
            | fullR _ l _ _ _ c ho' => rw [ho] at ho'; cases ho'
          · cases h
        · cases h
      · rename_i T' sz cells ho
        split at h
        · rename_i hs
          split at h
          · rename_i hc
            cases h
            cases hx with
            | full0 _ A hid hl =>
              have hn := hst.obj id _ ho
              unfold ObjRep at hn; rw [hl] at hn
              obtain ⟨rfl, _⟩ := hn
              simp at hc; omega
            | fullP _ l _ _ _ _ _ c ho' => rw [ho] at ho'; cases ho'
            | fullR _ l _ _ _ c ho' hc' hk hl =>
              rw [ho] at ho'; cases ho'
              refine ⟨_, indexAt_slice hu hs hc, ?_⟩
              rw [add_slot, Nat.zero_add]
              exact .ptr id _ l (List.getElem?_eq_some_iff.1 ho).1 hl
          · cases h
        · cases h
      · cases h
    · rename_i id off len ex
      split at h
      · rename_i T' rw' sz n get ho
        split at h
        · rename_i hs
          split at h
          · rename_i hc
            cases h
            have hlt : i.toNat < len := by have := hc.1; have := hc.2; omega
            cases hx with
            | partP _ _ _ _ l _ _ _ _ _ c ho' hn hc' he hl =>
              rw [ho] at ho'; cases ho'
              refine ⟨_, indexAt_slice hu hs hc, ?_⟩
              rw [add_slot, ← Nat.add_mul]
              exact .pe id _ 0 l T' rw' sz n get ho (by omega) hl
            | partR _ _ _ _ l _ _ _ c ho' => rw [ho] at ho'; cases ho'
            | part0 => omega
          · cases h
        · cases h
      · rename_i T' sz cells ho
        split at h
        · rename_i hs
          split at h
          · rename_i hc
            cases h
            cases hx with
            | partP _ _ _ _ l _ _ _ _ _ c ho' => rw [ho] at ho'; cases ho'
            | partR _ _ _ _ l _ _ _ c ho' hn hc' he hl =>
              rw [ho] at ho'; cases ho'
              refine ⟨_, indexAt_slice hu hs hc, ?_⟩
              rw [add_slot, ← Nat.add_mul]
              exact .ptr id _ l (List.getElem?_eq_some_iff.1 ho).1 hl
            | part0 => simp at hc; omega
          · cases h
        · cases h
      · cases h
    · rename_i sz n get
      cases hx with
      | xsl _ _ _ A hp =>
        refine indexAddrN_run (x := .p (.sl sz n get)) (ix := .p (.v (.int k i))) ?_ (.p _ _ hp) hy
        simp only [indexAddrN, hu]
        exact h
    · cases h
  · cases h

/-- What a slice's value has: its length, its room, where it begins. -/
theorem sliceAt_run {T e : TypeId} {s : Nat} {A : Option Addr} {n c : Nat} {lo hi mx : Option Value} {l h m : Nat} (hu : P.underlying T = some (.slice e)) (hs : tySz P e = some s)
    (hb : (Instr.sliceBounds true n c lo hi mx).run P W = .ok (l, h, m) W) :
    (Instr.sliceAt T (.slice A n c) lo hi mx).run P W = .ok (.slice (if m = l then A else A.map (·.add (l * s))) (h - l) (m - l)) W := by
  simp only [Instr.sliceAt, Sem.run_bind, run_underlying hu, Result.andThen_ok, Instr.slice, hb, tySz_run hs, Sem.run_pure]
theorem rowN_inv {id sz n : Nat} (h : rowN H[id]? = some (sz, n)) : (∃ T rw get, H[id]? = some (.prow T rw sz n get)) ∨ (∃ T cells, H[id]? = some (.row T sz cells) ∧ n = cells.length / sz) := by
  unfold rowN at h
  split at h
  · rename_i T rw a b get ho; cases h; exact .inl ⟨T, rw, get, ho⟩
  · rename_i T a cells ho; cases h; exact .inr ⟨T, cells, ho, rfl⟩
  · cases h
/-- A piece of an object, as a slice's value has it. -/
theorem part_of {id sz n off len : Nat} {ex : Bool} {l : Loc} {c : Nat} (ho : rowN H[id]? = some (sz, n)) (hn : off + len ≤ n) (hc : len ≤ c) (he : ex = true → c = len) (hl : β id = some l) :
    (Rep W.heap (Imm W.heap β H) β H) (.part id off len ex) (.slice (some (slot l (off * sz))) len c) := by
  rcases rowN_inv ho with ⟨T, rw', get, h⟩ | ⟨T, cells, h, rfl⟩
  · exact .partP id off len ex l T rw' sz n get c h hn hc he hl
  · exact .partR id off len ex l T sz cells c h hn hc he hl
theorem rowN_lt {id : Nat} {x : Nat × Nat} (h : rowN H[id]? = some x) : id < H.length := by
  obtain ⟨sz, n⟩ := x
  rcases rowN_inv h with ⟨T, rw', get, h⟩ | ⟨T, cells, h, _⟩ <;> exact (List.getElem?_eq_some_iff.1 h).1
theorem rowN_nil {id sz n : Nat} (hst : St W.heap β H) (h : rowN H[id]? = some (sz, n)) (hl : β id = none) : n = 0 := by
  rcases rowN_inv h with ⟨T, rw', get, h'⟩ | ⟨T, cells, h', rfl⟩
  · have hn := hst.obj id _ h'
    unfold ObjRep at hn; rw [hl] at hn
    exact hn.1
  · have hn := hst.obj id _ h'
    unfold ObjRep at hn; rw [hl] at hn
    rw [hn.1]; simp
theorem full_inv {id sz n : Nat} {a : Value} (hst : St W.heap β H) (ho : rowN H[id]? = some (sz, n)) (hx : (Rep W.heap (Imm W.heap β H) β H) (.full id) a) :
    (n = 0 ∧ β id = none ∧ ∃ A, a = .slice A 0 0) ∨ ∃ l c, β id = some l ∧ n ≤ c ∧ c ≤ l.k ∧ a = .slice (some (slot l 0)) n c := by
  cases hx with
  | full0 _ A hid hl => exact .inl ⟨rowN_nil hst ho hl, hl, A, rfl⟩
  | fullP _ l T rw' sz' n' get c ho' hc hk hl =>
    rw [ho'] at ho; simp only [rowN] at ho; cases ho
    exact .inr ⟨l, c, hl, hc, hk, rfl⟩
  | fullR _ l T sz' cells c ho' hc hk hl =>
    rw [ho'] at ho; simp only [rowN] at ho; cases ho
    exact .inr ⟨l, c, hl, hc, hk, rfl⟩
theorem part_inv {id off len sz n : Nat} {ex : Bool} {a : Value} (ho : rowN H[id]? = some (sz, n)) (hx : (Rep W.heap (Imm W.heap β H) β H) (.part id off len ex) a) :
    (len = 0 ∧ ∃ A, a = .slice A 0 0) ∨ ∃ l c, β id = some l ∧ off + len ≤ n ∧ len ≤ c ∧ (ex = true → c = len) ∧ a = .slice (some (slot l (off * sz))) len c := by
  cases hx with
  | part0 _ _ _ A hid => exact .inl ⟨rfl, A, rfl⟩
  | partP _ _ _ _ l T rw' sz' n' get c ho' hn hc he hl =>
    rw [ho'] at ho; simp only [rowN] at ho; cases ho
    exact .inr ⟨l, c, hl, hn, hc, he, rfl⟩
  | partR _ _ _ _ l T sz' cells c ho' hn hc he hl =>
    rw [ho'] at ho; simp only [rowN] at ho; cases ho
    exact .inr ⟨l, c, hl, hn, hc, he, rfl⟩
theorem sliceH_run {T : TypeId} {x r : NV} {lo hi mx : Option NV} {a : Value} {lo' hi' mx' : Option Value} (hst : St W.heap β H) (h : sliceH P H T x lo hi mx = some r) (hx : (Rep W.heap (Imm W.heap β H) β H) x a)
    (r1 : RepO W.heap (Imm W.heap β H) β H lo lo') (r2 : RepO W.heap (Imm W.heap β H) β H hi hi') (r3 : RepO W.heap (Imm W.heap β H) β H mx mx') :
    ∃ v, (Instr.sliceAt T a lo' hi' mx').run P W = .ok v W ∧ (Rep W.heap (Imm W.heap β H) β H) r v := by
  unfold sliceH at h
  split at h
  · rename_i e hu
    split at h
    · rename_i id
      split at h
      · rename_i sz n ho
        split at h
        · rename_i hs
          split at h
          · rename_i hnone
            cases h
            simp only [Bool.and_eq_true, Option.isNone_iff_eq_none] at hnone
            obtain ⟨⟨rfl, rfl⟩, rfl⟩ := hnone
            cases lo' with
            | some _ => exact r1.elim
            | none =>
            cases hi' with
            | some _ => exact r2.elim
            | none =>
            cases mx' with
            | some _ => exact r3.elim
            | none =>
              have hA : ∃ A n c, a = .slice A n c := by
                rcases full_inv hst ho hx with ⟨_, _, A, rfl⟩ | ⟨l, c, _, _, _, rfl⟩ <;> exact ⟨_, _, _, rfl⟩
              obtain ⟨A, n', c', rfl⟩ := hA
              have hb : (Instr.sliceBounds true n' c' none none none).run P W = .ok (0, n', c') W := by
                simp only [Instr.sliceBounds, Sem.run_bind, Sem.run_pure, Result.andThen_ok]
              refine ⟨_, sliceAt_run hu hs hb, ?_⟩
              have hA' : (if c' = 0 then A else A.map (·.add (0 * sz))) = A := by
                split
                · rfl
                · cases A with
                  | none => rfl
                  | some A => simp [Addr.add]
              rw [hA', Nat.sub_zero, Nat.sub_zero]
              exact hx
          · split at h
            · rename_i m e0
              split at h
              · rename_i hh e1
                split at h
                · rename_i l e2
                  cases h
                  rcases full_inv hst ho hx with ⟨rfl, hl, A, rfl⟩ | ⟨L, c, hl, hc, hk, rfl⟩
                  · obtain ⟨m', b1, b2, b3, b4, b5, b6⟩ := bounds_run (P := P) (W := W) (isS := true) (Nat.le_refl 0) e0 e1 e2 r1 r2 r3
                    have h0 : hh = 0 := by omega
                    have l0 : l = 0 := by omega
                    subst h0; subst l0
                    have m0 : m' = 0 := by
                      by_cases hm : mx = none
                      · exact b5 hm
                      · rw [b6 hm]
                        cases mx with
                        | none => exact absurd rfl hm
                        | some q =>
                          cases mx' with
                          | none => exact r3.elim
                          | some y => exact Nat.le_zero.1 (bnd_run (P := P) (W := W) e0 r3 0 (Nat.le_refl 0) .index).2
                    subst m0
                    refine ⟨_, sliceAt_run hu hs b1, ?_⟩
                    exact .part0 id 0 _ _ (rowN_lt ho)
                  · obtain ⟨m', b1, b2, b3, b4, b5, b6⟩ := bounds_run (P := P) (W := W) (isS := true) hc e0 e1 e2 r1 r2 r3
                    refine ⟨_, sliceAt_run hu hs b1, ?_⟩
                    by_cases hml : m' = l
                    · rw [if_pos hml, show hh - l = 0 by omega, show m' - l = 0 by omega]
                      exact .part0 id l _ _ (rowN_lt ho)
                    · rw [if_neg hml]
                      simp only [Option.map_some, add_slot, Nat.zero_add]
                      refine part_of ho (by omega) (by omega) (fun hex => ?_) hl
                      simp only [Bool.and_eq_true, beq_iff_eq] at hex
                      have := b6 (by intro e; rw [e] at hex; exact absurd hex.1 (by simp))
                      omega
                · cases h
              · cases h
            · cases h
        · cases h
      · cases h
    · rename_i id off len ex
      split at h
      · rename_i sz n ho
        split at h
        · rename_i hs
          split at h
          · rename_i m e0
            split at h
            · rename_i hh e1
              split at h
              · rename_i l e2
                cases h
                rcases part_inv ho hx with ⟨rfl, A, rfl⟩ | ⟨L, c, hl, hn, hc, he, rfl⟩
                · obtain ⟨m', b1, b2, b3, b4, b5, b6⟩ := bounds_run (P := P) (W := W) (isS := true) (Nat.le_refl 0) e0 e1 e2 r1 r2 r3
                  have h0 : hh = 0 := by omega
                  have l0 : l = 0 := by omega
                  subst h0; subst l0
                  have m0 : m' = 0 := by
                    by_cases hm : mx = none
                    · exact b5 hm
                    · rw [b6 hm]
                      cases mx with
                      | none => exact absurd rfl hm
                      | some q =>
                        cases mx' with
                        | none => exact r3.elim
                        | some y => exact Nat.le_zero.1 (bnd_run (P := P) (W := W) e0 r3 0 (Nat.le_refl 0) .index).2
                  subst m0
                  exact ⟨_, sliceAt_run hu hs b1, .part0 id _ _ _ (rowN_lt ho)⟩
                · obtain ⟨m', b1, b2, b3, b4, b5, b6⟩ := bounds_run (P := P) (W := W) (isS := true) hc e0 e1 e2 r1 r2 r3
                  refine ⟨_, sliceAt_run hu hs b1, ?_⟩
                  by_cases hml : m' = l
                  · rw [if_pos hml, show hh - l = 0 by omega, show m' - l = 0 by omega]
                    exact .part0 id _ _ _ (rowN_lt ho)
                  · rw [if_neg hml]
                    simp only [Option.map_some, add_slot, ← Nat.add_mul]
                    refine part_of ho (by omega) (by omega) (fun hex => ?_) hl
                    simp only [Bool.or_eq_true, Bool.and_eq_true, beq_iff_eq, Option.isNone_iff_eq_none] at hex
                    rcases hex with hex | hex
                    · have := b6 (by intro e; rw [e] at hex; exact absurd hex.1 (by simp))
                      omega
                    · have h7 := b5 hex.2
                      have h8 := he hex.1.1
                      have h9 : hh = len := by
                        have := hex.1.2
                        subst this
                        rw [hex.2] at e1
                        simp only [bndHi] at e1
                        exact (Option.some.inj e1).symm
                      omega
              · cases h
            · cases h
          · cases h
        · cases h
      · cases h
    · cases h
  · cases h
end
end Go.Proofs.Eng
