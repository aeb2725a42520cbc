/- The engine, part 9: the run of operations that look at no object. -/
import Derived.Test.YthcmmpoifgoniaaE8
set_option linter.unusedVariables false
set_option linter.unusedSimpArgs false
namespace Go.Proofs.Eng
section
variable {hp : Heap} {imm : Nat → Prop} {β : Beta} {H : NH} {P : Program} {W : World}

theorem map_vN {o : Option Value} {r : NV} (h : o.map vN = some r) : ∃ v, o = some v ∧ r = vN v := by
  rw [Option.map_eq_some_iff] at h
  obtain ⟨v, h1, h2⟩ := h
  exact ⟨v, h1, h2.symm⟩

/-- '==' and '!=', where neither side is two numbers or two strings. -/
theorem binOp_eql {T : TypeId} {x y : NV} {a b : Value} {r : Bool} (h : eqN P 6 T x y = some r) (hx : Rep hp imm β H x a) (hy : Rep hp imm β H y b)
    (hn : ∀ k m k' m', ¬ (a = .int k m ∧ b = .int k' m')) (hs : ∀ s t, ¬ (a = .string s ∧ b = .string t)) :
    (binOp .eql T a b).run P W = .ok (.bool r) W ∧ (binOp .neq T a b).run P W = .ok (.bool (!r)) W := by
  have he : (Op.equal T a b).run P W = .ok r W := eqN_run 6 T x y a b r Op.maxDepth h (by decide) hx hy
  have hne : ∀ (d : Nat) (k k' : FloatKind) (m m' : Nat), a = .float k m → b = .float k' m' → False := by
    rintro d k k' m m' rfl rfl
    cases hx with
    | p _ _ hx => cases hx with
      | v => cases hy with
        | p _ _ hy => cases hy with
          | v => exact absurd h (by simp [eqN, eqPlain])
        | junk => exact absurd h (by simp [eqN])
    | junk => cases hy with
      | p _ _ hy => cases hy with
        | v => simp [eqN] at h
      | junk => simp [eqN] at h
  have hnc : ∀ (k k' : FloatKind) (m m' l l' : Nat), a = .complex k m l → b = .complex k' m' l' → False := by
    rintro k k' m m' l l' rfl rfl
    cases hx with
    | p _ _ hx => cases hx with
      | v => cases hy with
        | p _ _ hy => cases hy with
          | v => exact absurd h (by simp [eqN, eqPlain])
        | junk => exact absurd h (by simp [eqN])
    | junk => cases hy with
      | p _ _ hy => cases hy with
        | v => simp [eqN] at h
      | junk => simp [eqN] at h
  cases a <;> cases b <;> first
    | (exact absurd ⟨rfl, rfl⟩ (hn _ _ _ _))
    | (exact absurd ⟨rfl, rfl⟩ (hs _ _))
    | (exact (hne 0 _ _ _ _ rfl rfl).elim)
    | (exact (hnc _ _ _ _ _ _ rfl rfl).elim)
    | (simp only [binOp, Sem.run_bind, he, Result.andThen_ok, Sem.run_pure]; simp)

theorem eqN_junk_l (d : Nat) (T : TypeId) (y : NV) : eqN P d T .junk y = none := by
  cases d with
  | zero => rfl
  | succ d =>
    cases y with
    | p y =>
      cases y with
      | v v => cases v <;> first | rfl | (rename_i a; cases a <;> simp [eqN, isRef])
      | _ => rfl
    | _ => rfl
theorem eqN_junk_r (d : Nat) (T : TypeId) (x : NV) : eqN P d T x .junk = none := by
  cases d with
  | zero => rfl
  | succ d =>
    cases x with
    | p y =>
      cases y with
      | v v => cases v <;> first | rfl | (rename_i a; cases a <;> simp [eqN, isRef])
      | _ => rfl
    | _ => rfl
theorem rep_int_inv {x : NV} {k : IntKind} {m : Int} (h : Rep hp imm β H x (.int k m)) : x = .p (.v (.int k m)) ∨ x = .junk := by
  cases h with
  | p _ _ h => cases h with
    | v => exact .inl rfl
  | junk => exact .inr rfl
theorem rep_str_inv {x : NV} {s : ByteArray} (h : Rep hp imm β H x (.string s)) : x = .p (.v (.string s)) ∨ x = .junk := by
  cases h with
  | p _ _ h => cases h with
    | v => exact .inl rfl
  | junk => exact .inr rfl
theorem binN_run {op : BinOp} {T : TypeId} {xo yo : Operand} {x y r : NV} {a b : Value} (h : binN P op T xo yo x y = some r) (hx : Rep hp imm β H x a) (hy : Rep hp imm β H y b) :
    ∃ v, (do eqGuard op T xo yo a b; binOp op T a b : Sem Value).run P W = .ok v W ∧ Rep hp imm β H r v := by
  unfold binN at h
  split at h
  · obtain rfl := hx.v_inv
    obtain rfl := hy.v_inv
    have hg : ∀ (k k' : IntKind) (m m' : Int), (eqGuard op T xo yo (.int k m) (.int k' m')).run P W = .ok () W := fun k k' m m' => guard_plain (.inl ⟨fun c => by simp, by simp⟩)
    split at h
    · obtain ⟨v, h1, rfl⟩ := map_vN h
      exact ⟨v, by rw [Sem.run_bind, hg]; exact shBin_run h1, vRep v⟩
    · obtain ⟨v, h1, rfl⟩ := map_vN h
      exact ⟨v, by rw [Sem.run_bind, hg]; exact shBin_run h1, vRep v⟩
    · split at h
      · rename_i hk
        subst hk
        obtain ⟨v, h1, rfl⟩ := map_vN h
        exact ⟨v, by rw [Sem.run_bind, hg]; exact intBin_run h1, vRep v⟩
      · cases h
  · obtain rfl := hx.v_inv
    obtain rfl := hy.v_inv
    have hg : ∀ s t : ByteArray, (eqGuard op T xo yo (.string s) (.string t)).run P W = .ok () W := fun s t => guard_plain (.inl ⟨fun c => by simp, by simp⟩)
    obtain ⟨v, h1, rfl⟩ := map_vN h
    exact ⟨v, by rw [Sem.run_bind, hg]; exact strBin_run h1, vRep v⟩
  · rename_i hni hns
    have hn : ∀ q, eqN P 6 T x y = some q → ∀ k m k' m', ¬ (a = .int k m ∧ b = .int k' m') := by
      rintro q he k m k' m' ⟨rfl, rfl⟩
      rcases rep_int_inv hx with rfl | rfl
      · rcases rep_int_inv hy with rfl | rfl
        · exact hni _ _ _ _ rfl rfl
        · rw [eqN_junk_r] at he; cases he
      · rw [eqN_junk_l] at he; cases he
    have hs : ∀ q, eqN P 6 T x y = some q → ∀ s t, ¬ (a = .string s ∧ b = .string t) := by
      rintro q he s t ⟨rfl, rfl⟩
      rcases rep_str_inv hx with rfl | rfl
      · rcases rep_str_inv hy with rfl | rfl
        · exact hns _ _ rfl rfl
        · rw [eqN_junk_r] at he; cases he
      · rw [eqN_junk_l] at he; cases he
    split at h
    · split at h
      · rename_i hg
        rw [Option.map_eq_some_iff] at h
        obtain ⟨q, h1, rfl⟩ := h
        exact ⟨_, by rw [Sem.run_bind, guard_run hg hx hy]; exact (binOp_eql h1 hx hy (hn q h1) (hs q h1)).1, vRep _⟩
      · cases h
    · split at h
      · rename_i hg
        rw [Option.map_eq_some_iff] at h
        obtain ⟨q, h1, rfl⟩ := h
        exact ⟨_, by rw [Sem.run_bind, guard_run hg hx hy]; exact (binOp_eql h1 hx hy (hn q h1) (hs q h1)).2, vRep _⟩
      · cases h
    · cases h

theorem convN_run {src dst : TypeId} {x r : NV} {a : Value} (h : convN P src dst x = some r) (hx : Rep hp imm β H x a) : ∃ v, (convert src dst a).run P W = .ok v W ∧ Rep hp imm β H r v := by
  unfold convN at h
  split at h
  · rename_i hs hd
    cases h
    obtain rfl := hx.v_inv
    exact ⟨_, by simp [convert, run_underlying hs, run_underlying hd, Conv.intToInt], vRep _⟩
  · rename_i hs hd
    cases h
    obtain rfl := hx.v_inv
    refine ⟨_, ?_, vRep _⟩
    simp only [convert, Sem.run_bind, run_underlying hs, run_underlying hd, Result.andThen_ok, Sem.run_pure]
  · cases h

theorem byteAt {s : ByteArray} {i : Nat} (h : i < s.size) : s[i]? = some (bAt s i) := by
  have h' : i < s.data.toList.length := by simpa using h
  unfold bAt
  rw [List.getD_eq_getElem?_getD, List.getElem?_eq_getElem h']
  simp only [Option.getD_some, Array.getElem_toList]
  rw [getElem?_pos s i h]
  rfl
theorem indexN_run {T : TypeId} {x ix r : NV} {a b : Value} (h : indexN P T x ix = some r) (hx : Rep hp imm β H x a) (hy : Rep hp imm β H ix b) :
    ∃ v, (Instr.index T a b).run P W = .ok v W ∧ Rep hp imm β H r v := by
  unfold indexN at h
  split at h
  · rename_i s0 k0 i0 hu
    split at h
    · rename_i hc
      cases h
      obtain rfl := hx.v_inv
      obtain rfl := hy.v_inv
      refine ⟨_, ?_, vRep _⟩
      have hlt : i0.toNat < s0.size := by have := hc.2; omega
      simp only [Instr.index, asIntOf, Sem.run_bind, Sem.run_pure, Result.andThen_ok, run_underlying hu]
      rw [if_pos hc.1, byteAt hlt]
      simp
    · cases h
  · rename_i hu
    split at h
    · rename_i s hs
      split at h
      · rename_i hc
        obtain rfl := hy.v_inv
        cases hx with
        | agg xs as hl hr =>
          obtain ⟨v, h1, h2⟩ := part_run (W := W) hl hr h
          refine ⟨v, ?_, h2⟩
          simp only [Instr.index, asIntOf, Sem.run_bind, Sem.run_pure, Result.andThen_ok, run_underlying hu]
          rw [if_pos hc]
          simp only [Sem.run_bind, tySz_run hs, Result.andThen_ok]
          exact h1
      · cases h
    · cases h
  · cases h
theorem fieldOf_inv {S : TypeId} {f : Nat} {fd : Field} (h : fieldOf P S f = some fd) : ∃ fs, P.underlying S = some (.struct fs) ∧ fs[f]? = some fd := by
  unfold fieldOf at h
  split at h
  · rename_i fs hu; exact ⟨fs, hu, h⟩
  · cases h
theorem fieldN_run {S : TypeId} {x r : NV} {f : Nat} {a : Value} (h : fieldN P S x f = some r) (hx : Rep hp imm β H x a) : ∃ v, (Instr.field S a f).run P W = .ok v W ∧ Rep hp imm β H r v := by
  unfold fieldN at h
  split at h
  · rename_i fd xs hf
    obtain ⟨fs, hu, hfd⟩ := fieldOf_inv hf
    cases hx with
    | agg xs as hl hr =>
      obtain ⟨v, h1, h2⟩ := part_run (W := W) hl hr h
      refine ⟨v, ?_, h2⟩
      simp only [Instr.field, Sem.run_bind, run_underlying hu, Result.andThen_ok, hfd, asAgg, Sem.run_pure]
      exact h1
  · cases h
theorem add_slot (l : Loc) (off n : Nat) : (slot l off).add n = slot l (off + n) := by
  unfold Addr.add slot
  split
  · rename_i h; subst h; rfl
  · simp [Nat.add_assoc]
theorem add_plain' (b o n : Nat) : (⟨b, o, none⟩ : Addr).add n = ⟨b, o + n, none⟩ := by
  unfold Addr.add
  split
  · rename_i h; subst h; rfl
  · rfl
theorem vp_drop {cells : List VV} {b o n : Nat} (hi : imm b) (h : ∀ (j : Nat) (x : VV), cells[j]? = some x → ∃ y, cellAt hp b (o + j) = some y ∧ y.oneCell' = true ∧ PV hp imm x y) :
    Rep hp imm β H (.vp (cells.drop n)) (.pointer (some ⟨b, o + n, none⟩)) := by
  refine .vp _ b (o + n) hi fun j x hx => ?_
  rw [List.getElem?_drop] at hx
  have := h _ x hx
  rwa [← Nat.add_assoc] at this
theorem fieldAddrN_run {S : TypeId} {x r : NV} {f : Nat} {a : Value} (h : fieldAddrN P S x f = some r) (hx : Rep hp imm β H x a) : ∃ v, (Instr.fieldAt S a f).run P W = .ok v W ∧ Rep hp imm β H r v := by
  unfold fieldAddrN at h
  split at h
  · rename_i fd hf
    obtain ⟨fs, hu, hfd⟩ := fieldOf_inv hf
    split at h
    · cases h
    · rename_i s hne hs
      have hs0 : s ≠ 0 := fun e => by subst e; exact hne rfl
      have key : ∀ A : Addr, a = .pointer (some A) → (Instr.fieldAt S a f).run P W = .ok (.pointer (some (A.add fd.offset))) W := by
        rintro A rfl
        simp only [Instr.fieldAt, Sem.run_bind, run_underlying hu, Result.andThen_ok, hfd, Instr.sureAddr, Sem.run_pure, fieldPlace, tySz_run hs]
        rw [if_neg hs0]; rfl
      split at h
      · cases h
        cases hx with
        | ptr id off l hid hl => exact ⟨_, key _ rfl, by rw [add_slot]; exact .ptr _ _ l hid hl⟩
      · cases h
        cases hx with
        | pe id i j l T rw sz n get ho hi hl => exact ⟨_, key _ rfl, by rw [add_slot, Nat.add_assoc]; exact .pe _ _ _ l T rw sz n get ho hi hl⟩
      · cases h
        cases hx with
        | vp cells b o hi hc => exact ⟨_, key _ rfl, by rw [add_plain']; exact vp_drop hi hc⟩
      · cases h
    · cases h
  · cases h
end
end Go.Proofs.Eng
