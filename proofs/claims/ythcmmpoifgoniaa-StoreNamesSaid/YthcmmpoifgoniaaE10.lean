/- The engine, part 10: the rest of the operations that look at no object. -/
import Derived.Test.YthcmmpoifgoniaaE9
set_option linter.unusedVariables false
set_option linter.unusedSimpArgs false
namespace Go.Proofs.Eng
section
variable {hp : Heap} {imm : Nat → Prop} {β : Beta} {H : NH} {P : Program} {W : World}

theorem indexAddrN_run {T : TypeId} {x ix r : NV} {a b : Value} (h : indexAddrN P T x ix = some r) (hx : Rep hp imm β H x a) (hy : Rep hp imm β H ix b) :
    ∃ v, (Instr.indexAt T a b).run P W = .ok v W ∧ Rep hp imm β H r v := by
  unfold indexAddrN at h
  split at h
  · rename_i e sz n get k i hu
    split at h
    · rename_i hs
      split at h
      · rename_i hc
        cases h
        obtain rfl := hy.v_inv
        cases hx with
        | p _ _ hx =>
          cases hx with
          | sl0 => exact absurd hc.2 (by have := hc.1; omega)
          | sl _ _ _ bb o c z hi hcc hl hz hr =>
            have hlt : i.toNat < n := by have := hc.2; have := hc.1; omega
            refine ⟨_, by simp only [Instr.indexAt, asIntOf, Sem.run_bind, Sem.run_pure, Result.andThen_ok, run_underlying hu, tySz_run hs, if_pos hc, Sem.run_ite, if_pos hc.1]; rfl, ?_⟩
            rw [add_plain']
            refine .vp _ bb _ hi fun j x hj => ?_
            have hjs : j < sz := by rw [← hl _ hlt]; exact (List.getElem?_eq_some_iff.1 hj).1
            have hk : i.toNat * sz + j < n * sz := by
              have : (i.toNat + 1) * sz ≤ n * sz := Nat.mul_le_mul_right _ hlt
              rw [Nat.succ_mul] at this; omega
            obtain ⟨z1, z2⟩ := hz _ hk
            exact ⟨_, by rw [Nat.add_assoc]; exact z1, z2, hr _ hlt j x hj⟩
      · cases h
    · cases h
  · rename_i len e id off k i hu
    split at h
    · rename_i s hs
      split at h
      · rename_i hc
        cases h
        obtain rfl := hy.v_inv
        cases hx with
        | ptr _ _ l hid hl =>
          refine ⟨_, by simp only [Instr.indexAt, asIntOf, Instr.sureAddr, Sem.run_bind, Sem.run_pure, Result.andThen_ok, run_underlying hu, tySz_run hs, if_pos hc, Sem.run_ite]; rfl, ?_⟩
          rw [add_slot]; exact .ptr _ _ l hid hl
      · cases h
    · cases h
  · rename_i len e cells k i hu
    split at h
    · rename_i s hs
      split at h
      · rename_i hc
        cases h
        obtain rfl := hy.v_inv
        cases hx with
        | vp _ b o hi hh =>
          refine ⟨_, by simp only [Instr.indexAt, asIntOf, Instr.sureAddr, Sem.run_bind, Sem.run_pure, Result.andThen_ok, run_underlying hu, tySz_run hs, if_pos hc, Sem.run_ite]; rfl, ?_⟩
          rw [add_plain']; exact vp_drop hi hh
      · cases h
    · cases h
  · cases h

theorem bnd_run {x : NV} {y n : Nat} {a : Value} (h : bnd x y = some n) (hx : Rep hp imm β H x a) (z : Nat) (hz : y ≤ z) (c : BoundsCode) :
    (Instr.sliceBound a z c).run P W = .ok n W ∧ n ≤ y := by
  unfold bnd at h
  split at h
  · split at h
    · rename_i k i hc
      cases h
      obtain rfl := hx.v_inv
      refine ⟨?_, by have := hc.2; have := hc.1; omega⟩
      simp only [Instr.sliceBound, asIntOf, Sem.run_bind, Sem.run_pure, Result.andThen_ok]
      rw [if_pos (by have := hc.1; have := hc.2; omega)]; rfl
    · cases h
  · cases h
def RepO (hp : Heap) (imm : Nat → Prop) (β : Beta) (H : NH) : Option NV → Option Value → Prop
  | none, none => True
  | some x, some y => Rep hp imm β H x y
  | _, _ => False
/-- The bounds of a slice: n of what is known to be there, c in truth. -/
theorem bounds_run {isS : Bool} {n c : Nat} {lo hi mx : Option NV} {lo' hi' mx' : Option Value} {l h m : Nat} (hnc : n ≤ c)
    (hm : bndO mx n n = some m) (hh : bndHi hi mx m n = some h) (hl : bndO lo h 0 = some l)
    (r1 : RepO hp imm β H lo lo') (r2 : RepO hp imm β H hi hi') (r3 : RepO hp imm β H mx mx') :
    ∃ m', (Instr.sliceBounds isS n c lo' hi' mx').run P W = .ok (l, h, m') W ∧ l ≤ h ∧ h ≤ m' ∧ h ≤ n ∧ (mx = none → m' = c) ∧ (mx ≠ none → m' = m) := by
  have hl' : ∀ code, ∃ q : (match lo' with | some v => Instr.sliceBound v h code | none => pure 0 : Sem Nat).run P W = .ok l W, l ≤ h := by
    intro code
    cases lo with
    | none => cases lo' with
      | none => simp only [bndO] at hl; cases hl; exact ⟨rfl, Nat.zero_le _⟩
      | some _ => exact r1.elim
    | some x => cases lo' with
      | none => exact r1.elim
      | some y => obtain ⟨q1, q2⟩ := bnd_run (P := P) (W := W) hl r1 h (Nat.le_refl _) code; exact ⟨q1, q2⟩
  cases mx with
  | none =>
    cases mx' with
    | some _ => exact r3.elim
    | none =>
      simp only [bndO] at hm
      cases hm
      cases hi with
      | none =>
        cases hi' with
        | some _ => exact r2.elim
        | none =>
          simp only [bndHi] at hh
          cases hh
          obtain ⟨q, hle⟩ := hl' .sliceB
          refine ⟨c, ?_, hle, hnc, Nat.le_refl _, fun _ => rfl, fun e => absurd rfl e⟩
          simp only [Instr.sliceBounds, Sem.run_bind, Sem.run_pure, Result.andThen_ok]
          cases lo' with
          | none => simp only [Sem.run_pure, Result.andThen_ok] at q ⊢; cases q; rfl
          | some v => simp only [Option.isSome_none, Bool.false_eq_true, if_false, Sem.run_bind] at q ⊢; rw [q]; rfl
      | some x =>
        cases hi' with
        | none => exact r2.elim
        | some y =>
          obtain ⟨q1, q2⟩ := bnd_run (P := P) (W := W) hh r2 c hnc (if isS then .sliceAcap else .sliceAlen)
          obtain ⟨q, hle⟩ := hl' .sliceB
          refine ⟨c, ?_, hle, Nat.le_trans q2 hnc, q2, fun _ => rfl, fun e => absurd rfl e⟩
          simp only [Instr.sliceBounds, Sem.run_bind, Sem.run_pure, Result.andThen_ok, q1]
          cases lo' with
          | none => simp only [Sem.run_pure, Result.andThen_ok] at q ⊢; cases q; rfl
          | some v => simp only [Option.isSome_none, Bool.false_eq_true, if_false, Sem.run_bind] at q ⊢; rw [q]; rfl
  | some mv =>
    cases mx' with
    | none => exact r3.elim
    | some mv' =>
      obtain ⟨m1, m2⟩ := bnd_run (P := P) (W := W) hm r3 c hnc (if isS then .slice3Acap else .slice3Alen)
      cases hi with
      | none => cases hh
      | some x =>
        cases hi' with
        | none => exact r2.elim
        | some y =>
          obtain ⟨q1, q2⟩ := bnd_run (P := P) (W := W) hh r2 m (Nat.le_refl _) .slice3B
          obtain ⟨q, hle⟩ := hl' .slice3C
          refine ⟨m, ?_, hle, q2, Nat.le_trans q2 m2, (fun e => by cases e), fun _ => rfl⟩
          simp only [Instr.sliceBounds, Sem.run_bind, Sem.run_pure, Result.andThen_ok, m1, q1]
          cases lo' with
          | none => simp only [Sem.run_pure, Result.andThen_ok] at q ⊢; cases q; rfl
          | some v => simp only [Option.isSome_some, if_true, Sem.run_bind] at q ⊢; rw [q]; rfl
theorem sliceN_run {T : TypeId} {x r : NV} {lo hi mx : Option NV} {a : Value} {lo' hi' mx' : Option Value} (h : sliceN P T x lo hi mx = some r) (hx : Rep hp imm β H x a)
    (r1 : RepO hp imm β H lo lo') (r2 : RepO hp imm β H hi hi') (r3 : RepO hp imm β H mx mx') : ∃ v, (Instr.sliceAt T a lo' hi' mx').run P W = .ok v W ∧ Rep hp imm β H r v := by
  unfold sliceN at h
  split at h
  · rename_i s hu
    obtain rfl := hx.v_inv
    split at h
    rotate_left
    · cases h
    rename_i hmx
    obtain rfl : mx = none := by cases mx <;> simp_all
    cases mx' with
    | some _ => exact r3.elim
    | none =>
    split at h
    · rename_i hh e1
      split at h
      · rename_i l e2
        cases h
        obtain ⟨m', b1, b2, b3, b4, b5, b6⟩ := bounds_run (P := P) (W := W) (isS := false) (Nat.le_refl s.size) (mx := none) (mx' := none) rfl (by cases hi <;> exact e1) e2 r1 r2 trivial
        refine ⟨_, ?_, vRep _⟩
        simp only [Instr.sliceAt, Sem.run_bind, run_underlying hu, Result.andThen_ok, Instr.slice, Option.isSome_none, Bool.false_eq_true, if_false, Sem.run_pure, b1]
        rw [subStr_eq]
      · cases h
    · cases h
  · rename_i e hu
    split at h
    · rename_i m sz e0 hs
      split at h
      · rename_i hh e1
        split at h
        · rename_i l e2
          cases h
          obtain rfl := hx.v_inv
          obtain ⟨m', b1, b2, b3, b4, b5, b6⟩ := bounds_run (P := P) (W := W) (isS := true) (Nat.le_refl 0) e0 e1 e2 r1 r2 r3
          have h0 : hh = 0 := by omega
          have l0 : l = 0 := by omega
          subst h0; subst l0
          have m0 : m' = 0 := by
            by_cases hm : mx = none
            · exact b5 hm
            · rw [b6 hm]
              cases mx with
              | none => exact absurd rfl hm
              | some q =>
                have := (bnd_run (P := P) (W := W) (a := mx'.getD (.bool true)) e0 (by cases mx' with | none => exact r3.elim | some y => exact r3) 0 (Nat.le_refl 0) .index).2
                omega
          subst m0
          refine ⟨_, by simp only [Instr.sliceAt, Sem.run_bind, run_underlying hu, Result.andThen_ok, Instr.slice, b1, tySz_run hs, Sem.run_pure]; rfl, ?_⟩
          exact vRep _
        · cases h
      · cases h
    · cases h
  · rename_i e sz n get hu
    split at h
    · rename_i hs
      split at h
      · rename_i m e0
        split at h
        · rename_i hh e1
          split at h
          · rename_i l e2
            have hcase : (r = .p (.sl sz (hh - l) fun i => get (l + i))) ∨ (r = .xsl sz (hh - l) (fun i => get (l + i)) ∧ mx ≠ none ∧ m = hh) := by
              split at h
              · rename_i hc
                cases h
                simp only [Bool.and_eq_true, beq_iff_eq] at hc
                exact .inr ⟨rfl, fun e => by rw [e] at hc; exact absurd hc.1 (by simp), hc.2⟩
              · cases h; exact .inl rfl
            have fin : ∀ (A : Option Addr) (C : Nat), PV hp imm (.sl sz (hh - l) fun i => get (l + i)) (.slice A (hh - l) C) → (mx ≠ none → m = hh → C = hh - l) →
                Rep hp imm β H r (.slice A (hh - l) C) := by
              intro A C hpv hC
              rcases hcase with rfl | ⟨rfl, c1, c2⟩
              · exact .p _ _ hpv
              · obtain rfl := hC c1 c2; exact .xsl _ _ _ _ hpv
            clear hcase h
            cases hx with
            | p _ _ hx =>
              cases hx with
              | sl0 _ _ A c =>
                obtain ⟨m', b1, b2, b3, b4, b5, b6⟩ := bounds_run (P := P) (W := W) (isS := true) (Nat.zero_le c) e0 e1 e2 r1 r2 r3
                have h0 : hh = 0 := by omega
                have l0 : l = 0 := by omega
                subst h0; subst l0
                refine ⟨_, by simp only [Instr.sliceAt, Sem.run_bind, run_underlying hu, Result.andThen_ok, Instr.slice, b1, tySz_run hs, Sem.run_pure]; rfl, ?_⟩
                exact fin _ _ (.sl0 _ _ _ _) (fun q1 q2 => by have := b6 q1; omega)
              | sl _ _ _ bb o c z him hcc hl hz hr =>
                obtain ⟨m', b1, b2, b3, b4, b5, b6⟩ := bounds_run (P := P) (W := W) (isS := true) hcc e0 e1 e2 r1 r2 r3
                have hm' : hh ≤ m' := b3
                refine ⟨_, by simp only [Instr.sliceAt, Sem.run_bind, run_underlying hu, Result.andThen_ok, Instr.slice, b1, tySz_run hs, Sem.run_pure]; rfl, ?_⟩
                by_cases hml : m' = l
                · rw [if_pos hml]
                  refine fin _ _ ?_ (fun q1 q2 => by have := b6 q1; omega)
                  rw [show hh - l = 0 by omega]
                  exact .sl0 _ _ _ _
                · rw [if_neg hml]
                  simp only [Option.map_some, add_plain']
                  refine fin _ _ ?_ (fun q1 q2 => by have := b6 q1; omega)
                  refine (.sl _ _ _ bb _ _ (fun k => z (l * sz + k)) him (by omega) (fun i hi => hl _ (by omega)) (fun k hk => ?_) (fun i hi j x hj => ?_))
                  · have := hz (l * sz + k) (by
                      have : (l + (hh - l)) * sz ≤ n * sz := Nat.mul_le_mul_right _ (by omega)
                      rw [Nat.add_mul] at this; omega)
                    rwa [← Nat.add_assoc] at this
                  · have := hr (l + i) (by omega) j x hj
                    rwa [Nat.add_mul, Nat.add_assoc] at this
          · cases h
        · cases h
      · cases h
    · cases h
  · cases h
end
end Go.Proofs.Eng
