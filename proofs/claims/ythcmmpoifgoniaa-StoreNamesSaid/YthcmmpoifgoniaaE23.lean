/- The engine, part 23: what is taken out of maps; bytes of a string; rows that are nil; operations that change something, put together. -/
import Derived.Test.YthcmmpoifgoniaaE22U
set_option linter.unusedVariables false
set_option linter.unusedSimpArgs false
namespace Go.Proofs.Eng
section
variable {β : Beta} {H : NH} {P : Program} {W : World}

theorem deleteN_run {ts : Array TypeId} {ty : TypeId} {m k : NV} {a b : Value} {H' : NH} (hst : St W.heap β H) (h : deleteN P H ts m k = some H') (hm : (Rep W.heap (Imm W.heap β H) β H) m a) (hk : (Rep W.heap (Imm W.heap β H) β H) k b) :
    ∃ W', (Builtin.delete_ ts ty #[a, b]).run P W = .ok (.tuple #[]) W' ∧ Step β H W β H' W' none? := by
  unfold deleteN at h
  split at h
  · rename_i T hT
    split at h
    · rename_i K E id kv hu
      obtain rfl := hk.v_inv
      split at h
      · rename_i kd es hkd ho
        split at h
        · rename_i hsk
          split at h
          · rename_i es' hup
            cases h
            cases hm with
            | map _ l hid hl =>
              obtain ⟨me, clock, g1, g2, g3, g4, g5⟩ := (hst.obj id _ ho).at hl
              have hg : (getObj l.b).run P W = .ok (.map me clock) W := by simp only [getObj, Sem.run, g1]
              have h0 : (#[Value.map (some l.b), b] : Array Value)[0]? = some (.map (some l.b)) := rfl
              have h1 : (#[Value.map (some l.b), b] : Array Value)[1]? = some b := rfl
              have hfk : ∀ q, Instr.findNow kd b me.toList 0 = some q → (Instr.findKey K b me.toList).run P W = .ok q W := fun q hq => by
                simp only [Instr.findKey, Sem.run_bind, run_underlying hkd, Result.andThen_ok, hq, Sem.run_pure]
              rcases delL_run es es' me.toList 0 hup (by simpa using g2) (fun i q e h1 h2 => (g3 i q.1 q.2 e h1 (by simpa using h2)).1) with ⟨f1, rfl⟩ | ⟨i, u, f1, f2, rfl⟩
              · refine ⟨_, ?_, Step.putMap (me' := me) (clock' := clock) hst ho hl g2 g3 ⟨g4, g5⟩⟩
                simp only [Builtin.delete_, hT, h0, h1, Sem.run_bind, run_underlying hu, Result.andThen_ok, hg, simpleKey_run hkd hsk, hfk _ f1, setObj_run g1, Sem.run_pure]
              · simp only [Nat.zero_add] at f1
                have hi : i < me.size := by simpa using f2
                refine ⟨_, ?_, Step.putMap (me' := me.eraseIdxIfInBounds i) (clock' := clock) hst ho hl ?_ (fun j k x e h1 h2 => ?_) ⟨fun j e h1 => ?_, fun j j' e e' h1 h2 hbe => ?_⟩⟩
                · simp only [Builtin.delete_, hT, h0, h1, Sem.run_bind, run_underlying hu, Result.andThen_ok, hg, simpleKey_run hkd hsk, hfk _ f1, setObj_run g1, Sem.run_pure]
                · simp [Array.eraseIdxIfInBounds, hi, List.length_eraseIdx, ← g2]
                · have hj : (me.eraseIdxIfInBounds i)[j]? = if j < i then me[j]? else me[j + 1]? := by
                    simp [Array.eraseIdxIfInBounds, hi, Array.getElem?_eraseIdx]
                  rw [hj] at h2
                  rw [List.getElem?_eraseIdx] at h1
                  split at h2
                  · rename_i hlt
                    rw [if_pos hlt] at h1
                    exact g3 j k x e h1 h2
                  · rename_i hlt
                    rw [if_neg hlt] at h1
                    exact g3 (j + 1) k x e h1 h2
                · have hj : (me.eraseIdxIfInBounds i)[j]? = if j < i then me[j]? else me[j + 1]? := by
                    simp [Array.eraseIdxIfInBounds, hi, Array.getElem?_eraseIdx]
                  rw [hj] at h1
                  split at h1
                  · exact g4 _ e h1
                  · exact g4 _ e h1
                · have hj : ∀ j, (me.eraseIdxIfInBounds i)[j]? = if j < i then me[j]? else me[j + 1]? := fun j => by
                    simp [Array.eraseIdxIfInBounds, hi, Array.getElem?_eraseIdx]
                  rw [hj] at h1 h2
                  split at h1 <;> split at h2
                  · exact g5 _ _ e e' h1 h2 hbe
                  · have := g5 _ _ e e' h1 h2 hbe; omega
                  · have := g5 _ _ e e' h1 h2 hbe; omega
                  · have := g5 _ _ e e' h1 h2 hbe; omega
          · cases h
        · cases h
      · cases h
    · cases h
  · cases h
theorem clearN_run {ts : Array TypeId} {ty : TypeId} {m : NV} {a : Value} {H' : NH} (hst : St W.heap β H) (h : clearN P H ts m = some H') (hm : (Rep W.heap (Imm W.heap β H) β H) m a) :
    ∃ W', (Builtin.clear_ ts ty #[a]).run P W = .ok (.tuple #[]) W' ∧ Step β H W β H' W' none? := by
  unfold clearN at h
  split at h
  · rename_i T id hT
    split at h
    · rename_i K E es hu ho
      cases h
      cases hm with
      | map _ l hid hl =>
        obtain ⟨me, clock, g1, g2, g3, g4, g5⟩ := (hst.obj id _ ho).at hl
        have hg : (getObj l.b).run P W = .ok (.map me clock) W := by simp only [getObj, Sem.run, g1]
        have h0 : (#[Value.map (some l.b)] : Array Value)[0]? = some (.map (some l.b)) := rfl
        refine ⟨_, ?_, Step.putMap (me' := #[]) (clock' := clock) hst ho hl rfl (fun i k x e h1 => by simp at h1) ⟨fun i e h1 => by simp at h1, fun i j e e' h1 => by simp at h1⟩⟩
        simp only [Builtin.clear_, hT, h0, Sem.run_bind, run_underlying hu, Result.andThen_ok, hg, setObj_run g1, Sem.run_pure]
    · cases h
  · cases h
theorem strBytesN_run {src dst : TypeId} {x r : NV} {a : Value} {H' : NH} (hst : St W.heap β H) (h : strBytesN P H src dst x = some (r, H')) (hx : (Rep W.heap (Imm W.heap β H) β H) x a) :
    ∃ v W' β', (convert src dst a).run P W = .ok v W' ∧ Step β H W β' H' W' none? ∧ Rep W'.heap (Imm W'.heap β' H') β' H' r v := by
  unfold strBytesN at h
  split at h
  · rename_i e s hs hd
    split at h
    · rename_i he hsz
      cases h
      obtain rfl := hx.v_inv
      have hcut : ∀ t, s.size ≤ (Question.appendCap s.size 0 e).cut t := fun t => by simp only [Question.cut]; omega
      generalize hk : (Question.appendCap s.size 0 e).cut (W.tape W.drawn (.appendCap s.size 0 e)) = k
      have hks : s.size ≤ k := hk ▸ hcut _
      have hcs : ((s.data.map fun b => Value.int .u8 b.toNat) ++ Array.replicate (k - s.size) (Value.int .u8 0)).size = k := by
        have : s.data.size = s.size := rfl
        simp [this]; omega
      generalize hcd : (s.data.map fun b => Value.int .u8 b.toNat) ++ Array.replicate (k - s.size) (Value.int .u8 0) = cs at hcs
      have hs1 := Step.alloc hst (.cells cs e (k, k + 1)) (.prow e true 1 s.size (bytesG s)) k (fun β' H' e1 e2 g => by
        refine ⟨cs, (k, k + 1), by simp, fun _ j hj => by rw [hcs] at hj; omega, ⟨hks, by rw [hcs]; simp⟩, Nat.one_pos, fun i hi => ⟨rfl, fun j x y hx hy => ?_⟩⟩
        cases j with
        | succ j => simp [bytesG] at hx
        | zero =>
          simp only [bytesG, List.getElem?_cons_zero] at hx
          cases hx
          simp only [Nat.mul_one, Nat.add_zero, Nat.zero_add] at hy
          rw [← hcd, Array.getElem?_append_left (by simpa using hi), Array.getElem?_map] at hy
          have hb := byteAt hi
          have : s.data[i]? = some (bAt s i) := by
            rw [← hb, getElem?_pos s i hi, Array.getElem?_eq_getElem (show i < s.data.size from hi)]; rfl
          rw [this] at hy
          cases hy
          exact ⟨rfl, .v _⟩)
      refine ⟨.slice (some ⟨W.heap.size, 0, none⟩) s.size k, { W with drawn := W.drawn + 1, heap := W.heap.push (.cells cs e (k, k + 1)) }, _, ?_, hs1.world rfl ⟨rfl, rfl, rfl⟩, ?_⟩
      · have hsh : ({ W with drawn := W.drawn + 1, heap := W.heap.push (.cells cs e) } : World).shape? W.heap.size = some (e, k) := by
          simp [World.shape?, hcs]
        have hfz : ({ W with drawn := W.drawn + 1, heap := W.heap.push (.cells cs e) } : World).freeze ⟨W.heap.size, k, none⟩ 1 = { W with drawn := W.drawn + 1, heap := W.heap.push (.cells cs e (k, k + 1)) } := by
          unfold World.freeze
          rw [if_neg (by omega)]
          congr 1
          apply Array.ext_getElem?
          intro i
          rw [Array.getElem?_modify]
          by_cases hi : W.heap.size = i
          · subst hi; rw [if_pos rfl]; simp
          · rw [if_neg hi, Array.getElem?_push, Array.getElem?_push, if_neg (Ne.symm hi), if_neg (Ne.symm hi)]
        simp only [convert, Sem.run_bind, run_underlying hs, run_underlying hd, run_underlying he, Result.andThen_ok, Conv.stringToBytes, run_choose, Question.forced, Bool.false_eq_true, if_false, hk, hcd, newRow, run_newObj, Sem.run_pure, markStringish,
          run_shape, hsh, run_freeze, hfz]
      · exact Rep.fullP _ ⟨W.heap.size, 0, k⟩ e true 1 s.size (bytesG s) k (by simp) hks (Nat.le_refl _) (upd_self _ _ _)
    · cases h
  · cases h
theorem nilN_run {T : TypeId} {x r : NV} {a : Value} {H' : NH} (hst : St W.heap β H) (h : nilN P H T x = some (r, H')) (hx : (Rep W.heap (Imm W.heap β H) β H) x a) :
    ∃ β', Step β H W β' H' W none? ∧ Rep W.heap (Imm W.heap β' H') β' H' r a := by
  unfold nilN at h
  split at h
  · rename_i e hu
    split at h
    · rename_i s b z he
      split at h
      · cases h
        obtain rfl := hx.v_inv
        obtain ⟨inf, v0, i1, i2, i3, i4, h0, i6, i7, i8, i9⟩ := elemOf_inv he
        exact ⟨_, Step.ghost hst _ ⟨rfl, h0⟩, .full0 _ none (by simp [NilAt]) (upd_self _ _ _)⟩
      · cases h
    · cases h
  · cases h
end
end Go.Proofs.Eng
