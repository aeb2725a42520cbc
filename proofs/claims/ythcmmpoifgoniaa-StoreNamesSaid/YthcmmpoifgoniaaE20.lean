/- The engine, part 20: append, its run. -/
import Derived.Test.YthcmmpoifgoniaaE19
set_option linter.unusedVariables false
set_option linter.unusedSimpArgs false
namespace Go.Proofs.Eng
section
variable {β : Beta} {H : NH} {P : Program} {W : World}

theorem isIntTy_run {T : TypeId} (h : isIntTy P T = some false) : ∃ d, P.underlying T = some d ∧ ∀ k, d ≠ .int k := by
  unfold isIntTy at h
  split at h
  · cases h
  · rename_i d hn hu
    exact ⟨d, hu, fun k e => by subst e; exact hn _ rfl⟩
  · cases h
/-- There is room. -/
theorem append_fits {ts : Array TypeId} {ty T T2 e : TypeId} {s b m n c : Nat} {z : List VV} {x : Value} {news : Array Value} {A : Option Addr} {W' : World}
    (hT : ts[0]? = some T) (hT2 : ts[1]? = some T2) (hu : P.underlying T = some (.slice e)) (hi : isIntTy P T2 = some false) (he : elemOf P e = some (s, b, z)) (hsrc : SrcB P W s m x news) (hc : n + m ≤ c)
    (hst : ∀ a, A = some a → (storeCells (a.add (n * s)) news.toList).run P W = .ok () W') (hno : A = none → W' = W) :
    (Builtin.append_ ts ty #[.slice A n c, x]).run P W = .ok (.slice A (n + m) c) W' := by
  obtain ⟨d, hd, hnint⟩ := isIntTy_run hi
  have h0 : (#[Value.slice A n c, x] : Array Value)[0]? = some (.slice A n c) := rfl
  have h1 : (#[Value.slice A n c, x] : Array Value)[1]? = some x := rfl
  have hm : (match d with | .int _ => true | _ => false) = false := by cases d <;> first | rfl | exact absurd rfl (hnint _)
  simp only [Builtin.append_, hT, hT2, h0, h1, Sem.run_bind, run_underlying hu, run_underlying hd, Result.andThen_ok, tySz_run (elemOf_sz he), Sem.run_pure, hm, Bool.false_eq_true, if_false, hsrc.len]
  rw [if_pos hc]
  simp only [Bool.not_false, if_true, Sem.run_bind, hsrc.cells W rfl, Result.andThen_ok]
  cases A with
  | none => rw [hno rfl]; rfl
  | some a => simp only [Sem.run_bind, hst a rfl, Result.andThen_ok, Sem.run_pure]
/-- There is none. -/
theorem append_grows {ts : Array TypeId} {ty T T2 e : TypeId} {s b m n c : Nat} {z : List VV} {x : Value} {news olds : Array Value} {A : Option Addr}
    (hT : ts[0]? = some T) (hT2 : ts[1]? = some T2) (hu : P.underlying T = some (.slice e)) (hi : isIntTy P T2 = some false) (he : elemOf P e = some (s, b, z)) (hsrc : SrcB P W s m x news) (hc : c < n + m) (hnc : n ≤ c)
    (hb : (2 * (n + m) + 192) * b ≤ 281474976710656) (hold : ∀ W' : World, W'.heap = W.heap → (Builtin.firstCells s n (.slice A n c)).run P W' = .ok olds W') (hos : olds.size = n * s) :
    ∃ (k : Nat) (rest : Array Value) (W' : World), n + m ≤ k ∧ rest.size = (k - (n + m)) * s ∧ W'.heap = W.heap.push (.cells (olds ++ news ++ rest) e) ∧ Same W W' ∧
      (Builtin.append_ ts ty #[.slice A n c, x]).run P W = .ok (.slice (some ⟨W.heap.size, 0, none⟩) (n + m) k) W' := by
  obtain ⟨d, hd, hnint⟩ := isIntTy_run hi
  obtain ⟨i, v, i1, i2, i3, i4, i5, i6, i7, i8, i9⟩ := elemOf_inv he
  have h0 : (#[Value.slice A n c, x] : Array Value)[0]? = some (.slice A n c) := rfl
  have h1 : (#[Value.slice A n c, x] : Array Value)[1]? = some x := rfl
  have hm : (match d with | .int _ => true | _ => false) = false := by cases d <;> first | rfl | exact absurd rfl (hnint _)
  have hti : ∀ W' : World, (typeInfo e).run P W' = .ok i W' := fun W' => by simp [typeInfo, i1]
  have hzv : ∀ W' : World, (zeroValue e).run P W' = .ok v W' := fun W' => by simp [zeroValue, typeInfo, i1, i2]
  have hcap : ¬ Builtin.nextslicecap (n + m) c * i.bytes > 2 ^ 48 := by
    have h2 := nextcap_le (n := n + m) (c := c) hc
    have h3 : Builtin.nextslicecap (n + m) c * b ≤ (2 * (n + m) + 192) * b := Nat.mul_le_mul_right _ h2
    rw [i4]; omega
  have hcut : ∀ t, n + m ≤ (Question.appendCap (n + m) c e).cut t := fun t => by simp only [Question.cut]; omega
  refine ⟨(Question.appendCap (n + m) c e).cut (W.tape W.drawn (.appendCap (n + m) c e)), Builtin.zeroCells v.cells ((Question.appendCap (n + m) c e).cut (W.tape W.drawn (.appendCap (n + m) c e)) - (n + m)),
    { W with drawn := W.drawn + 1, heap := W.heap.push (.cells (olds ++ news ++ Builtin.zeroCells v.cells ((Question.appendCap (n + m) c e).cut (W.tape W.drawn (.appendCap (n + m) c e)) - (n + m))) e) },
    hcut _, by simp [Builtin.zeroCells, i7], rfl, ⟨rfl, rfl, rfl⟩, ?_⟩
  have hold' := hold { W with drawn := W.drawn + 1 } rfl
  have hnew' := hsrc.cells { W with drawn := W.drawn + 1 } rfl
  simp only [Builtin.append_, hT, hT2, h0, h1, Sem.run_bind, run_underlying hu, run_underlying hd, Result.andThen_ok, tySz_run (elemOf_sz he), Sem.run_pure, hm, Bool.false_eq_true, if_false, hsrc.len]
  rw [if_neg (by omega)]
  simp only [Sem.run_bind, hti, Result.andThen_ok]
  rw [if_neg (by rw [i4]; simp; omega)]
  simp only [Sem.run_bind, hti, Result.andThen_ok]
  rw [if_neg hcap]
  simp only [Sem.run_bind, hti, run_choose, Question.forced, Bool.false_eq_true, if_false, Result.andThen_ok, run_askRoom, hold', Bool.not_false, if_true, hnew', hzv, newRow, run_newObj, Sem.run_pure]
end
end Go.Proofs.Eng
