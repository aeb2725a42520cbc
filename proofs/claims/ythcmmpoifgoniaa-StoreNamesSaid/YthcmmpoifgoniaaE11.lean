/- The engine, part 11: operations that look at no object, put together. -/
import Derived.Test.YthcmmpoifgoniaaE10
import Derived.Laws.Tables
set_option linter.unusedVariables false
set_option linter.unusedSimpArgs false
namespace Go.Proofs.Eng

def builtinPure (P : Program) (b : Builtin) (ts : Array TypeId) (args : List NV) : Option NV :=
  match b, args with
  | .len, [x] => match ts[0]? with
    | some T => lenN P T x
    | none => none
  | .min, [x, y] => minN x y
  | .max, [x, y] => maxN x y
  | _, _ => none
def pureN (P : Program) (ev : Operand → NV) (op : Op) : Option NV :=
  match op with
  | .move x => some (ev x)
  | .assign x => some (ev x)
  | .pick c a b => match ev c with
    | .p (.v (.bool k)) => some (if k then ev a else ev b)
    | _ => none
  | .build t parts => (builtN P t (parts.toList.map fun q => (q.1, ev q.2))).map .agg
  | .nilCheck x => nilCheckN (ev x)
  | .binOp op T x y _ => binN P op T x y (ev x) (ev y)
  | .unOp op _ x => match ev x with
    | .p (.v v) => (unN op v).map vN
    | _ => none
  | .convert s d x => convN P s d (ev x)
  | .makeInterface T x => makeIfaceN P T (ev x)
  | .makeFunc f a b => some (.fn f (a.toList.map ev) (b.toList.map ev))
  | .slice T x lo hi mx => sliceN P T (ev x) (lo.map ev) (hi.map ev) (mx.map ev)
  | .fieldAddr S x f => fieldAddrN P S (ev x) f
  | .field S x f => fieldN P S (ev x) f
  | .indexAddr T x ix => indexAddrN P T (ev x) (ev ix)
  | .index T x ix => indexN P T (ev x) (ev ix)
  | .extract t i => match ev t with
    | .tup xs => xs[i]?
    | _ => none
  | .call c => match c.callee with
    | .builtin b => builtinPure P b c.argTypes (c.args.toList.map ev)
    | _ => none
  | _ => none

section
variable {hp : Heap} {imm : Nat → Prop} {β : Beta} {H : NH} {P : Program} {W : World}
theorem lenN_run {T ty : TypeId} {x r : NV} {a : Value} {ts : Array TypeId} (hT : ts[0]? = some T) (h : lenN P T x = some r) (hx : Rep hp imm β H x a) :
    ∃ v, (Builtin.len_ ts ty #[a]).run P W = .ok v W ∧ Rep hp imm β H r v := by
  have h0 : (#[a] : Array Value)[0]? = some a := rfl
  unfold lenN at h
  split at h
  · rename_i hu; cases h; obtain rfl := hx.v_inv
    rw [sizeK_eq]
    exact ⟨_, by simp [Builtin.len_, hT, run_underlying hu, goInt], vRep _⟩
  · rename_i hu; cases h
    exact ⟨_, by simp [Builtin.len_, hT, run_underlying hu, goInt], vRep _⟩
  · rename_i e hu
    split at h
    · rename_i n e' hu2; cases h
      exact ⟨_, by simp [Builtin.len_, hT, run_underlying hu, run_underlying hu2, goInt], vRep _⟩
    · cases h
  · rename_i hu; cases h
    cases hx with
    | p _ _ hx => cases hx with
      | sl0 => exact ⟨_, by simp [Builtin.len_, hT, run_underlying hu, goInt], vRep _⟩
      | sl => exact ⟨_, by simp [Builtin.len_, hT, run_underlying hu, goInt], vRep _⟩
  · rename_i hu; cases h; obtain rfl := hx.v_inv
    exact ⟨_, by simp [Builtin.len_, hT, run_underlying hu, goInt], vRep _⟩
  · rename_i hu; cases h
    cases hx with
    | partP => exact ⟨_, by simp [Builtin.len_, hT, run_underlying hu, goInt], vRep _⟩
    | partR => exact ⟨_, by simp [Builtin.len_, hT, run_underlying hu, goInt], vRep _⟩
    | part0 => exact ⟨_, by simp [Builtin.len_, hT, run_underlying hu, goInt], vRep _⟩
  · rename_i hu; cases h; obtain rfl := hx.v_inv
    exact ⟨_, by simp [Builtin.len_, hT, run_underlying hu, goInt], vRep _⟩
  · cases h
theorem builtinPure_run {b : Builtin} {ts : Array TypeId} {args : List NV} {r : NV} {as : Array Value} {ty : TypeId} {cs : Array Bool} (h : builtinPure P b ts args = some r)
    (hl : as.size = args.length) (hr : ∀ (i : Nat) (x : NV) (y : Value), args[i]? = some x → as[i]? = some y → Rep hp imm β H x y) :
    ∃ v, (builtin b ts ty cs as).run P W = .ok (.value v) W ∧ Rep hp imm β H r v := by
  unfold builtinPure at h
  split at h
  · rename_i x
    split at h
    · rename_i T hT
      have hsz : as.size = 1 := by simpa using hl
      have e1 : as = #[as[0]] := by
        apply Array.ext
        · simp [hsz]
        · intro i h1 h2; have : i = 0 := by omega
          subst this; rfl
      have hx := hr 0 x as[0] rfl (Array.getElem?_eq_getElem (by omega))
      obtain ⟨v, h1, h2⟩ := lenN_run (W := W) (ty := ty) hT h hx
      refine ⟨v, ?_, h2⟩
      rw [e1]
      simp only [builtin, Sem.run_bind, h1, Result.andThen_ok, Sem.run_pure]
    · cases h
  all_goals first | (cases h; done) | skip
  all_goals
    rename_i x y
    have hsz : as.size = 2 := by simpa using hl
    have e1 : as = #[as[0], as[1]] := by
      apply Array.ext
      · simp [hsz]
      · intro i h1 h2
        rcases (by omega : i = 0 ∨ i = 1) with rfl | rfl <;> rfl
    have hx := hr 0 x as[0] rfl (Array.getElem?_eq_getElem (by omega))
    have hy := hr 1 y as[1] rfl (Array.getElem?_eq_getElem (by omega))
    generalize as[0] = a0 at *
    generalize as[1] = a1 at *
    subst e1
    first | unfold minN at h | unfold maxN at h
    split at h
    · cases h
      obtain rfl := hx.v_inv
      obtain rfl := hy.v_inv
      exact ⟨_, by simp [builtin, Builtin.min_, Builtin.max_, Builtin.min2, Builtin.max2], vRep _⟩
    · cases h

theorem toVV_rep {x : NV} {v : VV} {a : Value} (h : toVV x = some v) (hx : Rep hp imm β H x a) : PV hp imm v a := by
  cases x with
  | p y =>
    simp only [toVV] at h
    cases h
    cases hx with | p _ _ h => exact h
  | agg xs =>
    simp only [toVV, Option.map_eq_some_iff] at h
    obtain ⟨vs, h1, rfl⟩ := h
    cases hx with
    | agg _ ys hl hr =>
      have key : ∀ (xs : List NV) (vs : List VV), (xs.mapM fun (x : NV) => match x with | NV.p v => some v | _ => none) = some vs → vs.length = xs.length ∧ ∀ (i : Nat) (v : VV), vs[i]? = some v → xs[i]? = some (.p v) := by
        intro xs
        induction xs with
        | nil => intro vs h; simp at h; subst h; simp
        | cons x xs ih =>
          intro vs h
          rw [List.mapM_cons] at h
          cases x with
          | p v =>
            simp only [Option.bind_eq_bind, Option.bind_some, Option.pure_def, Option.bind_eq_some_iff] at h
            obtain ⟨r, h1, h2⟩ := h
            cases h2
            obtain ⟨l1, l2⟩ := ih r h1
            refine ⟨by simp [l1], fun i w hw => ?_⟩
            cases i with
            | zero => simp at hw; simp [hw]
            | succ i => simpa using l2 i w (by simpa using hw)
          | _ => simp at h
      obtain ⟨l1, l2⟩ := key xs vs h1
      refine .agg vs ys (by omega) fun i x y hx hy => ?_
      have := hr i _ y (l2 i x hx) hy
      cases this with | p _ _ h => exact h
  | _ => simp [toVV] at h
theorem makeIfaceN_run {T : TypeId} {x r : NV} {a : Value} (h : makeIfaceN P T x = some r) (hx : Rep hp imm β H x a) : ∃ v, (Instr.makeInterface T a).run P W = .ok v W ∧ Rep hp imm β H r v := by
  unfold makeIfaceN at h
  split at h
  · cases h
  · rename_i d v hni hu hv
    cases h
    refine ⟨.iface T a, ?_, .p _ _ (.iface T v a (toVV_rep hv hx))⟩
    simp only [Instr.makeInterface, Sem.run_bind, run_underlying hu, Result.andThen_ok]
    cases d <;> first | exact (hni _ rfl).elim | rfl
  · cases h
theorem getElem?_map_list {as : Array Operand} {f : Operand → NV} {g : Operand → Value} (hfg : ∀ x, Rep hp imm β H (f x) (g x)) :
    ∀ (i : Nat) (x : NV) (y : Value), (as.toList.map f)[i]? = some x → (as.map g)[i]? = some y → Rep hp imm β H x y := by
  intro i x y hx hy
  rw [List.getElem?_map, Option.map_eq_some_iff] at hx
  obtain ⟨q, hq, rfl⟩ := hx
  rw [Array.getElem?_map, ← Array.getElem?_toList, hq] at hy
  cases hy
  exact hfg q
theorem repO_map (x : Option Operand) {f : Operand → NV} {g : Operand → Value} (hfg : ∀ x, Rep hp imm β H (f x) (g x)) : RepO hp imm β H (x.map f) (x.map g) := by
  cases x with
  | none => trivial
  | some x => exact hfg x
theorem value_run {s : Sem Value} {v : Value} (h : s.run P W = .ok v W) : (do pure (Next.value (← s)) : Sem Next).run P W = .ok (.value v) W := by
  simp only [Sem.run_bind, h, Result.andThen_ok, Sem.run_pure]

theorem pureN_run {G : Nat → NV} {o : Oper} {t : List NV} {a : Act} {r : NV} (hT : RepT hp imm β H t a.tmps) (hG : RepG hp imm β H G) (h : pureN P (evalN G t) o.op = some r) :
    ∃ v, (execOp a.eval o).run P W = .ok (.value v) W ∧ Rep hp imm β H r v := by
  have ev : ∀ x, Rep hp imm β H (evalN G t x) (a.eval x) := fun x => hT.eval (ds := a.defers) hG x
  unfold pureN at h
  unfold execOp
  split at h
  · rename_i x e; rw [e]; cases h; exact ⟨_, rfl, ev x⟩
  · rename_i x e; rw [e]; cases h; exact ⟨_, rfl, ev x⟩
  · rename_i c x y e
    rw [e]
    split at h
    · rename_i k hk
      cases h
      have hc := ev c
      rw [hk] at hc
      have hc := hc.v_inv
      refine ⟨if k then a.eval x else a.eval y, by simp only [hc, asBool, Sem.run_bind, Sem.run_pure, Result.andThen_ok], ?_⟩
      cases k
      · exact ev y
      · exact ev x
    · cases h
  · rename_i T parts e
    rw [e]
    rw [Option.map_eq_some_iff] at h
    obtain ⟨cs, hc, rfl⟩ := h
    obtain ⟨c, h1, h2⟩ := built_rep (hp := hp) (imm := imm) (β := β) (H := H) (parts' := (parts.map fun (i, x) => (i, a.eval x)).toList) (by simp) (fun i p p' hp1 hp2 => by
      rw [List.getElem?_map, Option.map_eq_some_iff] at hp1
      obtain ⟨q, hq, rfl⟩ := hp1
      rw [Array.toList_map, List.getElem?_map, hq] at hp2
      cases hp2
      exact ⟨rfl, ev q.2⟩) hc
    exact ⟨.agg c, value_run (run_build W T _ c h1), .agg cs c h2.1 fun i x y hx hy => (h2.2 i x y hx hy).2⟩
  · rename_i x e
    rw [e]
    have hx := ev x
    unfold nilCheckN at h
    split at h
    · rename_i f q1 q2 he
      cases h
      rw [he] at hx
      obtain ⟨y, hy⟩ : ∃ y, a.eval x = y := ⟨_, rfl⟩
      rw [hy] at hx
      cases hx with
      | fn _ _ _ ys ys' h1 h2 h3 h4 => exact ⟨_, by simp only [hy, Sem.run_pure], .fn _ _ _ ys ys' h1 h2 h3 h4⟩
    · split at h
      · rename_i hr
        cases h
        obtain ⟨A, hA⟩ := isRef_inv hr hx
        rw [hA] at hx
        exact ⟨_, by simp only [hA, Sem.run_pure], hx⟩
      · cases h
  · rename_i op T x y ty e
    rw [e]
    obtain ⟨v, h1, h2⟩ := binN_run (P := P) (W := W) h (ev x) (ev y)
    exact ⟨v, value_run h1, h2⟩
  · rename_i op ty x e
    rw [e]
    split at h
    · rename_i v hv
      obtain ⟨u, h1, rfl⟩ := map_vN h
      have hx := ev x
      rw [hv] at hx
      have hx := hx.v_inv
      refine ⟨u, value_run ?_, vRep u⟩
      rw [hx]; exact unN_run h1
    · cases h
  · rename_i s d x e
    rw [e]
    obtain ⟨v, h1, h2⟩ := convN_run (P := P) (W := W) h (ev x)
    exact ⟨v, value_run h1, h2⟩
  · rename_i T x e
    rw [e]
    obtain ⟨v, h1, h2⟩ := makeIfaceN_run (P := P) (W := W) h (ev x)
    exact ⟨v, value_run h1, h2⟩
  · rename_i f q1 q2 e
    rw [e]
    cases h
    exact ⟨_, value_run rfl, .fn f _ _ _ _ (by simp) (by simp) (getElem?_map_list ev) (getElem?_map_list ev)⟩
  · rename_i T x lo hi mx e
    rw [e]
    obtain ⟨v, h1, h2⟩ := sliceN_run (P := P) (W := W) h (ev x) (repO_map lo ev) (repO_map hi ev) (repO_map mx ev)
    exact ⟨v, value_run h1, h2⟩
  · rename_i S x f e
    rw [e]
    obtain ⟨v, h1, h2⟩ := fieldAddrN_run (P := P) (W := W) h (ev x)
    exact ⟨v, value_run h1, h2⟩
  · rename_i S x f e
    rw [e]
    obtain ⟨v, h1, h2⟩ := fieldN_run (P := P) (W := W) h (ev x)
    exact ⟨v, value_run h1, h2⟩
  · rename_i T x ix e
    rw [e]
    obtain ⟨v, h1, h2⟩ := indexAddrN_run (P := P) (W := W) h (ev x) (ev ix)
    exact ⟨v, value_run h1, h2⟩
  · rename_i T x ix e
    rw [e]
    obtain ⟨v, h1, h2⟩ := indexN_run (P := P) (W := W) h (ev x) (ev ix)
    exact ⟨v, value_run h1, h2⟩
  · rename_i x i e
    rw [e]
    split at h
    · rename_i xs hxs
      have hx := ev x
      rw [hxs] at hx
      obtain ⟨y, hy0⟩ : ∃ y, a.eval x = y := ⟨_, rfl⟩
      rw [hy0] at hx
      cases hx with
      | tup _ ys hl hr =>
        have hi := (List.getElem?_eq_some_iff.1 h).1
        have hy : ys[i]? = some ys[i] := Array.getElem?_eq_getElem (by omega)
        exact ⟨ys[i]'(by omega), value_run (by simp only [hy0, Instr.extract, hy]; rfl), hr i _ _ h hy⟩
    · cases h
  · rename_i c e
    rw [e]
    split at h
    · rename_i b hb
      obtain ⟨v, h1, h2⟩ := builtinPure_run (P := P) (W := W) (ty := o.type) (cs := c.args.map fun | .const _ => true | _ => false) (as := c.args.map a.eval) h (by simp) (getElem?_map_list ev)
      refine ⟨v, ?_, h2⟩
      simp only [resolve, hb, Sem.run_bind, Sem.run_pure, Result.andThen_ok, invoke]
      exact h1
    · cases h
  · cases h
end
end Go.Proofs.Eng
