/- The engine, part 24: operations that change something, put together; which objects they touch. -/
import Derived.Test.YthcmmpoifgoniaaE23
set_option linter.unusedVariables false
set_option linter.unusedSimpArgs false
namespace Go.Proofs.Eng

mutual
/-- The objects that a value refers to. -/
def refV : NV → List Nat
  | .ptr id _ => [id]
  | .pe id _ _ => [id]
  | .full id => [id]
  | .part id _ _ _ => [id]
  | .map id => [id]
  | .fn _ a b => refL a ++ refL b
  | .agg xs => refL xs
  | .tup xs => refL xs
  | .yld id => [id]
  | _ => []
def refL : List NV → List Nat
  | [] => []
  | x :: xs => refV x ++ refL xs
end

/-- Operations with a value: the value, the objects, what is no more, what was touched. -/
def effV (P : Program) (H : NH) (ev : Operand → NV) (op : Op) : Option (NV × NH × Option Nat × List Nat) :=
  match op with
  | .alloc T => match allocN P H T with
    | some (r, H') => some (r, H', none, [H.length])
    | none => none
  | .box T x => match boxN P H T (ev x) with
    | some (r, H') => some (r, H', none, [H.length])
    | none => none
  | .makeSlice T l c => match makeSliceN P H T (ev l) (ev c) with
    | some (r, H') => some (r, H', none, [H.length])
    | none => none
  | .buildSlice T n parts => match buildSliceN P H T n (parts.toList.map fun q => (q.1, ev q.2)) with
    | some (r, H') => some (r, H', none, H.length :: refL (parts.toList.map fun q => ev q.2))
    | none => none
  | .makeMap T r => match makeMapN P H T (r.map ev) with
    | some (r, H') => some (r, H', none, [H.length])
    | none => none
  | .convert s d x => match strBytesN P H s d (ev x) with
    | some (r, H') => some (r, H', none, [H.length])
    | none => none
  | .call c => match c.callee, c.args.toList with
    | .builtin .append, [d, x] => match appN P H c.argTypes (ev d) (ev x) with
      | some (r, H', A) => some (r, H', A, [H.length])
      | none => none
    | .builtin .delete, [m, k] => match deleteN P H c.argTypes (ev m) (ev k) with
      | some H' => some (.tup [], H', none, refV (ev m))
      | none => none
    | .builtin .clear, [m] => match clearN P H c.argTypes (ev m) with
      | some H' => some (.tup [], H', none, refV (ev m))
      | none => none
    | .builtin .unsafeString, [x, k] => match unsafeStrN P H c.argTypes (ev x) (ev k) with
      | some (r, H') => some (r, H', none, refV (ev x))
      | none => none
    | _, _ => none
  | _ => none
/-- Operations without one. -/
def effU (P : Program) (H : NH) (ev : Operand → NV) (op : Op) : Option (NH × List Nat) :=
  match op with
  | .store T a x => match storeN P H T (ev a) (ev x) with
    | some H' => some (H', refV (ev a) ++ refV (ev x))
    | none => none
  | .mapUpdate T m k x => match mapUpdateN P H T (ev m) (ev k) (ev x) with
    | some H' => some (H', refV (ev m))
    | none => none
  | .insert T m k x => match mapUpdateN P H T (ev m) (ev k) (ev x) with
    | some H' => some (H', refV (ev m))
    | none => none
  | _ => none

section
variable {β : Beta} {H : NH} {P : Program} {W : World}

theorem valueR_run {s : Sem Value} {v : Value} {W W' : World} (h : s.run P W = .ok v W') : (do pure (Next.value (← s)) : Sem Next).run P W = .ok (.value v) W' := by
  simp only [Sem.run_bind, h, Result.andThen_ok, Sem.run_pure]
theorem unitR_run {s : Sem Unit} {W W' : World} (h : s.run P W = .ok () W') : (do s; pure Next.skip : Sem Next).run P W = .ok .skip W' := by
  simp only [Sem.run_bind, h, Result.andThen_ok, Sem.run_pure]
theorem map_args {ρ : Operand → Value} {c : Array Operand} {xs : List Operand} (h : c.toList = xs) : c.map ρ = (xs.map ρ).toArray := by
  apply Array.ext'
  rw [Array.toList_map, h]
theorem builtin_call {o : Oper} {c : Call} {b : Builtin} {a : Act} {xs : List Operand} {v : Value} {W' : World} (e : o.op = .call c) (hb : c.callee = .builtin b) (hxs : c.args.toList = xs)
    (h : ∀ cs : Array Bool, (builtin b c.argTypes o.type cs (xs.map a.eval).toArray).run P W = .ok (.value v) W') : (execOp a.eval o).run P W = .ok (.value v) W' := by
  unfold execOp
  rw [e]
  simp only [resolve, hb, Sem.run_bind, Sem.run_pure, Result.andThen_ok, invoke, map_args hxs]
  exact h _

theorem effV_run {G : Nat → NV} {o : Oper} {t : List NV} {a : Act} {r : NV} {H' : NH} {A : Option Nat} {T : List Nat} (hst : St W.heap β H) (hT : RepT W.heap (Imm W.heap β H) β H t a.tmps)
    (hG : RepG W.heap (Imm W.heap β H) β H G) (h : effV P H (evalN G t) o.op = some (r, H', A, T)) :
    ∃ v W' β', (execOp a.eval o).run P W = .ok (.value v) W' ∧ Step β H W β' H' W' (maskA A) ∧ Rep W'.heap (Imm W'.heap β' H') β' H' r v := by
  have ev : ∀ x, (Rep W.heap (Imm W.heap β H) β H) (evalN G t x) (a.eval x) := fun x => hT.eval (ds := a.defers) hG x
  unfold effV at h
  split at h
  · rename_i T e
    split at h
    · rename_i r' H1 h1
      cases h
      obtain ⟨v, W', β', h2, h3, h4⟩ := allocN_run hst h1
      exact ⟨v, W', β', by unfold execOp; rw [e]; exact valueR_run h2, h3, h4⟩
    · cases h
  · rename_i T x e
    split at h
    · rename_i r' H1 h1
      cases h
      obtain ⟨v, W', β', h2, h3, h4⟩ := boxN_run hst h1 (ev x)
      exact ⟨v, W', β', by unfold execOp; rw [e]; exact valueR_run h2, h3, h4⟩
    · cases h
  · rename_i T l c e
    split at h
    · rename_i r' H1 h1
      cases h
      obtain ⟨v, W', β', h2, h3, h4⟩ := makeSliceN_run hst h1 (ev l) (ev c)
      exact ⟨v, W', β', by unfold execOp; rw [e]; exact valueR_run h2, h3, h4⟩
    · cases h
  · rename_i T n parts e
    split at h
    · rename_i r' H1 h1
      cases h
      obtain ⟨v, W', β', h2, h3, h4⟩ := buildSliceN_run (parts' := parts.map fun (i, x) => (i, a.eval x)) hst h1 (by simp) (fun i p p' hp1 hp2 => by
        rw [List.getElem?_map, Option.map_eq_some_iff] at hp1
        obtain ⟨q, hq, rfl⟩ := hp1
        rw [Array.toList_map, List.getElem?_map, hq] at hp2
        cases hp2
        exact ⟨rfl, ev q.2⟩)
      exact ⟨v, W', β', by unfold execOp; rw [e]; exact valueR_run h2, h3, h4⟩
    · cases h
  · rename_i T x e
    split at h
    · rename_i r' H1 h1
      cases h
      obtain ⟨v, W', β', h2, h3, h4⟩ := makeMapN_run hst h1 (repO_map x ev)
      exact ⟨v, W', β', by unfold execOp; rw [e]; exact valueR_run h2, h3, h4⟩
    · cases h
  · rename_i s d x e
    split at h
    · rename_i r' H1 h1
      cases h
      obtain ⟨v, W', β', h2, h3, h4⟩ := strBytesN_run hst h1 (ev x)
      exact ⟨v, W', β', by unfold execOp; rw [e]; exact valueR_run h2, h3, h4⟩
    · cases h
  · rename_i c e
    split at h
    · rename_i d x hb hxs
      split at h
      · rename_i r' H1 A' h1
        cases h
        obtain ⟨v, W', β', h2, h3, h4⟩ := appN_run (ty := o.type) hst h1 (ev d) (ev x)
        exact ⟨v, W', β', builtin_call e hb hxs fun cs => valueR_run h2, h3, h4⟩
      · cases h
    · rename_i m k hb hxs
      split at h
      · rename_i H1 h1
        cases h
        obtain ⟨W', h2, h3⟩ := deleteN_run (ty := o.type) hst h1 (ev m) (ev k)
        exact ⟨_, W', β, builtin_call e hb hxs fun cs => valueR_run h2, h3, .tup [] #[] rfl fun i x y hx => by simp at hx⟩
      · cases h
    · rename_i m hb hxs
      split at h
      · rename_i H1 h1
        cases h
        obtain ⟨W', h2, h3⟩ := clearN_run (ty := o.type) hst h1 (ev m)
        exact ⟨_, W', β, builtin_call e hb hxs fun cs => valueR_run h2, h3, .tup [] #[] rfl fun i x y hx => by simp at hx⟩
      · cases h
    · rename_i x k hb hxs
      split at h
      · rename_i r' H1 h1
        cases h
        obtain ⟨v, W', β', h2, h3, h4⟩ := unsafeStrN_run (ty := o.type) hst h1 (ev x) (ev k)
        exact ⟨v, W', β', builtin_call e hb hxs fun cs => valueR_run h2, h3, h4⟩
      · cases h
    · cases h
  · cases h
theorem effU_run {G : Nat → NV} {o : Oper} {t : List NV} {a : Act} {H' : NH} {T : List Nat} (hst : St W.heap β H) (hT : RepT W.heap (Imm W.heap β H) β H t a.tmps)
    (hG : RepG W.heap (Imm W.heap β H) β H G) (h : effU P H (evalN G t) o.op = some (H', T)) :
    ∃ W', (execOp a.eval o).run P W = .ok .skip W' ∧ Step β H W β H' W' none? := by
  have ev : ∀ x, (Rep W.heap (Imm W.heap β H) β H) (evalN G t x) (a.eval x) := fun x => hT.eval (ds := a.defers) hG x
  unfold effU at h
  split at h
  · rename_i T x y e
    split at h
    · rename_i H1 h1
      cases h
      obtain ⟨W', h2, h3⟩ := storeN_run hst h1 (ev x) (ev y)
      exact ⟨W', by unfold execOp; rw [e]; exact unitR_run h2, h3⟩
    · cases h
  · rename_i T m k x e
    split at h
    · rename_i H1 h1
      cases h
      obtain ⟨W', h2, h3⟩ := mapUpdateN_run hst h1 (ev m) (ev k) (ev x)
      exact ⟨W', by unfold execOp; rw [e]; exact unitR_run h2, h3⟩
    · cases h
  · rename_i T m k x e
    split at h
    · rename_i H1 h1
      cases h
      obtain ⟨W', h2, h3⟩ := mapUpdateN_run hst h1 (ev m) (ev k) (ev x)
      exact ⟨W', by unfold execOp; rw [e]; exact unitR_run h2, h3⟩
    · cases h
  · cases h

/-! What is not touched stays. -/
theorem purV_frame {x : NV} {v : VV} {H' : NH} (h : purV H x = some (v, H')) (id : Nat) (hid : id ∉ refV x) : H'[id]? = H[id]? := by
  unfold purV at h
  split at h
  · cases h; rfl
  · cases h; rfl
  · split at h
    · cases h; rw [List.getElem?_set_ne]; simp [refV] at hid; exact Ne.symm hid
    · cases h
  · split at h
    · cases h; rw [List.getElem?_set_ne]; simp [refV] at hid; exact Ne.symm hid
    · cases h
  · cases h
theorem purL_frame : ∀ (xs : List NV) (H : NH) {vs : List VV} {H' : NH}, purL H xs = some (vs, H') → ∀ id, id ∉ refL xs → H'[id]? = H[id]? := by
  intro xs
  induction xs with
  | nil => intro H vs H' h id hid; simp only [purL] at h; cases h; rfl
  | cons x xs ih =>
    intro H vs H' h id hid
    simp only [purL] at h
    simp only [refL, List.mem_append, not_or] at hid
    split at h
    · rename_i v H1 h1
      split at h
      · rename_i vs' H2 h2
        cases h
        rw [ih H1 h2 id hid.2, purV_frame h1 id hid.1]
      · cases h
    · cases h
theorem mem_refL {id : Nat} : ∀ {xs : List NV}, id ∈ refL xs ↔ ∃ x ∈ xs, id ∈ refV x := by
  intro xs
  induction xs with
  | nil => simp [refL]
  | cons x xs ih => simp [refL, ih]
theorem refL_cells {x : NV} {cs : List NV} (h : cellsN x = some cs) : ∀ id, id ∉ refV x → id ∉ refL cs := by
  intro id hid
  unfold cellsN at h
  split at h
  · split at h
    · cases h; exact hid
    · cases h
  · split at h
    · cases h; simpa [refL] using hid
    · cases h
theorem refL_fill {place : Nat → Option (Nat × Nat)} : ∀ (parts : List (Nat × NV)) (cs r : List NV), fillN place cs parts = some r → ∀ id, id ∉ refL cs → id ∉ refL (parts.map (·.2)) → id ∉ refL r := by
  intro parts
  induction parts with
  | nil => intro cs r h id h1 h2; simp only [fillN] at h; cases h; exact h1
  | cons p parts ih =>
    intro cs r h id h1 h2
    obtain ⟨i, v⟩ := p
    simp only [fillN] at h
    simp only [List.map_cons, refL, List.mem_append, not_or] at h2
    split at h
    · rename_i off size vs hp hv
      split at h
      · refine ih _ _ h id ?_ h2.2
        have h3 := refL_cells hv id h2.1
        rw [mem_refL] at h1 h3 ⊢
        rintro ⟨x, hx, hxr⟩
        unfold splice at hx
        simp only [List.mem_append] at hx
        rcases hx with (hx | hx) | hx
        · exact h1 ⟨x, List.mem_of_mem_take hx, hxr⟩
        · exact h3 ⟨x, hx, hxr⟩
        · exact h1 ⟨x, List.mem_of_mem_drop hx, hxr⟩
      · cases h
    · cases h
theorem refL_zeros (n : Nat) (z : List VV) : ∀ id, id ∉ refL (List.replicate n (z.map NV.p)).flatten := by
  intro id h
  rw [mem_refL] at h
  obtain ⟨x, hx, hr⟩ := h
  simp only [List.mem_flatten, List.mem_replicate] at hx
  obtain ⟨l, ⟨_, rfl⟩, hx⟩ := hx
  simp only [List.mem_map] at hx
  obtain ⟨y, _, rfl⟩ := hx
  simp [refV] at hr
theorem push_frame (o : NO) {id : Nat} (h : id ≠ H.length) : (H ++ [o])[id]? = H[id]? := by
  rcases Nat.lt_or_ge id H.length with h1 | h1
  · rw [List.getElem?_append_left h1]
  · rw [List.getElem?_append_right h1, List.getElem?_eq_none h1, List.getElem?_eq_none]; simp; omega
theorem storeN_frame {T : TypeId} {x y : NV} {H' : NH} (h : storeN P H T x y = some H') (id : Nat) (h1 : id ∉ refV x) (h2 : id ∉ refV y) : H'[id]? = H[id]? := by
  unfold storeN at h
  split at h
  · rename_i cs s hc hs
    split at h
    · split at h
      · split at h
        · split at h
          · cases h; rw [List.getElem?_set_ne]; simp [refV] at h1; exact Ne.symm h1
          · cases h
        · cases h
      · rename_i i j
        simp only [refV, List.mem_singleton] at h1
        split at h
        · rename_i vs H1 hp
          have hf := purL_frame cs H hp id (refL_cells hc id h2)
          split at h
          · split at h
            · cases h; rw [List.getElem?_set_ne (Ne.symm h1), hf]
            · split at h
              · cases h; rw [List.getElem?_set_ne (Ne.symm h1), hf]
              · cases h
          · cases h
        · cases h
      · cases h
    · cases h
  · cases h
theorem mapUpdateN_frame {T : TypeId} {m k x : NV} {H' : NH} (h : mapUpdateN P H T m k x = some H') (id : Nat) (h1 : id ∉ refV m) : H'[id]? = H[id]? := by
  unfold mapUpdateN at h
  split at h
  · simp only [refV, List.mem_singleton] at h1
    split at h
    · split at h
      · split at h
        · cases h; rw [List.getElem?_set_ne (Ne.symm h1)]
        · cases h
      · cases h
    · cases h
  · cases h
theorem deleteN_frame {ts : Array TypeId} {m k : NV} {H' : NH} (h : deleteN P H ts m k = some H') (id : Nat) (h1 : id ∉ refV m) : H'[id]? = H[id]? := by
  unfold deleteN at h
  split at h
  · split at h
    · simp only [refV, List.mem_singleton] at h1
      split at h
      · split at h
        · split at h
          · cases h; rw [List.getElem?_set_ne (Ne.symm h1)]
          · cases h
        · cases h
      · cases h
    · cases h
  · cases h
theorem clearN_frame {ts : Array TypeId} {m : NV} {H' : NH} (h : clearN P H ts m = some H') (id : Nat) (h1 : id ∉ refV m) : H'[id]? = H[id]? := by
  unfold clearN at h
  split at h
  · simp only [refV, List.mem_singleton] at h1
    split at h
    · cases h; rw [List.getElem?_set_ne (Ne.symm h1)]
    · cases h
  · cases h
theorem allocN_frame {T : TypeId} {r : NV} {H' : NH} (h : allocN P H T = some (r, H')) (id : Nat) (h1 : id ≠ H.length) : H'[id]? = H[id]? := by
  unfold allocN at h
  split at h
  · split at h
    · cases h; exact push_frame _ h1
    · cases h
  · cases h
theorem boxN_frame {T : TypeId} {x r : NV} {H' : NH} (h : boxN P H T x = some (r, H')) (id : Nat) (h1 : id ≠ H.length) : H'[id]? = H[id]? := by
  unfold boxN at h
  split at h
  · split at h
    · cases h; exact push_frame _ h1
    · cases h
  · cases h
theorem makeSliceN_frame {T : TypeId} {x y r : NV} {H' : NH} (h : makeSliceN P H T x y = some (r, H')) (id : Nat) (h1 : id ≠ H.length) : H'[id]? = H[id]? := by
  unfold makeSliceN at h
  split at h
  · split at h
    · split at h
      · split at h
        · cases h; exact push_frame _ h1
        · cases h
      · cases h
    · cases h
  · cases h
theorem makeMapN_frame {T : TypeId} {x : Option NV} {r : NV} {H' : NH} (h : makeMapN P H T x = some (r, H')) (id : Nat) (h1 : id ≠ H.length) : H'[id]? = H[id]? := by
  unfold makeMapN at h
  split at h
  · cases h; exact push_frame _ h1
  · split at h
    · cases h; exact push_frame _ h1
    · cases h
  · cases h
theorem strBytesN_frame {s d : TypeId} {x r : NV} {H' : NH} (h : strBytesN P H s d x = some (r, H')) (id : Nat) (h1 : id ≠ H.length) : H'[id]? = H[id]? := by
  unfold strBytesN at h
  split at h
  · split at h
    · cases h; exact push_frame _ h1
    · cases h
  · cases h
theorem buildSliceN_frame {T : TypeId} {len : Nat} {parts : List (Nat × NV)} {r : NV} {H' : NH} (h : buildSliceN P H T len parts = some (r, H')) (id : Nat) (h1 : id ≠ H.length) (h2 : id ∉ refL (parts.map (·.2))) :
    H'[id]? = H[id]? := by
  unfold buildSliceN at h
  split at h
  · split at h
    · split at h
      · split at h
        · rename_i cells hc
          split at h
          · split at h
            · rename_i vs H1 hp
              cases h
              rw [push_frame _ (by rw [purL_len _ _ _ _ hp]; exact h1)]
              exact purL_frame _ _ hp id (refL_fill _ _ _ hc id (refL_zeros _ _ _) h2)
            · cases h
          · cases h; exact push_frame _ h1
        · cases h
      · cases h
    · cases h
  · cases h
theorem appendN_frame {ts : Array TypeId} {d x r : NV} {H' : NH} (h : appendN P H ts d x = some (r, H', none)) (id : Nat) (h1 : id ≠ H.length) : H'[id]? = H[id]? := by
  unfold appendN at h
  split at h
  · split at h
    · split at h
      · split at h
        · split at h
          · split at h
            · split at h
              · cases h; exact push_frame _ h1
              · cases h
            · split at h
              · split at h
                · split at h
                  · split at h
                    · cases h
                    · cases h
                  · cases h
                · cases h
              · cases h
          · cases h
        · cases h
      · cases h
    · cases h
  · cases h
theorem unsafeStrN_frame {ts : Array TypeId} {x k r : NV} {H' : NH} (h : unsafeStrN P H ts x k = some (r, H')) (id : Nat) (hid : id ∉ refV x) : H'[id]? = H[id]? := by
  unfold unsafeStrN at h
  split at h
  · split at h
    · split at h
      · cases h; rfl
      · cases h
    · cases h
  · split at h
    · split at h
      · split at h
        · cases h
          rw [List.getElem?_set_ne]
          intro e; exact hid (by simp [refV, e])
        · cases h
      · cases h
    · cases h
  · cases h
theorem appN_frame {ts : Array TypeId} {d x r : NV} {H' : NH} (h : appN P H ts d x = some (r, H', none)) (id : Nat) (h1 : id ≠ H.length) : H'[id]? = H[id]? := by
  unfold appN at h
  split at h
  · rename_i h0
    cases h
    unfold appZ at h0
    split at h0
    · split at h0
      · split at h0
        · split at h0
          · split at h0
            · cases h0; rfl
            · cases h0
          · cases h0
        · cases h0
      · cases h0
    · cases h0
  split at h
  · rename_i h0; cases h; exact appendN_frame h0 id h1
  · unfold appendR at h
    split at h
    · split at h
      · split at h
        · split at h
          · split at h
            · split at h
              · cases h; exact push_frame _ h1
              · cases h
            · split at h
              · split at h
                · split at h
                  · split at h
                    · cases h
                    · cases h
                  · cases h
                · cases h
              · cases h
          · cases h
        · cases h
      · cases h
    · cases h
theorem effV_frame {ev : Operand → NV} {op : Op} {r : NV} {H' : NH} {T : List Nat} (h : effV P H ev op = some (r, H', none, T)) (id : Nat) (hid : id ∉ T) : H'[id]? = H[id]? := by
  unfold effV at h
  split at h
  · split at h
    · rename_i h1; cases h; exact allocN_frame h1 id (by simpa using hid)
    · cases h
  · split at h
    · rename_i h1; cases h; exact boxN_frame h1 id (by simpa using hid)
    · cases h
  · split at h
    · rename_i h1; cases h; exact makeSliceN_frame h1 id (by simpa using hid)
    · cases h
  · split at h
    · rename_i h1
      cases h
      simp only [List.mem_cons, not_or] at hid
      exact buildSliceN_frame h1 id hid.1 (by simpa [List.map_map, Function.comp_def] using hid.2)
    · cases h
  · split at h
    · rename_i h1; cases h; exact makeMapN_frame h1 id (by simpa using hid)
    · cases h
  · split at h
    · rename_i h1; cases h; exact strBytesN_frame h1 id (by simpa using hid)
    · cases h
  · split at h
    · split at h
      · rename_i h1; cases h; exact appN_frame h1 id (by simpa using hid)
      · cases h
    · split at h
      · rename_i h1; cases h; exact deleteN_frame h1 id hid
      · cases h
    · split at h
      · rename_i h1; cases h; exact clearN_frame h1 id hid
      · cases h
    · split at h
      · rename_i h1; cases h; exact unsafeStrN_frame h1 id hid
      · cases h
    · cases h
  · cases h
theorem effU_frame {ev : Operand → NV} {op : Op} {H' : NH} {T : List Nat} (h : effU P H ev op = some (H', T)) (id : Nat) (hid : id ∉ T) : H'[id]? = H[id]? := by
  unfold effU at h
  split at h
  · split at h
    · rename_i h1; cases h
      simp only [List.mem_append, not_or] at hid
      exact storeN_frame h1 id hid.1 hid.2
    · cases h
  · split at h
    · rename_i h1; cases h; exact mapUpdateN_frame h1 id hid
    · cases h
  · split at h
    · rename_i h1; cases h; exact mapUpdateN_frame h1 id hid
    · cases h
  · cases h
end
end Go.Proofs.Eng
