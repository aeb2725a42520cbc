/- The engine, part 31: what a function gives; calls of functions. -/
import Derived.Test.YthcmmpoifgoniaaE30
set_option linter.unusedVariables false
set_option linter.unusedSimpArgs false
namespace Go.Proofs.Eng

def resN (P : Program) (s : FS) : ResultVar → Option NV
  | .tmp t => some (s.t.getD t undefN)
  | .cell a T => loadN P s.H T (s.t.getD a .junk)
def resultsL (P : Program) (s : FS) : List ResultVar → Option (List NV)
  | [] => some []
  | r :: rs => match resN P s r with
    | some v => match resultsL P s rs with
      | some vs => some (v :: vs)
      | none => none
    | none => none
def resultsN (P : Program) (s : FS) (rs : List ResultVar) : Option NV :=
  match resultsL P s rs with
  | some [v] => some v
  | some vs => some (.tup vs)
  | none => none

/-- Objects from n on. -/
def fromN (n : Nat) : Nat → Bool := fun i => decide (n ≤ i)
def refsBelow (n : Nat) (v : NV) : Bool := (refV v).all fun i => decide (i < n)
def refsBelowO (n : Nat) : NO → Bool
  | .row _ _ cells => (refL cells).all fun i => decide (i < n)
  | .loop t _ _ _ _ _ => (refL t).all fun i => decide (i < n)
  | _ => true
/-- Only the first n objects, if nothing there refers to others. -/
def cutN (n : Nat) (v : NV) (H : NH) : NH :=
  let H' := H.take n
  if refsBelow n v && H'.all (refsBelowO n) then H' else H

/-- What a run goes by. -/
structure Cfg where
  P : Program
  G : Nat → NV
  F : FuncId → Option Func
  hook : Caller
  fuel : Nat
  cut : FuncId → Bool

def setL : List NV → List (Nat × NV) → List NV
  | t, [] => t
  | t, (i, v) :: l => setL (t.set i v) l
/-- A round of a loop over a function. -/
noncomputable def roundN (call : Caller) (P : Program) (G : Nat → NV) (fuel : Nat) (id : Nat) (xs : List NV) (H : NH) : Option COut :=
  match H[id]? with
  | some (.loop t ps assign body .ready pend) =>
    if xs.length = ps.size then
      match execC call P G fuel true assign ⟨setL t (ps.toList.zip xs), H, [], []⟩ with
      | some (.normal, s1) =>
        if s1.A.contains id then none
        else match s1.H[id]? with
          | some (.loop t1 ps1 as1 b1 .ready pend1) =>
            match execC call P G fuel true body ⟨s1.t, s1.H.set id (.loop t1 ps1 as1 b1 .busy pend1), s1.A, unionT [id] s1.T⟩ with
            | some (x, s2) =>
              if s2.A.contains id then none
              else match x.jump with
                | some j => match s2.H[id]? with
                  | some (.loop t2 ps2 as2 b2 st2 pend2) => some ⟨false, bN j.isNone, s2.H.set id (.loop t2 ps2 as2 b2 (if j.isNone then .ready else .done) j), s2.A, s2.T⟩
                  | _ => none
                | none => none
            | none => none
          | _ => none
      | _ => none
    else none
  | _ => none
noncomputable def callN (C : Cfg) : Nat → Caller
  | 0 => fun _ _ _ => none
  | d + 1 => fun g xs H => match g with
    | .fn f => match C.hook (.fn f) xs H with
      | some o => some o
      | none => match C.F f with
        | some fn => match fn.body with
          | some c => match execC (callN C d) C.P C.G C.fuel false c ⟨xs ++ List.replicate (fn.ntmps - xs.length) undefN, H, [], []⟩ with
            | some (.exit _, _) => none
            | some (.pan v, s) => some ⟨true, v, s.H, s.A, s.T⟩
            | some (_, s) => match resultsN C.P s fn.results.toList with
              | some v => some ⟨false, v, if C.cut f then cutN H.length v s.H else s.H, s.A, s.T⟩
              | none => none
            | none => none
          | none => none
        | none => none
    | .yld id => roundN (callN C d) C.P C.G C.fuel id xs H

section
variable {β : Beta} {H : NH} {P : Program} {W : World}

/-! The last objects may be forgotten. -/
mutual
theorem cleanV_below {n : Nat} : ∀ {v : NV}, (∀ i ∈ refV v, i < n) → cleanV (fromN n) v = v
  | .p _, _ => rfl
  | .ptr id _, h => by simp [cleanV, fromN, h id (by simp [refV])]
  | .pe id _ _, h => by simp [cleanV, fromN, h id (by simp [refV])]
  | .full id, h => by simp [cleanV, fromN, h id (by simp [refV])]
  | .part id _ _ _, h => by simp [cleanV, fromN, h id (by simp [refV])]
  | .xsl .., _ => rfl
  | .vp _, _ => rfl
  | .map id, h => by simp [cleanV, fromN, h id (by simp [refV])]
  | .fn _ a b, h => by
    simp only [refV, List.mem_append] at h
    simp only [cleanV, cleanL_below (fun i hi => h i (.inl hi)), cleanL_below (fun i hi => h i (.inr hi))]
  | .agg xs, h => by simp only [refV] at h; simp only [cleanV, cleanL_below h]
  | .tup xs, h => by simp only [refV] at h; simp only [cleanV, cleanL_below h]
  | .yld id, h => by simp [cleanV, fromN, h id (by simp [refV])]
  | .junk, _ => rfl
theorem cleanL_below {n : Nat} : ∀ {xs : List NV}, (∀ i ∈ refL xs, i < n) → cleanL (fromN n) xs = xs
  | [], _ => rfl
  | x :: xs, h => by
    simp only [refL, List.mem_append] at h
    simp only [cleanL, cleanV_below (fun i hi => h i (.inl hi)), cleanL_below (fun i hi => h i (.inr hi))]
end
theorem cleanO_below {n : Nat} {o : NO} (h : refsBelowO n o = true) : cleanO (fromN n) o = o := by
  cases o with
  | row T sz cells =>
    simp only [refsBelowO, List.all_eq_true, decide_eq_true_eq] at h
    simp only [cleanO, cleanL_below h]
  | loop t ps assign body st pend =>
    simp only [refsBelowO, List.all_eq_true, decide_eq_true_eq] at h
    simp only [cleanO, cleanL_below h]
  | _ => rfl
theorem take_imm {n : Nat} {b : Nat} (h : Imm W.heap β H b) : Imm W.heap β (H.take n) b := by
  refine ⟨h.1, fun ⟨id, o, l, h1, h2, h3, h4⟩ => h.2 ⟨id, o, l, ?_, h2, h3, h4⟩⟩
  rw [List.getElem?_take] at h1
  split at h1
  · exact h1
  · cases h1
theorem take_good {n : Nat} : Good W.heap β H W.heap β (H.take n) (fromN n) := by
  refine ⟨⟨fun b hb => ⟨take_imm hb, rfl⟩, Nat.le_refl _⟩, fun id hid hA => ?_, fun id o l h1 h2 h3 => ?_⟩
  case refine_2 =>
    rw [List.getElem?_take] at h1
    split at h1
    · exact .inl ⟨o, h1, h2, h3⟩
    · cases h1
  have hlt : id < n := by simpa [fromN] using hA
  refine ⟨by simp; omega, .inl rfl, ?_⟩
  rw [List.getElem?_take, if_pos hlt]
  exact Shape.refl _
theorem take_st {n : Nat} (hst : St W.heap β H) (h : (H.take n).all (refsBelowO n) = true) : St W.heap β (H.take n) := by
  have hget : ∀ id o, (H.take n)[id]? = some o → H[id]? = some o := fun id o h1 => by
    rw [List.getElem?_take] at h1
    split at h1
    · exact h1
    · cases h1
  constructor
  · intro id o ho
    have hb : refsBelowO n o = true := (List.all_eq_true.1 h) o (List.mem_of_getElem? ho)
    have := ObjRep.mono (A := fromN n) (hm := fun b hb => ⟨take_imm (n := n) hb, rfl⟩) (hk := (take_good (W := W) (n := n)).keep) (hb := rfl) (hc := fun _ _ _ => rfl) (hst.obj id o (hget id o ho))
    rw [cleanO_below hb] at this
    exact this
  · intro id id' o o' h1 h2
    exact hst.apart id id' o o' (hget _ _ h1) (hget _ _ h2)
theorem cutN_run {β0 : Beta} {H0 : NH} {W0 : World} {A : Nat → Bool} {v : NV} {y : Value} (hs : Step β0 H0 W0 β H W A) (hr : (Rep W.heap (Imm W.heap β H) β H) v y) :
    Step β0 H0 W0 β (cutN H0.length v H) W A ∧ Rep W.heap (Imm W.heap β (cutN H0.length v H)) β (cutN H0.length v H) v y := by
  unfold cutN
  simp only
  split
  · rename_i h
    rw [Bool.and_eq_true] at h
    obtain ⟨h1, h2⟩ := h
    have g := hs.good.trans (take_good (n := H0.length))
    refine ⟨⟨take_st hs.st h2, ⟨g.ext, fun id hid hA => g.keep id hid (by simp [hA, fromN, hid]), g.born⟩, hs.same⟩, ?_⟩
    have := (take_good (n := H0.length)).rep hr
    rw [cleanV_below (by simpa [refsBelow] using h1)] at this
    exact this
  · exact ⟨hs, hr⟩
theorem cutN_frame {n : Nat} {v : NV} {id : Nat} (h : id < n) : (cutN n v H)[id]? = H[id]? := by
  unfold cutN
  simp only
  split
  · rw [List.getElem?_take, if_pos h]
  · rfl

/-! Results. -/
theorem loadN_ptr {T : TypeId} {x r : NV} {a : Value} (h : loadN P H T x = some r) (hx : (Rep W.heap (Imm W.heap β H) β H) x a) : ∃ A, a = .pointer (some A) := by
  unfold loadN at h
  split at h
  · split at h
    · cases hx with | ptr => exact ⟨_, rfl⟩
    · cases hx with | pe => exact ⟨_, rfl⟩
    · cases hx with | vp => exact ⟨_, rfl⟩
    · cases h
  · cases h
theorem resultsL_run {s : FS} {tmps : Array Value} (hst : St W.heap β s.H) (hT : RepT W.heap (Imm W.heap β s.H) β s.H s.t tmps) : ∀ (rs : List ResultVar) (vs : List NV), resultsL P s rs = some vs →
    ∃ ys : List Value, (rs.mapM (fun | .tmp t => pure (tmps.getD t undef) | .cell a t => do loadVar t (← asAddr (tmps.getD a undef)) : ResultVar → Sem Value)).run P W = .ok ys W ∧ RepL W.heap (Imm W.heap β s.H) β s.H vs ys := by
  have getR : ∀ (t : Nat) (dn : NV), Rep W.heap (Imm W.heap β s.H) β s.H dn undef → Rep W.heap (Imm W.heap β s.H) β s.H (s.t.getD t dn) (tmps.getD t undef) := by
    intro t dn hd
    rw [List.getD_eq_getElem?_getD, Array.getD_eq_getD_getElem?]
    cases ht : s.t[t]? with
    | none =>
      have : tmps[t]? = none := by
        rw [Array.getElem?_eq_none]
        rw [hT.size]
        exact List.getElem?_eq_none_iff.1 ht
      rw [this]; exact hd
    | some x =>
      have hlt := (List.getElem?_eq_some_iff.1 ht).1
      have hy : tmps[t]? = some (tmps[t]'(by rw [hT.size]; exact hlt)) := Array.getElem?_eq_getElem _
      rw [hy]
      exact hT.at' t x _ ht hy
  intro rs
  induction rs with
  | nil => intro vs h; simp only [resultsL] at h; cases h; exact ⟨[], rfl, rfl, fun i x y hx => by simp at hx⟩
  | cons r rs ih =>
    intro vs h
    simp only [resultsL] at h
    split at h
    · rename_i v hv
      split at h
      · rename_i vs' hvs
        cases h
        obtain ⟨ys, k1, k2, k3⟩ := ih vs' hvs
        have one : ∃ y, (match r with | .tmp t => pure (tmps.getD t undef) | .cell a t => do loadVar t (← asAddr (tmps.getD a undef)) : Sem Value).run P W = .ok y W ∧ Rep W.heap (Imm W.heap β s.H) β s.H v y := by
          cases r with
          | tmp t =>
            simp only [resN, Option.some.injEq] at hv
            subst hv
            exact ⟨_, rfl, getR t _ (.p _ _ (.v _))⟩
          | cell a T =>
            simp only [resN] at hv
            have hx := getR a .junk (.junk _)
            obtain ⟨A, hA⟩ := loadN_ptr (P := P) hv hx
            obtain ⟨y, q1, q2⟩ := loadN_run hst hv hx
            refine ⟨y, ?_, q2⟩
            rw [hA] at q1
            simp only [hA, asAddr, Sem.run_bind, Sem.run_pure, Result.andThen_ok]
            simpa only [Instr.loadAt, Instr.sureAddr, Sem.run_bind, Sem.run_pure, Result.andThen_ok] using q1
        obtain ⟨y, q1, q2⟩ := one
        refine ⟨y :: ys, ?_, by simp [k2], fun i x z hx hz => ?_⟩
        · simp only [List.mapM_cons, Sem.run_bind, q1, Result.andThen_ok, k1, Sem.run_pure]
        · cases i with
          | zero => simp only [List.getElem?_cons_zero, Option.some.injEq] at hx hz; subst hx; subst hz; exact q2
          | succ i => exact k3 i x z (by simpa using hx) (by simpa using hz)
      · cases h
    · cases h
theorem resultsN_run {s : FS} {fn : Func} {tmps : Array Value} {v : NV} (hst : St W.heap β s.H) (hT : RepT W.heap (Imm W.heap β s.H) β s.H s.t tmps) (h : resultsN P s fn.results.toList = some v) :
    ∃ y, (results fn tmps).run P W = .ok y W ∧ Rep W.heap (Imm W.heap β s.H) β s.H v y := by
  unfold resultsN at h
  have main : ∀ vs, resultsL P s fn.results.toList = some vs → ∃ ys : List Value, RepL W.heap (Imm W.heap β s.H) β s.H vs ys ∧ (results fn tmps).run P W = .ok (if h : ys.toArray.size = 1 then ys.toArray[0] else .tuple ys.toArray) W := by
    intro vs hvs
    obtain ⟨ys, k1, k2⟩ := resultsL_run (P := P) hst hT _ vs hvs
    refine ⟨ys, k2, ?_⟩
    unfold results
    rw [← Array.toArray_toList (xs := fn.results)]
    rw [List.mapM_toArray]
    have e : ∀ (x : Sem (List Value)), (List.toArray <$> x) = (x >>= fun l => pure l.toArray) := fun _ => rfl
    rw [e]
    simp only [Sem.run_bind, Sem.run_pure]
    exact congrArg (fun r : Result (List Value) => (r.andThen fun a w' => Result.ok a.toArray w').andThen fun a w' => Result.ok (if h : a.size = 1 then a[0] else Value.tuple a) w') k1
  split at h
  · rename_i x hx
    cases h
    obtain ⟨ys, k1, k2⟩ := main _ hx
    cases ys with
    | nil => exact absurd k1.1 (by simp)
    | cons y ys =>
      cases ys with
      | nil => exact ⟨y, by simpa using k2, k1.2 0 v y rfl rfl⟩
      | cons z zs => exact absurd k1.1 (by simp)
  · rename_i vs hn hx
    cases h
    obtain ⟨ys, k1, k2⟩ := main _ hx
    have hne : ¬ ys.toArray.size = 1 := by
      intro h1
      rw [List.size_toArray, k1.1] at h1
      cases vs with
      | nil => simp at h1
      | cons v vs =>
        cases vs with
        | nil => exact hn v rfl
        | cons w ws => simp at h1
    rw [dif_neg hne] at k2
    exact ⟨_, k2, .tup vs _ (by simpa using k1.1) fun i x y hx hy => k1.2 i x y hx (by simpa using hy)⟩
  · cases h

/-! What is not touched stays. -/
def FR (s s' : FS) : Prop := s'.A = [] → s.A = [] ∧ ∀ id, id ∉ s'.T → id ∉ s.T ∧ (id < s.H.length → s'.H[id]? = s.H[id]?)
theorem FR.refl (s : FS) : FR s s := fun h => ⟨h, fun id hid => ⟨hid, fun _ => rfl⟩⟩
theorem FR.trans {s s' s'' : FS} (h : FR s s') (h' : FR s' s'') : FR s s'' := by
  intro hA
  obtain ⟨a1, k1⟩ := h' hA
  obtain ⟨a0, k0⟩ := h a1
  refine ⟨a0, fun id hid => ?_⟩
  obtain ⟨b1, c1⟩ := k1 id hid
  obtain ⟨b0, c0⟩ := k0 id b1
  refine ⟨b0, fun hlt => ?_⟩
  have h0 := c0 hlt
  have hlt' : id < s'.H.length := by
    rw [List.getElem?_eq_getElem hlt] at h0
    exact (List.getElem?_eq_some_iff.1 h0).1
  rw [c1 hlt', h0]
variable {G : Nat → NV} {call : Caller}
theorem FR.mk {s : FS} {A T : List Nat} {t : List NV} {H' : NH} (h : A = [] → ∀ id, id ∉ T → id < s.H.length → H'[id]? = s.H[id]?) : FR s ⟨t, H', unionT A s.A, unionT T s.T⟩ := by
  intro hA
  obtain ⟨h1, h2⟩ := unionT_nil hA
  refine ⟨h2, fun id hid => ?_⟩
  rw [mem_unionT, not_or] at hid
  exact ⟨hid.2, fun hlt => h h1 id hid.1 hlt⟩
theorem stepO_frame (hC : CallOK P G call) {ops : Array Oper} {o : Oper} {s s' : FS} {e : En} (h : stepO call P G ops o s = some (s', e)) : FR s s' := by
  obtain ⟨v, H', hc, rfl⟩ := stepO_inv h
  exact FR.mk fun hA id hid hlt => coreO_frame hC hc hA id hid hlt
theorem stepP_fr (hC : CallOK P G call) {ops : Array Oper} {o : Oper} {s s' : FS} {v : NV} (h : stepP call G ops o s = some (v, s')) : FR s s' := by
  obtain ⟨A, T, h1, h2, h3⟩ := stepP_frame hC h
  obtain ⟨t, H', A', T'⟩ := s'
  simp only at h1 h2
  subst h1; subst h2
  exact FR.mk h3
theorem runL_frame (hC : CallOK P G call) {ops : Array Oper} : ∀ (rows : List Row) (s s' : FS) (es : List Ent), runL call P G ops rows s = some (s', es) → FR s s' := by
  intro rows
  induction rows with
  | nil => intro s s' es h; simp only [runL] at h; cases h; exact FR.refl _
  | cons x rows ih =>
    intro s s' es h
    obtain ⟨i, o⟩ := x
    obtain ⟨s1, e, es1, h1, h2, _⟩ := runL_cons h
    exact (stepO_frame hC h1).trans (ih s1 s' es1 h2)
theorem runP_frame (hC : CallOK P G call) {ops : Array Oper} : ∀ (rows : List Row) (s s' : FS) (x : Option NV), runP call P G ops rows s = some (x, s') → FR s s' := by
  intro rows
  induction rows with
  | nil => intro s s' x h; simp only [runP] at h; cases h; exact FR.refl _
  | cons x rows ih =>
    intro s s' v h
    obtain ⟨i, o⟩ := x
    simp only [runP] at h
    split at h
    · rename_i s1 e h1
      exact (stepO_frame hC h1).trans (ih s1 s' v h)
    · split at h
      · rename_i v' s1 h1
        cases h
        exact stepP_fr hC h1
      · cases h
theorem region_frame (hC : CallOK P G call) {ops : Array Oper} {draw : Bool} {s s' : FS} {x : Option NV} (h : regionN call P G ops draw s = some (x, s')) : FR s s' := by
  unfold regionN at h
  split at h
  · split at h
    · rename_i s1 es hr
      have := runL_frame hC _ _ _ _ hr
      split at h
      · cases h; exact this
      · cases h
    · cases h
  · exact runP_frame hC _ _ _ _ h
theorem after_frame {o : COut} {s f : FS} {x : NX} {lr : NO} (h : afterN o s.H.length s = some (x, f)) (hfr : o.A = [] → ∀ id, id ∉ o.T → id < (s.H ++ [lr]).length → o.H[id]? = (s.H ++ [lr])[id]?) : FR s f := by
  have key : ∀ t2 ps2 as2 b2 p, FR s ⟨cleanT o.A s.t, o.H.set s.H.length (.loop t2 ps2 as2 b2 .exhausted p), unionT o.A s.A, unionT o.T s.T⟩ := fun t2 ps2 as2 b2 p =>
    FR.mk fun hA id h1 h2 => by rw [List.getElem?_set_ne (by omega), hfr hA id h1 (by simp; omega), List.getElem?_append_left h2]
  unfold afterN at h
  split at h
  · cases h
  split at h
  · cases h
  split at h
  · split at h
    · cases h
    split at h
    · cases h; exact key _ _ _ _ _
    · cases h; exact key _ _ _ _ _
    · cases h; exact key _ _ _ _ _
    · cases h
  · cases h
theorem exec_frame (hC : CallOK P G call) {fuel : Nat} {rd : Bool} : ∀ (c : Code) (s f : FS) (x : NX), execC call P G fuel rd c s = some (x, f) → FR s f := by
  intro c
  induction c with
  | skip => intro s f x h; simp only [execC] at h; cases h; exact FR.refl _
  | region id ops draw =>
    intro s f x h
    simp only [execC] at h
    split at h
    · rename_i s' hr; cases h; exact region_frame hC hr
    · rename_i v s' hr; cases h; exact region_frame hC hr
    · cases h
  | seq c1 c2 ih1 ih2 =>
    intro s f x h
    simp only [execC] at h
    split at h
    · rename_i s1 h1; exact (ih1 s s1 _ h1).trans (ih2 s1 f x h)
    · exact ih1 s f x h
  | cond k c1 c2 ih1 ih2 =>
    intro s f x h
    simp only [execC] at h
    split at h
    · exact ih1 s f x h
    · exact ih2 s f x h
    · cases h
  | block id c ih =>
    intro s f x h
    simp only [execC] at h
    split at h
    · rename_i i s1 h1
      split at h
      · cases h; exact ih s _ _ h1
      · cases h; exact ih s _ _ h1
    · exact ih s f x h
  | loop c ih =>
    intro s f x h
    simp only [execC] at h
    have key : ∀ (n : Nat) (s : FS), iterN (fun s => execC call P G fuel rd c s) n s = some (x, f) → FR s f := by
      intro n
      induction n with
      | zero => intro s h; simp only [iterN] at h; cases h
      | succ n ihn =>
        intro s h
        simp only [iterN] at h
        split at h
        · rename_i s1 h1; exact (ih s s1 _ h1).trans (ihn s1 h)
        · exact ih s f x h
    exact key fuel s h
  | exit id => intro s f x h; simp only [execC] at h; cases h; exact FR.refl _
  | scope c ih => intro s f x h; simp only [execC] at h; exact ih s f x h
  | label l => intro s f x h; simp only [execC] at h; cases h; exact FR.refl _
  | ret => intro s f x h; simp only [execC] at h; cases h; exact FR.refl _
  | rangeFunc k ps c1 c2 ih1 ih2 =>
    intro s f x h
    simp only [execC] at h
    split at h
    · cases h
    split at h
    · split at h
      · rename_i o ho
        exact after_frame h fun hA id hT hid => hC.frame _ _ _ _ ho hA id hT hid
      · cases h
    · cases h
  | goto l => intro s f x h; simp only [execC] at h; cases h
  | refuse w => intro s f x h; simp only [execC] at h; cases h

/-! A round. -/
theorem setL_rep {hp : Heap} {imm : Nat → Prop} : ∀ (ps : List Tmp) (xs : List NV) (ys : List Value) (t : List NV) (tmps : Array Value), RepT hp imm β H t tmps → RepL hp imm β H xs ys →
    RepT hp imm β H (setL t (ps.zip xs)) ((ps.zip ys).foldl (fun tmps (t, a) => tmps.setIfInBounds t a) tmps) := by
  intro ps
  induction ps with
  | nil => intro xs ys t tmps h _; simpa [setL] using h
  | cons p ps ih =>
    intro xs ys t tmps h hr
    cases xs with
    | nil =>
      have : ys = [] := List.eq_nil_of_length_eq_zero (by simpa using hr.1)
      subst this
      simpa [setL] using h
    | cons x xs =>
      cases ys with
      | nil => exact absurd hr.1 (by simp)
      | cons y ys =>
        simp only [List.zip_cons_cons, setL, List.foldl_cons]
        exact ih xs ys _ _ (h.put p (hr.2 0 x y rfl rfl)) ⟨by simpa using hr.1, fun i a b ha hb => hr.2 (i + 1) a b (by simpa using ha) (by simpa using hb)⟩
theorem set_loop {l : Loc} {id : Nat} {W : World} {β : Beta} {H : NH} (hst : St W.heap β H) {t : List NV} {ps : Array Tmp} {as' body : Code} {st : LoopState} {pend : Option Code} (ho : H[id]? = some (.loop t ps as' body st pend)) (hl : β id = some l) :
    ∃ r : Loop, W.heap[l.b]? = some (.loop r) ∧ r.state = st ∧ r.params = ps ∧ r.assign = as' ∧ r.body = body ∧ RepT W.heap (Imm W.heap β H) β H t r.tmps ∧
      ∀ st' pend', Step β H W β (H.set id (.loop t ps as' body st' pend')) (W.putObj l.b (.loop { r with state := st', pending := pend' })) none? := by
  obtain ⟨fn, tmps, d, g1, g2, g3⟩ := (hst.obj _ _ ho).at hl
  refine ⟨_, g1, rfl, rfl, rfl, rfl, ⟨g2, g3⟩, fun st' pend' => ?_⟩
  have := Step.put (obj := .loop ⟨st', pend', fn, tmps, ps, as', body, d⟩) hst ho hl rfl rfl trivial (o' := .loop t ps as' body st' pend') fun H' e g => ?_
  · exact this
  · exact ⟨fn, tmps, d, by rw [Array.getElem?_setIfInBounds_self_of_lt (Array.getElem?_eq_some_iff.1 g1).1], g2, fun k x y hx hy => g.rep0 (g3 k x y hx hy)⟩

/-- The run's parts are right. -/
structure Cfg.OK (C : Cfg) : Prop where
  glob : GOK C.G
  mixed : C.P.follows .mixedOrders = true
  funcs : ∀ f fn, C.F f = some fn → C.P.funcs[f]? = some fn ∧ (fn.name == "runtime.NumGoroutine") = false
  hook : CallOK C.P C.G C.hook

theorem At.touch {G : Nat → NV} {β0 β β' : Beta} {H0 H' : NH} {W0 W W' : World} {s : FS} {a : Act} (hGG : GOK G) (h : At G β0 H0 W0 s β a W) (hs : Step β s.H W β' H' W' none?) (id : Nat)
    (hf : ∀ i, i ≠ id → i < s.H.length → H'[i]? = s.H[i]?) : At G β0 H0 W0 ⟨s.t, H', s.A, unionT [id] s.T⟩ β' a W' := by
  have := h.thrown hGG (A := []) (T := [id]) (H' := H') (by rw [maskL_nil]; exact hs) fun _ i h1 h2 => hf i (by simpa using h1) h2
  simpa [cleanT, unionT] using this

theorem round_ok {C : Cfg} (hC : C.OK) {call : Caller} (hcall : CallOK C.P C.G call) {id : Nat} {xs : List NV} {H : NH} {o : COut} (h : roundN call C.P C.G C.fuel id xs H = some o) {W : World} {β : Beta} {ys : Array Value} {l : Loc}
    (hst : St W.heap β H) (hG : RepG W.heap (Imm W.heap β H) β H C.G) (hr : RepL W.heap (Imm W.heap β H) β H xs ys.toList) (hl : β id = some l) :
    GivesY C.P l.b ys W o.p fun v W' => ∃ β', Step β H W β' o.H W' (maskL o.A) ∧ Rep W'.heap (Imm W'.heap β' o.H) β' o.H o.v v := by
  unfold roundN at h
  split at h
  · rename_i t ps assign body pend hid
    split at h
    · rename_i hlen
      split at h
      · rename_i s1 hex
        split at h
        · cases h
        rename_i hA1
        split at h
        · rename_i t1 ps1 as1 b1 pend1 hid1
          split at h
          · rename_i x s2 hex2
            split at h
            · cases h
            rename_i hA2
            split at h
            · rename_i j hj
              split at h
              · rename_i t2 ps2 as2 b2 st2 pend2 hid2
                cases h
                obtain ⟨r, g1, g2, g3, g4, g5, g6, _⟩ := set_loop hst hid hl
                refine ⟨rfl, r.fn, (r.params.zip ys).foldl (fun tmps (t, a) => tmps.setIfInBounds t a) r.tmps, assign, body, ?_, fun n => ?_⟩
                · rw [run_yield g1 (by rw [g3, ← hlen]; simpa using hr.1), g4, g5]
                · refine roundIn_of_wpIn (F := Fence.wide) trivial ?_
                  have hat : At C.G β H W ⟨setL t (ps.toList.zip xs), H, [], []⟩ β { tmps := (r.params.zip ys).foldl (fun tmps (t, a) => tmps.setIfInBounds t a) r.tmps, defers := [] } W := by
                    refine ⟨by rw [maskL_nil]; exact Step.refl hst, ?_, hG, Marks.nil, fun _ _ _ _ => rfl⟩
                    have := setL_rep ps.toList xs ys.toList t r.tmps g6 hr
                    rw [← g3] at this
                    simp only
                    rw [← Array.foldl_toList, Array.toList_zip, g3]
                    rw [g3] at this
                    exact this
                  refine exec_run (r := some l.b) (n := n) hcall hC.glob hC.mixed rfl assign _ _ _ _ β _ W hex hat fun β1 a1 W1 hat1 => ?_
                  have hb1 : β1 id = some l := (hat1.step.good.keep id (List.getElem?_eq_some_iff.1 hid).1 (by simpa [maskL] using hA1)).2.1.some hl
                  obtain ⟨r1, p1, p2, p3, p4, p5, p6, p7⟩ := set_loop hat1.step.st hid1 hb1
                  refine ⟨_, run_beginRound p1 p2, ?_⟩
                  have hat2 := hat1.touch hC.glob (p7 .busy pend1) id fun i hi _ => List.getElem?_set_ne (Ne.symm hi)
                  have e1 : ({ r1 with state := LoopState.busy, pending := pend1 } : Loop) = { r1 with state := .busy } := by
                    obtain ⟨fn, tmps, d, q1, q2, q3⟩ := (hat1.step.st.obj _ _ hid1).at hb1
                    rw [p1] at q1
                    cases q1
                    rfl
                  rw [e1] at hat2
                  refine exec_run (r := some l.b) (n := n) hcall hC.glob hC.mixed rfl body _ _ _ _ β1 _ _ hex2 hat2 fun β2 a2 W2 hat3 => ?_
                  have hb2 : β2 id = some l := (hat3.step.good.keep id (List.getElem?_eq_some_iff.1 hid).1 (by simpa [maskL] using hA2)).2.1.some hl
                  obtain ⟨r2, w1, w2, w3, w4, w5, w6, w7⟩ := set_loop hat3.step.st hid2 hb2
                  have fin : ∃ v W', (Instr.endRound l.b j).run C.P W2 = .ok v W' ∧ ∃ β', Step β H W β' (s2.H.set id (.loop t2 ps2 as2 b2 (if j.isNone then .ready else .done) j)) W' (maskL s2.A) ∧
                      Rep W'.heap (Imm W'.heap β' (s2.H.set id (.loop t2 ps2 as2 b2 (if j.isNone then .ready else .done) j))) β' (s2.H.set id (.loop t2 ps2 as2 b2 (if j.isNone then .ready else .done) j)) (bN j.isNone) v := by
                    refine ⟨_, _, run_endRound j w1, β2, ?_, .p _ _ (.v _)⟩
                    have := hat3.step.trans (w7 (if j.isNone then .ready else .done) j)
                    refine ⟨this.st, this.good.wider fun i hi => ?_, this.same⟩
                    simpa [none?] using hi
                  cases x with
                  | normal => simp only [NX.jump, Option.some.injEq] at hj; subst hj; exact fin
                  | exit k => simp only [NX.jump, Option.some.injEq] at hj; subst hj; exact fin
                  | ret => simp only [NX.jump, Option.some.injEq] at hj; subst hj; exact fin
                  | pan v => simp [NX.jump] at hj
              · cases h
            · cases h
          · cases h
        · cases h
      · cases h
    · cases h
  · cases h
theorem round_frame {call : Caller} {P : Program} {G : Nat → NV} {fuel : Nat} (hcall : CallOK P G call) {id : Nat} {xs : List NV} {H : NH} {o : COut} (h : roundN call P G fuel id xs H = some o) (hA : o.A = []) (i : Nat) (hT : i ∉ o.T) (hi : i < H.length) :
    o.H[i]? = H[i]? := by
  unfold roundN at h
  split at h
  · split at h
    · split at h
      · rename_i s1 hex
        split at h
        · cases h
        split at h
        · split at h
          · rename_i x s2 hex2
            split at h
            · cases h
            split at h
            · split at h
              · cases h
                simp only at hA hT
                have f2 := exec_frame hcall _ _ _ _ hex2 hA
                obtain ⟨a1, k1⟩ := f2
                simp only at a1
                have f1 := exec_frame hcall _ _ _ _ hex a1
                obtain ⟨q1, q2⟩ := k1 i hT
                rw [mem_unionT, not_or] at q1
                have hne : i ≠ id := by simpa using q1.1
                obtain ⟨r1, r2⟩ := f1.2 i q1.2
                have e1 := r2 hi
                simp only at e1
                have hlt : i < s1.H.length := by
                  rw [List.getElem?_eq_getElem hi] at e1
                  exact (List.getElem?_eq_some_iff.1 e1).1
                have e2 := q2 (by simpa using hlt)
                simp only at e2
                simp only
                rw [List.getElem?_set_ne (Ne.symm hne), e2, List.getElem?_set_ne (Ne.symm hne), e1]
              · cases h
            · cases h
          · cases h
        · cases h
      · cases h
    · cases h
  · cases h

/-! Marks are taken up. -/
theorem leave_marks {G : Nat → NV} {fn : Func} {β0 β : Beta} {H0 : NH} {W0 : World} {s : FS} {RR : Ending → World → Prop} {u : FrameMode} {P : Program} {tmps : Array Value} (hu : u ≠ .run) {v : NV} {y : Value} : ∀ (ds : List Deferred) (W : World),
    At G β0 H0 W0 s β ⟨tmps, ds⟩ W → Rep W.heap (Imm W.heap β s.H) β s.H v y → (∀ W', At G β0 H0 W0 s β ⟨tmps, []⟩ W' → Rep W'.heap (Imm W'.heap β s.H) β s.H v y → LeavesIn Fence.wide 0 P fn tmps RR [] u W') → LeavesInM Fence.wide 0 P fn tmps RR ds u W := by
  intro ds
  induction ds with
  | nil => intro W hat hv hk; exact hk W hat hv
  | cons d ds ih =>
    intro W hat hv hk
    obtain ⟨r, h1, h2, h3, h4⟩ := hat.marks.2 d (by simp)
    obtain ⟨k1, k2, k3⟩ := hat.step.st.turn (ob' := .deferred none) h2 h3 (fun _ _ _ e => by cases e) (fun _ _ _ e => by cases e)
    refine ⟨hu, .inl ⟨r, _, h1, run_takeDeferred h2, ih _ ?_ (k2 _ _ hv) hk⟩⟩
    have hne : ∀ b, b < W0.heap.size → b ≠ r := fun b hb e => by omega
    refine ⟨⟨k1, ⟨⟨fun b hb => ?_, ?_⟩, hat.step.good.keep, hat.step.good.born⟩, hat.step.same.trans (Same.atHeap _ _)⟩, ⟨hat.tmps.size, fun i x y hx hy => k2 _ _ (hat.tmps.at' i x y hx hy)⟩, fun g => k2 _ _ (hat.glob g), ?_, hat.frame⟩
    · obtain ⟨q1, q2⟩ := hat.step.good.ext.imm b hb
      refine ⟨k3 b q1, ?_⟩
      simp only [World.putObj]
      rw [Array.getElem?_setIfInBounds_ne (Ne.symm (hne b hb.1))]
      exact q2
    · simp only [World.putObj]
      simpa using hat.step.good.ext.size
    · have hp := hat.marks.1
      rw [List.pairwise_cons] at hp
      refine ⟨hp.2, fun e he => ?_⟩
      obtain ⟨r', q1, q2, q3, q4⟩ := hat.marks.2 e (by simp [he])
      have hrr : r' ≠ r := fun e' => hp.1 e he (by rw [h1, q1, e'])
      refine ⟨r', q1, ?_, k3 r' q3, q4⟩
      simp only [World.putObj]
      rw [Array.getElem?_setIfInBounds_ne (Ne.symm hrr)]
      exact q2

theorem callN_ok {C : Cfg} (hC : C.OK) : ∀ d, CallOK C.P C.G (callN C d) := by
  intro d
  induction d with
  | zero => exact ⟨fun f xs H o h => by simp [callN] at h, fun f xs H o h => by simp [callN] at h, fun f xs H o h => by simp [callN] at h⟩
  | succ d ih =>
    refine ⟨?_, fun id xs H o h W β ys l hst hG hr hl => round_ok hC ih (by simpa only [callN] using h) hst hG hr hl, ?_⟩
    · intro f xs H o h W β ys hst hG hr
      simp only [callN] at h
      split at h
      · rename_i o' ho
        cases h
        exact hC.hook.gives f xs H o ho W β ys hst hG hr
      · split at h
        · rename_i fn hF
          obtain ⟨hf, hname⟩ := hC.funcs f fn hF
          split at h
          · rename_i c hb
            refine ⟨?_, ?_⟩
            · have hprog : (program).run C.P W = .ok C.P W := rfl
              simp only [callFunc, Sem.run_bind, hprog, Result.andThen_ok, hf, hname, hb, Option.isNone_some, Bool.false_eq_true, if_false, Sem.run_pure]
            · refine (callsIn_wide (n := 0)).1 (callsIn_of_wp_marks hf hb trivial ?_)
              have hT0 : RepT W.heap (Imm W.heap β H) β H (xs ++ List.replicate (fn.ntmps - xs.length) undefN) (ys ++ Array.replicate (fn.ntmps - ys.size) undef) := by
                have hsz : ys.size = xs.length := by simpa using hr.1
                refine ⟨by simp [hsz], fun i x y hx hy => ?_⟩
                rcases Nat.lt_or_ge i xs.length with hi | hi
                · rw [List.getElem?_append_left hi] at hx
                  rw [Array.getElem?_append_left (by omega)] at hy
                  exact hr.2 i x y hx (by simpa using hy)
                · rw [List.getElem?_append_right hi] at hx
                  rw [Array.getElem?_append_right (by omega)] at hy
                  rw [List.getElem?_replicate] at hx
                  rw [Array.getElem?_replicate] at hy
                  split at hx
                  · split at hy
                    · cases hx; cases hy; exact .p _ _ (.v _)
                    · cases hy
                  · cases hx
              have hat : At C.G β H W ⟨xs ++ List.replicate (fn.ntmps - xs.length) undefN, H, [], []⟩ β { tmps := ys ++ Array.replicate (fn.ntmps - ys.size) undef, defers := [] } W :=
                ⟨by rw [maskL_nil]; exact Step.refl hst, hT0, hG, Marks.nil, fun _ _ _ _ => rfl⟩
              have back : ∀ (s : FS) (v : NV) (β' : Beta) (a' : Act) (W' : World) (RR : Ending → World → Prop), At C.G β H W s β' a' W' → resultsN C.P s fn.results.toList = some v →
                  (∀ y w, (∃ β'', Step β H W β'' (if C.cut f then cutN H.length v s.H else s.H) w (maskL s.A) ∧ Rep w.heap (Imm w.heap β'' (if C.cut f then cutN H.length v s.H else s.H)) β'' (if C.cut f then cutN H.length v s.H else s.H) v y) → RR (.returned y) w) →
                  LeavesInM Fence.wide 0 C.P fn a'.tmps RR a'.defers .returning W' := by
                intro s v β' a' W' RR hat' hv hRR
                refine leave_marks (fun e => by cases e) (v := .junk) (y := undef) a'.defers W' hat' (.junk _) fun W2 hat2 _ => ?_
                obtain ⟨y, k1, k2⟩ := resultsN_run hat2.step.st hat2.tmps hv
                refine ⟨y, k1, hRR y W2 ?_⟩
                split
                · exact ⟨β', cutN_run hat2.step k2⟩
                · exact ⟨β', hat2.step, k2⟩
              split at h
              · cases h
              · rename_i r v s hex
                cases h
                refine exec_run (r := none) (n := 0) ih hC.glob hC.mixed rfl c _ s (.pan v) _ β _ W hex hat fun β' a' W' hat' y hy => ?_
                refine leave_marks (fun e => by cases e) a'.defers W' hat' hy fun W2 hat2 hy2 => ?_
                exact ⟨rfl, y, rfl, β', hat2.step, hy2⟩
              · rename_i r x s hn hn' hex
                split at h
                · rename_i v hv
                  cases h
                  refine exec_run (r := none) (n := 0) ih hC.glob hC.mixed rfl c _ s x _ β _ W hex hat fun β' a' W' hat' => ?_
                  cases x with
                  | exit id => exact (hn id rfl).elim
                  | pan v => exact (hn' v rfl).elim
                  | normal => exact back s v β' a' W' _ hat' hv fun y w h => ⟨rfl, h⟩
                  | ret => exact back s v β' a' W' _ hat' hv fun y w h => ⟨rfl, h⟩
                · cases h
              · cases h
          · cases h
        · cases h
    · intro g xs H o h hA id hT hid
      cases g with
      | yld i => exact round_frame ih (by simpa only [callN] using h) hA id hT hid
      | fn f =>
        simp only [callN] at h
        split at h
        · rename_i o' ho
          cases h
          exact hC.hook.frame _ xs H o ho hA id hT hid
        · split at h
          · split at h
            · split at h
              · cases h
              · rename_i r v s hex
                cases h
                simp only at hA hT ⊢
                exact ((exec_frame ih _ _ _ _ hex hA).2 id hT).2 hid
              · rename_i r x s hn hn' hex
                split at h
                · rename_i v hv
                  cases h
                  simp only at hA hT ⊢
                  have hfr := exec_frame ih _ _ _ _ hex hA
                  have := (hfr.2 id hT).2 hid
                  split
                  · rw [cutN_frame hid]; exact this
                  · exact this
                · cases h
              · cases h
            · cases h
          · cases h
end
end Go.Proofs.Eng
