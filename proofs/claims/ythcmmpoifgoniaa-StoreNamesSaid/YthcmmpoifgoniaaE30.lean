/- The engine, part 30: code; calls; loops over functions. -/
import Derived.Test.YthcmmpoifgoniaaE29
set_option linter.unusedVariables false
set_option linter.unusedSimpArgs false
namespace Go.Proofs.Eng

/-- How a piece of code ends. -/
inductive NX where
  | normal
  | exit (id : Nat)
  | ret
  | pan (v : NV)
/-- The jump that a round leaves behind. -/
def NX.jump : NX → Option (Option Code)
  | .normal => some none
  | .exit id => some (some (.exit id))
  | .ret => some (some .ret)
  | .pan _ => none
def iterN (f : FS → Option (NX × FS)) : Nat → FS → Option (NX × FS)
  | 0, _ => none
  | n + 1, s => match f s with
    | some (.normal, s1) => iterN f n s1
    | r => r
/-- Behind a loop over a function: the jump that is pending is taken up. -/
noncomputable def afterN (o : COut) (id : Nat) (s : FS) : Option (NX × FS) :=
  if o.p then none
  else if o.A.contains id then none
  else match o.H[id]? with
    | some (.loop t2 ps2 as2 b2 st pend) =>
      if st = .busy then none
      else match pend with
        | none => some (.normal, ⟨cleanT o.A s.t, o.H.set id (.loop t2 ps2 as2 b2 .exhausted none), unionT o.A s.A, unionT o.T s.T⟩)
        | some .ret => some (.ret, ⟨cleanT o.A s.t, o.H.set id (.loop t2 ps2 as2 b2 .exhausted (some .ret)), unionT o.A s.A, unionT o.T s.T⟩)
        | some (.exit k) => some (.exit k, ⟨cleanT o.A s.t, o.H.set id (.loop t2 ps2 as2 b2 .exhausted (some (.exit k))), unionT o.A s.A, unionT o.T s.T⟩)
        | some _ => none
    | _ => none
/-- Code. 'rd': in a round of a loop over a function. -/
noncomputable def execC (call : Caller) (P : Program) (G : Nat → NV) (fuel : Nat) (rd : Bool) : Code → FS → Option (NX × FS)
  | .skip, s => some (.normal, s)
  | .region _ ops draw, s => match regionN call P G ops draw s with
    | some (none, s') => some (.normal, s')
    | some (some v, s') => some (.pan v, s')
    | none => none
  | .seq x y, s => match execC call P G fuel rd x s with
    | some (.normal, s1) => execC call P G fuel rd y s1
    | r => r
  | .cond c x y, s => match evalN G s.t c with
    | .p (.v (.bool true)) => execC call P G fuel rd x s
    | .p (.v (.bool false)) => execC call P G fuel rd y s
    | _ => none
  | .block id c, s => match execC call P G fuel rd c s with
    | some (.exit i, s1) => if i = id then some (.normal, s1) else some (.exit i, s1)
    | r => r
  | .loop c, s => iterN (fun s => execC call P G fuel rd c s) fuel s
  | .exit id, s => some (.exit id, s)
  | .scope c, s => execC call P G fuel rd c s
  | .label _, s => some (.normal, s)
  | .ret, s => some (.ret, s)
  | .rangeFunc g ps assign body, s =>
    if rd then none
    else match evalN G s.t g with
      | .fn (.func f) first cap => match call (.fn f) (first ++ [.yld s.H.length] ++ cap) (s.H ++ [.loop s.t ps assign body .ready none]) with
        | some o => afterN o s.H.length s
        | none => none
      | _ => none
  | _, _ => none

/-- What a piece of code is asked. -/
def NX.to (Q : Exit → Act → World → Prop) (H : NH) (β : Beta) (a : Act) (W : World) : NX → Prop
  | .normal => Q .normal a W
  | .exit id => Q (.exit id) a W
  | .ret => Q .ret a W
  | .pan v => ∀ y, Rep W.heap (Imm W.heap β H) β H v y → Q (.panic [{ v := y, recovered := false }]) a W

section
variable {P : Program} {G : Nat → NV} {call : Caller}

theorem stepR_scope {b : Frame} {a : Act} {k : List Item} {cs : List Frame} {w : World} {c : Code} : step P (lone (b.atR a (.code (.scope c) :: k)) cs w) = .next (lone (b.atR a (.code c :: .inScope c :: k)) cs w) :=
  step_lone_go (by simp [stepG, stepG.exec, Frame.atR])
theorem stepR_inScope {b : Frame} {a : Act} {k : List Item} {cs : List Frame} {w : World} {c : Code} : step P (lone (b.atR a (.inScope c :: k)) cs w) = .next (lone (b.atR a k) cs w) :=
  step_lone_go (by simp [stepG, stepG.exec, Frame.atR])
theorem wpIn_scope_straight {F : Fence} {n : Nat} {a : Act} {w : World} {Q : Exit → Act → World → Prop} {c : Code} (h : c.wpIn F n P (Exit.noGoto Q) a w) : (Code.scope c).wpIn F n P Q a w := by
  intro b k cs hro hb hr
  have h0 : (lone (b.atR a (.code (.scope c) :: k)) cs w).fenced P F := fenced_calm hb hr rfl
  obtain ⟨e, a₁, w₁, hq, harr⟩ := h b (.inScope c :: k) cs hro hb hr
  cases e with
  | normal => exact ⟨.normal, a₁, w₁, hq, .head h0 stepR_scope (StepsIn.trans harr (.one (fenced_calm hb hr rfl) stepR_inScope))⟩
  | exit id =>
    have hx : exitTo id (.inScope c :: k) = exitTo id k := by simp [exitTo]
    exact ⟨_, a₁, w₁, hq, fun k' hk => .head h0 stepR_scope (harr.1 k' (by rw [hx]; exact hk)),
      fun hr' hk => let ⟨k₁, h1, h2⟩ := harr.2 hr' (by rw [hx]; exact hk); ⟨k₁, h1, .head h0 stepR_scope h2⟩⟩
  | goto l => exact hq.elim
  | ret => exact ⟨_, a₁, w₁, hq, .of_steps (.one h0 stepR_scope) harr⟩
  | panic ch => exact ⟨_, a₁, w₁, hq, .of_steps (.one h0 stepR_scope) harr⟩
  | outgrown => exact ⟨_, a₁, w₁, hq, .of_steps (b := b) (k := k) (cs := cs) (e := .outgrown) (.one h0 stepR_scope) harr⟩

/-! A block that nobody owns. -/
section
variable {β : Beta} {H : NH} {W : World}
theorem Step.block (h : St W.heap β H) (obj : Obj) : Step β H W β H (atHeap W (W.heap.push obj)) none? ∧ Imm (W.heap.push obj) β H W.heap.size := by
  have him : ∀ b, Imm W.heap β H b → Imm (W.heap.push obj) β H b ∧ (W.heap.push obj)[b]? = W.heap[b]? := by
    rintro b ⟨hb, hn⟩
    exact ⟨⟨by simp; omega, hn⟩, by rw [Array.getElem?_push, if_neg (by omega)]⟩
  have hk : ∀ id, id < H.length → none? id = false → id < H.length ∧ Stays β H[id]? β id ∧ Shape H[id]? H[id]? := fun id hid _ => ⟨hid, .inl rfl, Shape.refl _⟩
  refine ⟨⟨⟨fun id o ho => ?_, h.apart⟩, ⟨⟨him, (by show W.heap.size ≤ (W.heap.push obj).size; simp)⟩, hk, fun id o l h1 h2 h3 => .inl ⟨o, h1, h2, h3⟩⟩, Same.atHeap _ _⟩, by simp, ?_⟩
  · have := (h.obj id o ho).mono (A := none?) him hk rfl fun ha l hl => by
      have := h.lt ho ha hl
      rw [Array.getElem?_push, if_neg (by omega)]
    rwa [show cleanO none? o = o from cleanO_none o] at this
  · intro hO
    have := hO.lt h
    exact Nat.lt_irrefl _ this
/-- Such a block turns; no cells are there. -/
theorem St.turn (h : St W.heap β H) {r : Nat} {ob ob' : Obj} (hr : W.heap[r]? = some ob) (hi : Imm W.heap β H r) (hc : ∀ c T fr, ob ≠ .cells c T fr) (hc' : ∀ c T fr, ob' ≠ .cells c T fr) :
    St (W.heap.setIfInBounds r ob') β H ∧ (∀ x y, Rep W.heap (Imm W.heap β H) β H x y → Rep (W.heap.setIfInBounds r ob') (Imm (W.heap.setIfInBounds r ob') β H) β H x y) ∧
      (∀ b, Imm W.heap β H b → Imm (W.heap.setIfInBounds r ob') β H b) := by
  have hrl := (Array.getElem?_eq_some_iff.1 hr).1
  have him : ∀ b, Imm W.heap β H b → Imm (W.heap.setIfInBounds r ob') β H b ∧ ∀ k, cellAt (W.heap.setIfInBounds r ob') b k = cellAt W.heap b k := by
    rintro b ⟨hb, hn⟩
    refine ⟨⟨by simpa using hb, hn⟩, fun k => ?_⟩
    unfold cellAt
    by_cases he : b = r
    · subst he
      rw [Array.getElem?_setIfInBounds_self_of_lt hrl, hr]
      cases ob' with
      | cells c T fr => exact absurd rfl (hc' c T fr)
      | _ => cases ob with
        | cells c T fr => exact absurd rfl (hc c T fr)
        | _ => rfl
    · rw [Array.getElem?_setIfInBounds_ne (Ne.symm he)]
  have hk : ∀ id, id < H.length → none? id = false → id < H.length ∧ Stays β H[id]? β id ∧ Shape H[id]? H[id]? := fun id hid _ => ⟨hid, .inl rfl, Shape.refl _⟩
  refine ⟨⟨fun id o ho => ?_, h.apart⟩, fun x y hxy => ?_, fun b hb => (him b hb).1⟩
  · cases o with
    | dead => unfold ObjRep; cases β id <;> trivial
    | prow T rw' sz n get =>
      cases hl : β id with
      | none => have := h.obj id _ ho; unfold ObjRep at this ⊢; rw [hl] at this ⊢; exact this
      | some l =>
        have h1 := (h.obj id _ ho).at hl
        have hne : l.b ≠ r := by
          intro e
          obtain ⟨c, fr, g1, _⟩ := h1
          rw [e, hr] at g1; cases g1; exact hc _ _ _ rfl
        have := (h.obj id _ ho).mono' (A := none?) him hk rfl fun ha l' hl' => by
          rw [hl] at hl'; cases hl'
          rw [Array.getElem?_setIfInBounds_ne (Ne.symm hne)]
        exact this
    | _ =>
      have := (h.obj id _ ho).mono' (A := none?) him hk rfl fun ha l hl => by
        have : l.b ≠ r := fun e => hi.2 ⟨id, _, l, ho, rfl, hl, e⟩
        rw [Array.getElem?_setIfInBounds_ne (Ne.symm this)]
      rwa [show ∀ o, cleanO none? o = o from fun o => cleanO_none o] at this
  · have := hxy.mono' (A := none?) him hk
    rwa [show cleanV none? x = x from cleanV_none x] at this
end

/-- Behind a loop over a function. -/
theorem after_run {β0 β β1 : Beta} {H0 : NH} {W0 W W1 : World} {s f : FS} {a : Act} {x : NX} {o : COut} {n : Nat} {Q : Exit → Act → World → Prop} {l : Loc} {lr : NO} (hGG : GOK G) (hat : At G β0 H0 W0 s β a W)
    (h : afterN o s.H.length s = some (x, f)) {β' : Beta} {W' : World} (hs1 : Step β s.H W β1 (s.H ++ [lr]) W1 none?) (hb1 : β1 s.H.length = some l) (hs : Step β1 (s.H ++ [lr]) W1 β' o.H W' (maskL o.A))
    (hfr : o.A = [] → ∀ id, id ∉ o.T → id < (s.H ++ [lr]).length → o.H[id]? = (s.H ++ [lr])[id]?) {r : Nat} (hr : W1.heap[r]? = some (.deferred (some []))) (hri : Imm W1.heap β1 (s.H ++ [lr]) r) (hrn : W.heap.size ≤ r)
    (hk : ∀ β' a' W', At G β0 H0 W0 f β' a' W' → x.to Q f.H β' a' W') :
    ∃ jump w₄, (Instr.endLoop l.b).run P W' = .ok jump w₄ ∧ (match jump with
       | none => Q .normal { a with defers := [{ target := .collected r, args := #[] }] ++ a.defers } w₄
       | some c => c.wpIn (fen none) n P Q { a with defers := [{ target := .collected r, args := #[] }] ++ a.defers } w₄) := by
  unfold afterN at h
  split at h
  · cases h
  split at h
  · cases h
  rename_i hA
  have hA : maskL o.A s.H.length = false := by simpa [maskL] using hA
  have hbo : β' s.H.length = some l := by
    obtain ⟨_, h2, _⟩ := hs.good.keep s.H.length (by simp) hA
    exact h2.some hb1
  split at h
  · rename_i t2 ps2 as2 b2 st pend ho
    split at h
    · cases h
    rename_i hst
    obtain ⟨fn, tmps, d, g1, g2, g3⟩ := (hs.st.obj _ _ ho).at hbo
    have hend := run_endLoop (P := P) g1 hst
    refine ⟨pend, _, hend, ?_⟩
    -- the record is exhausted
    have hx : Step β' o.H W' β' (o.H.set s.H.length (.loop t2 ps2 as2 b2 .exhausted pend)) (atHeap W' (W'.heap.setIfInBounds l.b (.loop ⟨.exhausted, pend, fn, tmps, ps2, as2, b2, d⟩))) none? := by
      refine Step.put hs.st ho hbo rfl rfl trivial fun H' e g => ?_
      refine ⟨fn, tmps, d, by rw [Array.getElem?_setIfInBounds_self_of_lt (Array.getElem?_eq_some_iff.1 g1).1], g2, fun k x y hx hy => g.rep0 (g3 k x y hx hy)⟩
    have hfin : At G β0 H0 W0 ⟨cleanT o.A s.t, o.H.set s.H.length (.loop t2 ps2 as2 b2 .exhausted pend), unionT o.A s.A, unionT o.T s.T⟩ β' { a with defers := [{ target := .collected r, args := #[] }] ++ a.defers }
        (atHeap W' (W'.heap.setIfInBounds l.b (.loop ⟨.exhausted, pend, fn, tmps, ps2, as2, b2, d⟩))) := by
      have hall : Step β s.H W β' (o.H.set s.H.length (.loop t2 ps2 as2 b2 .exhausted pend)) (atHeap W' (W'.heap.setIfInBounds l.b (.loop ⟨.exhausted, pend, fn, tmps, ps2, as2, b2, d⟩))) (maskL o.A) := by
        have := (hs1.trans0 hs).trans hx
        refine ⟨this.st, this.good.wider fun i hi => ?_, this.same⟩
        simpa [none?] using hi
      have := hat.thrown hGG hall (T := o.T) fun hA0 id h1 h2 => by
        rw [List.getElem?_set_ne (by omega), hfr hA0 id h1 (by simp; omega), List.getElem?_append_left h2]
      refine ⟨this.step, this.tmps, this.glob, ?_, this.frame⟩
      refine ⟨?_, fun d' hd' => ?_⟩
      · rw [List.singleton_append, List.pairwise_cons]
        refine ⟨fun e he h' => ?_, this.marks.1⟩
        obtain ⟨r', q1, q2, q3, q4⟩ := hat.marks.2 e he
        rw [q1] at h'
        cases h'
        exact Nat.lt_irrefl _ (Nat.lt_of_lt_of_le q3.1 hrn)
      · rw [List.singleton_append, List.mem_cons] at hd'
        rcases hd' with rfl | hd'
        · have k2 := (hs.good.ext.imm r hri)
          have k3 := (hx.good.ext.imm r k2.1)
          exact ⟨r, rfl, by rw [k3.2, k2.2]; exact hr, k3.1, Nat.le_trans hat.step.good.ext.size hrn⟩
        · exact this.marks.2 d' hd'
    split at h
    · cases h
      exact hk _ _ _ hfin
    · cases h
      exact wpIn_ret (hk _ _ _ hfin)
    · cases h
      exact wpIn_exit (hk _ _ _ hfin)
    · cases h
  · cases h

theorem exec_run (hC : CallOK P G call) (hGG : GOK G) (hm : P.follows .mixedOrders = true) {fuel : Nat} {r : Option Nat} {n : Nat} {rd : Bool} (hrd : rd = r.isSome) {β0 : Beta} {H0 : NH} {W0 : World} : ∀ (c : Code) (s f : FS) (x : NX) (Q : Exit → Act → World → Prop) (β : Beta) (a : Act) (W : World),
    execC call P G fuel rd c s = some (x, f) → At G β0 H0 W0 s β a W → (∀ β' a' W', At G β0 H0 W0 f β' a' W' → x.to Q f.H β' a' W') → c.wpIn (fen r) n P Q a W := by
  intro c
  induction c with
  | skip => intro s f x Q β a W h hat hk; simp only [execC] at h; cases h; exact wpIn_skip (hk β a W hat)
  | region id ops draw =>
    intro s f x Q β a W h hat hk
    simp only [execC] at h
    split at h
    · rename_i s' hr; cases h; exact region_run hC hGG hm hat hr hk
    · rename_i v s' hr; cases h; exact region_run hC hGG hm hat hr hk
    · cases h
  | seq c1 c2 ih1 ih2 =>
    intro s f x Q β a W h hat hk
    simp only [execC] at h
    refine wpIn_seq ?_
    split at h
    · rename_i s1 h1
      exact ih1 s s1 .normal _ β a W h1 hat fun β' a' W' hat' => ih2 s1 f x Q β' a' W' h hat' hk
    · rename_i hn
      refine ih1 s f x _ β a W h hat fun β' a' W' hat' => ?_
      have := hk β' a' W' hat'
      cases x with
      | normal => exact absurd h (hn f)
      | exit id => exact this
      | ret => exact this
      | pan v => exact this
  | cond k c1 c2 ih1 ih2 =>
    intro s f x Q β a W h hat hk
    simp only [execC] at h
    have ev := hat.tmps.eval (ds := a.defers) hat.glob k
    split at h
    · rename_i he
      rw [he] at ev
      exact wpIn_cond_true ev.v_inv (ih1 s f x Q β a W h hat hk)
    · rename_i he
      rw [he] at ev
      exact wpIn_cond_false ev.v_inv (ih2 s f x Q β a W h hat hk)
    · cases h
  | block id c ih =>
    intro s f x Q β a W h hat hk
    simp only [execC] at h
    refine wpIn_block ?_
    split at h
    · rename_i i s1 h1
      split at h
      · rename_i hid
        cases h
        exact ih s f (.exit i) _ β a W h1 hat fun β' a' W' hat' => by
          simp only [NX.to, Exit.inBlock, hid, if_true]
          exact hk β' a' W' hat'
      · rename_i hid
        cases h
        exact ih s f (.exit i) _ β a W h1 hat fun β' a' W' hat' => by
          simp only [NX.to, Exit.inBlock, hid, if_false]
          exact hk β' a' W' hat'
    · rename_i hn
      refine ih s f x _ β a W h hat fun β' a' W' hat' => ?_
      have := hk β' a' W' hat'
      cases x with
      | exit i => exact absurd h (hn i f)
      | normal => exact this
      | ret => exact this
      | pan v => exact this
  | loop c ih =>
    intro s f x Q β a W h hat hk
    simp only [execC] at h
    refine wpIn_loop_rounds fuel ?_
    have key : ∀ (m : Nat) (s : FS) (β : Beta) (a : Act) (W : World), iterN (fun s => execC call P G fuel rd c s) m s = some (x, f) → At G β0 H0 W0 s β a W → Code.roundsIn (fen r) n P c Q m a W := by
      intro m
      induction m with
      | zero => intro s β a W h hat; simp only [iterN] at h; cases h
      | succ m ihm =>
        intro s β a W h hat
        simp only [iterN] at h
        rw [roundsIn_succ]
        split at h
        · rename_i s1 h1
          exact ih s s1 .normal _ β a W h1 hat fun β' a' W' hat' => ihm s1 β' a' W' h hat'
        · rename_i hn
          refine ih s f x _ β a W h hat fun β' a' W' hat' => ?_
          have := hk β' a' W' hat'
          cases x with
          | normal => exact absurd h (hn f)
          | exit id => exact this
          | ret => exact this
          | pan v => exact this
    exact key fuel s β a W h hat
  | exit id => intro s f x Q β a W h hat hk; simp only [execC] at h; cases h; exact wpIn_exit (hk β a W hat)
  | scope c ih =>
    intro s f x Q β a W h hat hk
    simp only [execC] at h
    refine wpIn_scope_straight (ih s f x _ β a W h hat fun β' a' W' hat' => ?_)
    have := hk β' a' W' hat'
    cases x <;> exact this
  | label l => intro s f x Q β a W h hat hk; simp only [execC] at h; cases h; exact wpIn_label (hk β a W hat)
  | ret => intro s f x Q β a W h hat hk; simp only [execC] at h; cases h; exact wpIn_ret (hk β a W hat)
  | rangeFunc g ps assign body ih1 ih2 =>
    intro s f x Q β a W h hat hk
    simp only [execC] at h
    cases hrd' : rd with
    | true => rw [hrd'] at h; simp at h
    | false =>
      rw [hrd'] at h
      obtain rfl : r = none := by cases r with | none => rfl | some _ => rw [hrd'] at hrd; simp at hrd
      simp only [Bool.false_eq_true, if_false] at h
      have ev := hat.tmps.eval (ds := a.defers) hat.glob g
      split at h
      · rename_i fc first cap he
        rw [he] at ev
        split at h
        · rename_i o ho
          obtain ⟨yf, hyf⟩ : ∃ y, a.eval g = y := ⟨_, rfl⟩
          have hyf' : (⟨a.tmps, a.defers⟩ : Act).eval g = yf := hyf
          rw [hyf'] at ev
          cases ev with
          | fn _ _ _ ys ys' h1 h2 h3 h4 =>
            refine wpIn_rangeFunc fun fid _ => ?_
            obtain ⟨b1, bi⟩ := Step.block hat.step.st (.deferred (some []))
            have b2 : Step β s.H (atHeap W (W.heap.push (.deferred (some [])))) (upd β s.H.length (some ⟨W.heap.size + 1, 0, 0⟩)) (s.H ++ [.loop s.t ps assign body .ready none])
                (atHeap W ((W.heap.push (.deferred (some []))).push (.loop ⟨.ready, none, fid, a.tmps, ps, assign, body, W.heap.size⟩))) none? := by
              have := Step.alloc b1.st (.loop ⟨.ready, none, fid, a.tmps, ps, assign, body, W.heap.size⟩) (.loop s.t ps assign body .ready none) 0 fun β' H' e1 e2 gd => ?_
              · have hsz : (atHeap W (W.heap.push (.deferred (some [])))).heap.size = W.heap.size + 1 := Array.size_push ..
                rw [hsz] at this
                exact this
              · exact ⟨fid, a.tmps, W.heap.size, Array.getElem?_push_size, hat.tmps.size, fun k x y hx hy => gd.rep0 (b1.rep0 (hat.tmps.at' k x y hx hy))⟩
            have b3 := b1.trans0 b2
            have hl : (upd β s.H.length (some ⟨W.heap.size + 1, 0, 0⟩)) s.H.length = some ⟨W.heap.size + 1, 0, 0⟩ := upd_self _ _ _
            have hargs : RepL (atHeap W ((W.heap.push (.deferred (some []))).push (.loop ⟨.ready, none, fid, a.tmps, ps, assign, body, W.heap.size⟩))).heap
                (Imm (atHeap W ((W.heap.push (.deferred (some []))).push (.loop ⟨.ready, none, fid, a.tmps, ps, assign, body, W.heap.size⟩))).heap (upd β s.H.length (some ⟨W.heap.size + 1, 0, 0⟩)) (s.H ++ [.loop s.t ps assign body .ready none]))
                (upd β s.H.length (some ⟨W.heap.size + 1, 0, 0⟩)) (s.H ++ [.loop s.t ps assign body .ready none]) (first ++ [.yld s.H.length] ++ cap) ((ys ++ #[Value.func (.yield (W.heap.size + 1)) #[] #[]]) ++ ys').toList := by
              have app : ∀ {hp imm β H} {as bs : List NV} {cs ds : List Value}, RepL hp imm β H as cs → RepL hp imm β H bs ds → RepL hp imm β H (as ++ bs) (cs ++ ds) := by
                rintro hp imm β H as bs cs ds ⟨k1, k2⟩ ⟨k3, k4⟩
                refine ⟨by simp [k1, k3], fun i x y hx hy => ?_⟩
                rcases Nat.lt_or_ge i as.length with hi | hi
                · rw [List.getElem?_append_left hi] at hx
                  rw [List.getElem?_append_left (by omega)] at hy
                  exact k2 i x y hx hy
                · rw [List.getElem?_append_right hi] at hx
                  rw [List.getElem?_append_right (by omega)] at hy
                  rw [k1] at hy
                  exact k4 _ x y hx hy
              simp only [Array.toList_append]
              refine app (app ⟨by simpa using h1, fun i x y hx hy => b3.rep0 (h3 i x y hx (by simpa using hy))⟩ ⟨rfl, fun i x y hx hy => ?_⟩) ⟨by simpa using h2, fun i x y hx hy => b3.rep0 (h4 i x y hx (by simpa using hy))⟩
              cases i with
              | zero =>
                simp at hx hy
                subst hx; subst hy
                exact .yld _ ⟨W.heap.size + 1, 0, 0⟩ (by simp) hl
              | succ i => simp at hx
            have hG3 : RepG (atHeap W ((W.heap.push (.deferred (some []))).push (.loop ⟨.ready, none, fid, a.tmps, ps, assign, body, W.heap.size⟩))).heap
                (Imm (atHeap W ((W.heap.push (.deferred (some []))).push (.loop ⟨.ready, none, fid, a.tmps, ps, assign, body, W.heap.size⟩))).heap (upd β s.H.length (some ⟨W.heap.size + 1, 0, 0⟩)) (s.H ++ [.loop s.t ps assign body .ready none]))
                (upd β s.H.length (some ⟨W.heap.size + 1, 0, 0⟩)) (s.H ++ [.loop s.t ps assign body .ready none]) G := fun g => b3.rep0 (hat.glob g)
            obtain ⟨q1, q2⟩ := hC.gives fc _ _ o ho _ _ _ b3.st hG3 hargs
            refine ⟨W.heap.size + 1, [{ target := .collected W.heap.size, args := #[] }], _, ⟨.fn (.func fc) ys', ys ++ #[Value.func (.yield (W.heap.size + 1)) #[] #[]]⟩, _, fc, _, _, run_enterLoop_outer fid a.tmps ps assign body, ?_, fun _ _ => trivial, q1, fun h => (by cases h), calls_fen.2 (q2.mono fun e w he => ?_)⟩
            · have ea : (#[Operand.const (.func (.yield (W.heap.size + 1)) #[] #[])] : Array Operand).map a.eval = #[Value.func (.yield (W.heap.size + 1)) #[] #[]] := by simp [Act.eval]
              simp only [resolve, rangeCall, hyf, Deferred.ofValue, ea]
              rfl
            · cases e with
              | returned v =>
                obtain ⟨_, β', k1, k2⟩ := he
                exact after_run (l := ⟨W.heap.size + 1, 0, 0⟩) hGG hat h b3 hl k1 (fun hA id hT hid => hC.frame _ _ _ _ ho hA id hT hid) (r := W.heap.size) (by
                  show ((W.heap.push _).push _)[W.heap.size]? = _
                  rw [Array.getElem?_push, if_neg (by simp), Array.getElem?_push_size]) (b2.good.ext.imm _ bi).1 (Nat.le_refl _) hk
              | panicked c =>
                obtain ⟨hp, _⟩ := he
                unfold afterN at h
                rw [hp] at h
                simp at h
              | outgrown => exact he.elim
        · cases h
      · cases h
  | goto l => intro s f x Q β a W h hat hk; simp only [execC] at h; cases h
  | refuse w => intro s f x Q β a W h hat hk; simp only [execC] at h; cases h
end
end Go.Proofs.Eng
