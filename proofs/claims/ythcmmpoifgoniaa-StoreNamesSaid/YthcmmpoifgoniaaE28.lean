/- The engine, part 28: regions; in a drawn order too. -/
import Derived.Test.YthcmmpoifgoniaaE27
set_option linter.unusedVariables false
set_option linter.unusedSimpArgs false
namespace Go.Proofs.Eng

abbrev Row := Nat × Oper
abbrev Ent := Nat × Oper × En
def num : Nat → List Oper → List Row
  | _, [] => []
  | i, o :: os => (i, o) :: num (i + 1) os
noncomputable def runL (call : Caller) (P : Program) (G : Nat → NV) (ops : Array Oper) : List Row → FS → Option (FS × List Ent)
  | [], s => some (s, [])
  | (i, o) :: os, s => match stepO call P G ops o s with
    | some (s1, e) => match runL call P G ops os s1 with
      | some (s2, es) => some (s2, (i, o, e) :: es)
      | none => none
    | none => none

/-- A set of places, as a number's bits. -/
def inM (m i : Nat) : Bool := Nat.testBit m i
def lookP : List (Nat × Nat) → Nat → Nat
  | [], _ => 0
  | (j, l) :: acc, i => if j = i then l else lookP acc i
/-- What an operation comes behind. -/
def predsOf (acc : List (Nat × Nat)) (o : Oper) : Nat :=
  o.after.toList.foldr (fun e m => if Region.binds .any e then Nat.lor (Nat.lor (Nat.shiftLeft 1 e.on) (lookP acc e.on)) m else m) 0
theorem predsOf_mem {acc : List (Nat × Nat)} {o : Oper} {i : Nat} (h : inM (predsOf acc o) i = true) : ∃ e ∈ o.after, Region.binds .any e = true ∧ (i = e.on ∨ inM (lookP acc e.on) i = true) := by
  unfold predsOf at h
  have key : ∀ l : List Edge, inM (l.foldr (fun e m => if Region.binds .any e then Nat.lor (Nat.lor (Nat.shiftLeft 1 e.on) (lookP acc e.on)) m else m) 0) i = true →
      ∃ e ∈ l, Region.binds .any e = true ∧ (i = e.on ∨ inM (lookP acc e.on) i = true) := by
    intro l
    induction l with
    | nil => intro h; simp [inM] at h
    | cons e l ih =>
      intro h
      simp only [List.foldr_cons] at h
      split at h
      · rename_i hb
        have h' : ((Nat.testBit (1 <<< e.on) i || Nat.testBit (lookP acc e.on) i) || Nat.testBit (l.foldr (fun e m => if Region.binds .any e then Nat.lor (Nat.lor (Nat.shiftLeft 1 e.on) (lookP acc e.on)) m else m) 0) i) = true := by
          rw [← Nat.testBit_or, ← Nat.testBit_or]; exact h
        simp only [Bool.or_eq_true] at h'
        rcases h' with (h' | h') | h'
        · refine ⟨e, by simp, hb, .inl ?_⟩
          rw [Nat.one_shiftLeft, Nat.testBit_two_pow] at h'
          exact (of_decide_eq_true h').symm
        · exact ⟨e, by simp, hb, .inr h'⟩
        · obtain ⟨e', h1, h2⟩ := ih h'
          exact ⟨e', by simp [h1], h2⟩
      · obtain ⟨e', h1, h2⟩ := ih h
        exact ⟨e', by simp [h1], h2⟩
  obtain ⟨e, h1, h2⟩ := key _ h
  exact ⟨e, by simpa using h1, h2⟩
def predsN : List Row → List (Nat × Nat) → List (Nat × Nat)
  | [], acc => acc
  | x :: rows, acc => predsN rows ((x.1, predsOf acc x.2) :: acc)

/-- Does an operation that looks at no object stand apart from objects that are no more? -/
def offA (V : Option (List Nat)) (A : List Nat) : Bool :=
  match V with
  | some l => l.all fun i => !A.contains i
  | none => false
/-- Two operations that may change places. -/
def swapOK (ops : Array Oper) (x y : Oper × En) : Bool :=
  Oper.apart ops x.1 y.1 &&
  ((x.2.A.isEmpty && y.2.A.isEmpty && !(x.2.eff && y.2.eff) && (!x.2.eff || y.2.R.all fun id => decide (id < x.2.N) && !x.2.T.contains id) &&
    (!y.2.eff || x.2.R.all fun id => decide (id < y.2.N) && !y.2.T.contains id)) || offA x.2.V y.2.A || offA y.2.V x.2.A)
def pairOK (ops : Array Oper) (preds : List (Nat × Nat)) (x y : Ent) : Bool := inM (lookP preds y.1) x.1 || swapOK ops x.2 y.2
def pairsOK (ops : Array Oper) (preds : List (Nat × Nat)) : List Ent → Bool
  | [] => true
  | x :: xs => xs.all (pairOK ops preds x) && pairsOK ops preds xs
/-- Each edge goes back. -/
def readyR (seen : List Nat) (o : Oper) : Bool := o.after.toList.all fun e => !Region.binds .any e || seen.contains e.on
def backOK : List Nat → List Row → Bool
  | _, [] => true
  | seen, x :: rows => readyR seen x.2 && !seen.contains x.1 && backOK (x.1 :: seen) rows
/-- An order that the edges let. -/
def topo : Nat → List Nat → List Row → List Row
  | 0, _, _ => []
  | n + 1, seen, rows => match rows.find? fun x => readyR seen x.2 with
    | some x => x :: topo n (x.1 :: seen) (rows.filter fun y => y.1 != x.1)
    | none => []
def drawRows (ops : Array Oper) : List Row :=
  let rows := num 0 ops.toList
  if backOK [] rows then rows else topo ops.size [] rows

/-- A region; it may throw. -/
noncomputable def runP (call : Caller) (P : Program) (G : Nat → NV) (ops : Array Oper) : List Row → FS → Option (Option NV × FS)
  | [], s => some (none, s)
  | (i, o) :: os, s => match stepO call P G ops o s with
    | some (s1, e) => runP call P G ops os s1
    | none => match stepP call G ops o s with
      | some (v, s1) => some (some v, s1)
      | none => none
noncomputable def regionN (call : Caller) (P : Program) (G : Nat → NV) (ops : Array Oper) (draw : Bool) (s : FS) : Option (Option NV × FS) :=
  if draw then
    match runL call P G ops (drawRows ops) s with
    | some (s', es) => if ((num 0 ops.toList).all fun x => (drawRows ops).any fun y => y.1 == x.1) && backOK [] (drawRows ops) && pairsOK ops (predsN (drawRows ops) []) es then some (none, s') else none
    | none => none
  else runP call P G ops (num 0 ops.toList) s

/-- What is asked behind a region. -/
def panTo (Q : Exit → Act → World → Prop) (H : NH) (β : Beta) (a : Act) (W : World) : Option NV → Prop
  | none => Q .normal a W
  | some v => ∀ y, Rep W.heap (Imm W.heap β H) β H v y → Q (.panic [{ v := y, recovered := false }]) a W

section
variable {P : Program} {G : Nat → NV} {call : Caller} {ops : Array Oper} {Q : Exit → Act → World → Prop}

theorem num_get : ∀ (os : List Oper) (i k : Nat), (num i os)[k]? = os[k]?.map fun o => (i + k, o) := by
  intro os
  induction os with
  | nil => intro i k; simp [num]
  | cons o os ih =>
    intro i k
    cases k with
    | zero => simp [num]
    | succ k => simp only [num, List.getElem?_cons_succ, ih]; congr 1; funext o; simp; omega
theorem num_mem {os : List Oper} {i : Nat} {x : Row} (h : x ∈ num i os) : os[x.1 - i]? = some x.2 ∧ i ≤ x.1 := by
  obtain ⟨k, hk⟩ := List.getElem?_of_mem h
  rw [num_get, Option.map_eq_some_iff] at hk
  obtain ⟨o, ho, rfl⟩ := hk
  simp [ho]
theorem num_fst : ∀ (os : List Oper) (i : Nat), (num i os).map (·.1) = List.range' i os.length := by
  intro os
  induction os with
  | nil => intro i; rfl
  | cons o os ih => intro i; simp only [num, List.map_cons, ih, List.length_cons, List.range'_succ]

/-- Operations in the order of their numbers. -/
theorem runP_run (hC : CallOK P G call) (hGG : GOK G) {β0 : Beta} {H0 : NH} {W0 : World} {r : Option Nat} {n : Nat} : ∀ (rows : List Row) (s s' : FS) (x : Option NV) (β : Beta) (a : Act) (W : World),
    (∀ x ∈ rows, ops[x.1]? = some x.2) → At G β0 H0 W0 s β a W → runP call P G ops rows s = some (x, s') →
    (∀ β' a' W', At G β0 H0 W0 s' β' a' W' → panTo Q s'.H β' a' W' x) →
    wpOpsIn (fen r) n P ops Q (rows.map (·.1)) a W := by
  intro rows
  induction rows with
  | nil => intro s s' x β a W hr hat h hk; simp only [runP] at h; cases h; exact hk β a W hat
  | cons x rows ih =>
    intro s s' q β a W hr hat h hk
    obtain ⟨i, o⟩ := x
    simp only [runP] at h
    simp only [List.map_cons, wpOpsIn_cons]
    split at h
    · rename_i s1 e h1
      exact stepO_run hC hGG hat (hr (i, o) (by simp)) h1 fun β' a' W' hat' => ih s1 s' q β' a' W' (fun x hx => hr x (by simp [hx])) hat' h hk
    · split at h
      · rename_i v s1 h1
        cases h
        exact stepP_run hC hGG hat (hr (i, o) (by simp)) h1 fun β' W' y hat' hy => hk β' a W' hat' y hy
      · cases h

/-! Two operations change places. -/
theorem evalN_set {t : List NV} {d : Nat} {u : NV} {x : Operand} (h : x ≠ .tmp d) : evalN G (t.set d u) x = evalN G t x := by
  cases x with
  | tmp i =>
    have : d ≠ i := fun e => h (e ▸ rfl)
    simp only [evalN, getT_eq, List.getD_eq_getElem?_getD, List.getElem?_set_ne this]
  | _ => rfl
theorem coreO_put {o : Oper} {t : List NV} {H : NH} {d : Option Tmp} {u : NV} (h : ∀ k, d = some k → k ∉ o.looksAt ops) : coreO call P G ops o (putN t d u) H = coreO call P G ops o t H := by
  cases d with
  | none => rfl
  | some k =>
    have hk := h k rfl
    have he : ∀ x ∈ o.op.operands.toList, evalN G (t.set k u) x = evalN G t x := fun x hx => evalN_set fun e => hk (by
      subst e
      exact List.mem_append_left _ (List.mem_filterMap.2 ⟨.tmp k, hx, rfl⟩))
    have hw : wantedN ops (t.set k u) o = wantedN ops t o := by
      unfold wantedN
      cases hg : o.guard with
      | none => rfl
      | some jw =>
        obtain ⟨j, want⟩ := jw
        simp only
        cases hd : (ops[j]?).bind (·.dst) with
        | none => rfl
        | some d' =>
          have : k ≠ d' := fun e => hk (by
            subst e
            exact List.mem_append_right _ (by simp [hg, hd]))
          simp only [List.getElem?_set_ne this]
    unfold coreO
    simp only [putN_some]
    rw [hw, opN_congr he]
theorem opN_reads {o : Op} {H H2 : NH} {ev : Operand → NV} {r : Out} (h : opN call P H ev o = some r) (he : r.eff = false) (hR : ∀ id ∈ r.R, H2[id]? = H[id]?) :
    opN call P H2 ev o = some ⟨r.v, H2, r.A, r.T, r.R, r.eff, r.V⟩ := by
  unfold opN at h ⊢
  split at h
  · rename_i v h1
    cases h
    rfl
  · rename_i h1
    split at h
    · rename_i v h2
      cases h
      rw [readN_frame hR, h2]
    · split at h
      · cases h; simp at he
      · split at h
        · cases h; simp at he
        · split at h
          · split at h
            · split at h
              · cases h
              · cases h; simp at he
            · cases h
          · cases h
theorem coreO_reads {o : Oper} {t : List NV} {H H2 H' : NH} {v : NV} {e : En} (h : coreO call P G ops o t H = some (v, H', e)) (he : e.eff = false) (hR : ∀ id ∈ e.R, H2[id]? = H[id]?) :
    coreO call P G ops o t H2 = some (v, H2, e) := by
  unfold coreO at h ⊢
  split at h
  · rename_i hw
    split at h
    · rename_i r hr
      cases h
      have := opN_reads hr he hR
      simp only at he
      simp only [hw, this, he]
      rfl
    · cases h
  · rename_i hw
    cases h
    simp only [hw]
  · cases h

theorem putN_comm {t : List NV} {d d' : Option Tmp} {u v : NV} (h : ∀ k, d = some k → d' ≠ some k) : putN (putN t d u) d' v = putN (putN t d' v) d u := by
  cases d with
  | none => rfl
  | some k =>
    cases d' with
    | none => rfl
    | some k' =>
      have : k ≠ k' := fun e => h k rfl (e ▸ rfl)
      simp only [putN_some, List.set_comm _ _ this]
theorem stepO_inv {o : Oper} {s s' : FS} {e : En} (h : stepO call P G ops o s = some (s', e)) : ∃ v H', coreO call P G ops o s.t s.H = some (v, H', e) ∧ s' = putF o s v H' e := by
  unfold stepO at h
  split at h
  · rename_i v H' e' hc
    cases h
    exact ⟨v, H', hc, rfl⟩
  · cases h
theorem isEmpty_nil {A : List Nat} (h : A.isEmpty = true) : A = [] := by simpa using h

/-! An operation that looks at no object, and one by which objects are no more. -/
mutual
theorem cleanV_off {A : Nat → Bool} : ∀ {v : NV}, (∀ i ∈ refV v, A i = false) → cleanV A v = v
  | .p _, _ => rfl
  | .ptr id _, h => by simp [cleanV, h id (by simp [refV])]
  | .pe id _ _, h => by simp [cleanV, h id (by simp [refV])]
  | .full id, h => by simp [cleanV, h id (by simp [refV])]
  | .part id _ _ _, h => by simp [cleanV, h id (by simp [refV])]
  | .xsl .., _ => rfl
  | .vp _, _ => rfl
  | .map id, h => by simp [cleanV, h id (by simp [refV])]
  | .yld id, h => by simp [cleanV, h id (by simp [refV])]
  | .fn _ a b, h => by
    simp only [refV, List.mem_append] at h
    simp only [cleanV, cleanL_off (fun i hi => h i (.inl hi)), cleanL_off (fun i hi => h i (.inr hi))]
  | .agg xs, h => by simp only [refV] at h; simp only [cleanV, cleanL_off h]
  | .tup xs, h => by simp only [refV] at h; simp only [cleanV, cleanL_off h]
  | .junk, _ => rfl
theorem cleanL_off {A : Nat → Bool} : ∀ {xs : List NV}, (∀ i ∈ refL xs, A i = false) → cleanL A xs = xs
  | [], _ => rfl
  | x :: xs, h => by
    simp only [refL, List.mem_append] at h
    simp only [cleanL, cleanV_off (fun i hi => h i (.inl hi)), cleanL_off (fun i hi => h i (.inr hi))]
end
mutual
theorem cleanV_noJunk {A : Nat → Bool} : ∀ {v : NV}, hasJunk (cleanV A v) = false → cleanV A v = v
  | .p _, _ => rfl
  | .ptr id _, h => by simp only [cleanV] at h ⊢; split at h <;> simp_all [hasJunk]
  | .pe id _ _, h => by simp only [cleanV] at h ⊢; split at h <;> simp_all [hasJunk]
  | .full id, h => by simp only [cleanV] at h ⊢; split at h <;> simp_all [hasJunk]
  | .part id _ _ _, h => by simp only [cleanV] at h ⊢; split at h <;> simp_all [hasJunk]
  | .xsl .., _ => rfl
  | .vp _, _ => rfl
  | .map id, h => by simp only [cleanV] at h ⊢; split at h <;> simp_all [hasJunk]
  | .yld id, h => by simp only [cleanV] at h ⊢; split at h <;> simp_all [hasJunk]
  | .fn _ a b, h => by
    simp only [cleanV, hasJunk, Bool.or_eq_false_iff] at h
    simp only [cleanV, cleanL_noJunk h.1, cleanL_noJunk h.2]
  | .agg xs, h => by simp only [cleanV, hasJunk] at h; simp only [cleanV, cleanL_noJunk h]
  | .tup xs, h => by simp only [cleanV, hasJunk] at h; simp only [cleanV, cleanL_noJunk h]
  | .junk, h => by simp [cleanV, hasJunk] at h
theorem cleanL_noJunk {A : Nat → Bool} : ∀ {xs : List NV}, hasJunkL (cleanL A xs) = false → cleanL A xs = xs
  | [], _ => rfl
  | x :: xs, h => by
    simp only [cleanL, hasJunkL, Bool.or_eq_false_iff] at h
    simp only [cleanL, cleanV_noJunk h.1, cleanL_noJunk h.2]
end
theorem cleanT_get (A : List Nat) (t : List NV) (i : Nat) : (cleanT A t)[i]? = t[i]?.map (cleanV (maskL A)) := by
  cases A with
  | nil =>
    simp only [cleanT, maskL_nil]
    rw [show cleanV none? = id from funext fun x => cleanV_none x]; simp
  | cons a A => simp only [cleanT, List.getElem?_map]
theorem evalN_clean (hGG : GOK G) (A : List Nat) (t : List NV) (x : Operand) : evalN G (cleanT A t) x = cleanV (maskL A) (evalN G t x) := by
  cases x with
  | tmp i =>
    simp only [evalN, getT_eq, List.getD_eq_getElem?_getD, cleanT_get]
    cases t[i]? <;> rfl
  | const v =>
    simp only [evalN, ofValue]
    split
    · simp only [cleanV, cleanL_eq, List.map_map]; congr 1
    · rfl
  | global g => exact (hGG g _).symm
  | func f => rfl
theorem wanted_clean (A : List Nat) (t : List NV) (o : Oper) {b : Bool} (h : wantedN ops t o = some b) : wantedN ops (cleanT A t) o = some b := by
  unfold wantedN at h ⊢
  split at h
  · exact h
  · rename_i j want hg
    split at h
    · exact h
    · rename_i d hd
      rw [cleanT_get]
      split at h
      · rename_i ht; rw [ht]; exact h
      · rename_i k ht; rw [ht]; exact h
      · rename_i k ht; rw [ht]; exact h
      · cases h
theorem clean_p {A : Nat → Bool} {v : NV} {x : VV} (h : cleanV A v = .p x) : v = .p x := by
  cases v <;> simp only [cleanV] at h <;> first | exact h | (split at h <;> cases h) | cases h
theorem wanted_unclean (A : List Nat) (t : List NV) (o : Oper) {b : Bool} (h : wantedN ops (cleanT A t) o = some b) : wantedN ops t o = some b := by
  unfold wantedN at h ⊢
  split at h
  · exact h
  · rename_i j want hg
    split at h
    · exact h
    · rename_i d hd
      rw [cleanT_get] at h
      cases ht : t[d]? with
      | none => rw [ht] at h; exact h
      | some v =>
        rw [ht, Option.map_some] at h
        have hv : v = cleanV (maskL A) v := by
          generalize hq : cleanV (maskL A) v = q at h
          cases q with
          | p x => exact clean_p hq
          | _ => cases h
        rw [← hv] at h
        exact h
/-- What looks at no object, is found so whatever objects there are. -/
theorem coreO_pure {o : Oper} {t : List NV} {H H' : NH} {v : NV} {e : En} {l : List Nat} (h : coreO call P G ops o t H = some (v, H', e)) (hV : e.V = some l) :
    H' = H ∧ e = ⟨false, [], [], [], 0, some l⟩ ∧ wantedN ops t o = some true ∧ pureN P (evalN G t) o.op = some v ∧ refsOf (evalN G t) o.op v = some l := by
  unfold coreO at h
  split at h
  · rename_i hw
    split at h
    · rename_i r hr
      cases h
      unfold opN at hr
      split at hr
      · rename_i r0 hp
        cases hr
        simp only at hV ⊢
        exact ⟨by simp, by rw [hV]; rfl, hw, hp, hV⟩
      · exfalso
        split at hr
        · cases hr; simp at hV
        · split at hr
          · cases hr; simp at hV
          · split at hr
            · cases hr; simp at hV
            · split at hr
              · split at hr
                · split at hr
                  · cases hr
                  · cases hr; simp at hV
                · cases hr
              · cases hr
    · cases h
  · cases h; simp at hV
  · cases h
theorem coreO_of_pure {o : Oper} {t : List NV} {H : NH} {v : NV} {l : List Nat} (hw : wantedN ops t o = some true) (hp : pureN P (evalN G t) o.op = some v) (hr : refsOf (evalN G t) o.op v = some l) :
    coreO call P G ops o t H = some (v, H, ⟨false, [], [], [], 0, some l⟩) := by
  unfold coreO
  simp only [hw]
  unfold opN
  simp only [hp, hr, Bool.false_eq_true, if_false]
theorem refsOf_inv {ev : Operand → NV} {op : Op} {r : NV} {l : List Nat} (h : refsOf ev op r = some l) : hasJunkL (op.operands.toList.map ev) = false ∧ l = refL (op.operands.toList.map ev) ++ refV r := by
  unfold refsOf at h
  split at h
  · cases h
  · rename_i hj
    cases h
    exact ⟨by simpa using hj, rfl⟩
theorem cleanT_nil (t : List NV) : cleanT [] t = t := rfl
theorem unionT_nil0 (l : List Nat) : unionT [] l = l := rfl
theorem junk_mem {xs : List NV} {x : NV} (h : hasJunkL xs = false) (hx : x ∈ xs) : hasJunk x = false := by
  induction xs with
  | nil => cases hx
  | cons y ys ih =>
    simp only [hasJunkL, Bool.or_eq_false_iff] at h
    rcases List.mem_cons.1 hx with rfl | hx
    · exact h.1
    · exact ih h.2 hx
theorem cleanT_put (A : List Nat) (t : List NV) (d : Option Tmp) (v : NV) (hv : ∀ i ∈ refV v, maskL A i = false) : cleanT A (putN t d v) = putN (cleanT A t) d v := by
  cases d with
  | none => rfl
  | some d =>
    apply List.ext_getElem?
    intro i
    simp only [putN_some, cleanT_get]
    by_cases hi : d = i
    · subst hi
      rcases Nat.lt_or_ge d t.length with hlt | hge
      · have : d < (cleanT A t).length := by
          have := cleanT_get A t d
          rw [List.getElem?_eq_getElem hlt] at this
          exact (List.getElem?_eq_some_iff.1 this).1
        rw [List.getElem?_set_self hlt, List.getElem?_set_self this, Option.map_some, cleanV_off hv]
      · have : (cleanT A t).length ≤ d := by
          have := cleanT_get A t d
          rw [List.getElem?_eq_none hge] at this
          exact List.getElem?_eq_none_iff.1 this
        rw [List.getElem?_eq_none (by simpa using hge), List.getElem?_eq_none (by simpa using this)]; rfl
    · rw [List.getElem?_set_ne hi, List.getElem?_set_ne hi, cleanT_get]
theorem offA_inv {V : Option (List Nat)} {A : List Nat} (h : offA V A = true) : ∃ l, V = some l ∧ ∀ i ∈ l, maskL A i = false := by
  unfold offA at h
  split at h
  · rename_i l
    refine ⟨l, rfl, fun i hi => ?_⟩
    have := List.all_eq_true.1 h i hi
    simpa [maskL] using this
  · cases h

theorem swap_run (hC : CallOK P G call) (hGG : GOK G) {oi oj : Oper} {s s1 s2 : FS} {ei ej : En} (h1 : stepO call P G ops oi s = some (s1, ei)) (h2 : stepO call P G ops oj s1 = some (s2, ej)) (hs : swapOK ops (oi, ei) (oj, ej) = true) :
    ∃ sj, stepO call P G ops oj s = some (sj, ej) ∧ stepO call P G ops oi sj = some (s2, ei) := by
  simp only [swapOK, Bool.and_eq_true, Bool.or_eq_true] at hs
  obtain ⟨hap, hs⟩ := hs
  obtain ⟨p1, p2, p3⟩ := Oper.apart_spec hap
  obtain ⟨vi, Hi, c1, rfl⟩ := stepO_inv h1
  obtain ⟨vj, Hj, c2, rfl⟩ := stepO_inv h2
  rcases hs with (hs | hs) | hs
  case inl.inr =>
    -- the first one looks at no object
    obtain ⟨l, hV, hoff⟩ := offA_inv hs
    obtain ⟨rfl, hei, w1, q1, r1⟩ := coreO_pure c1 hV
    obtain ⟨j1, rfl⟩ := refsOf_inv r1
    have hA : ei.A = [] := by rw [hei]
    have hT : ei.T = [] := by rw [hei]
    have ht : (putF oi s vi s.H ei).t = putN s.t oi.dst vi := by simp only [putF, hA, cleanT_nil]
    have c2' : coreO call P G ops oj s.t s.H = some (vj, Hj, ej) := by
      rw [ht, coreO_put p1] at c2; exact c2
    have hvi : ∀ i ∈ refV vi, maskL ej.A i = false := fun i hi => hoff i (List.mem_append_right _ hi)
    refine ⟨putF oj s vj Hj ej, by unfold stepO; rw [c2'], ?_⟩
    have hev : ∀ x ∈ oi.op.operands.toList, evalN G (cleanT ej.A s.t) x = evalN G s.t x := fun x hx => by
      rw [evalN_clean hGG]
      exact cleanV_off fun i hi => hoff i (List.mem_append_left _ (mem_refL.2 ⟨_, List.mem_map.2 ⟨x, hx, rfl⟩, hi⟩))
    have k2 : coreO call P G ops oi (putF oj s vj Hj ej).t (putF oj s vj Hj ej).H = some (vi, Hj, ei) := by
      have : (putF oj s vj Hj ej).t = putN (cleanT ej.A s.t) oj.dst vj := rfl
      rw [this, coreO_put p3]
      have := coreO_of_pure (call := call) (H := Hj) (wanted_clean ej.A s.t oi w1) (by rw [pureN_congr hev]; exact q1) (by rw [refsOf_congr hev]; exact r1)
      rw [hei]; exact this
    unfold stepO
    rw [k2]
    simp only [putF, hA, hT, cleanT_nil, unionT_nil0]
    rw [cleanT_put _ _ _ _ hvi, putN_comm (d := oj.dst) (d' := oi.dst) fun k h1 h2 => p2 k h2 h1]
  case inr =>
    -- the second one looks at no object
    obtain ⟨l, hV, hoff⟩ := offA_inv hs
    have ht : (putF oi s vi Hi ei).t = putN (cleanT ei.A s.t) oi.dst vi := rfl
    rw [ht, coreO_put p1] at c2
    obtain ⟨rfl, hej, w2, q2, r2⟩ := coreO_pure c2 hV
    obtain ⟨j2, rfl⟩ := refsOf_inv r2
    have hev : ∀ x ∈ oj.op.operands.toList, evalN G (cleanT ei.A s.t) x = evalN G s.t x := fun x hx => by
      have := junk_mem j2 (List.mem_map.2 ⟨x, hx, rfl⟩)
      rw [evalN_clean hGG] at this ⊢
      exact cleanV_noJunk this
    have hA : ej.A = [] := by rw [hej]
    have hT : ej.T = [] := by rw [hej]
    have hvj : ∀ i ∈ refV vj, maskL ei.A i = false := fun i hi => hoff i (List.mem_append_right _ hi)
    have c2' : coreO call P G ops oj s.t s.H = some (vj, s.H, ej) := by
      have := coreO_of_pure (call := call) (H := s.H) (wanted_unclean ei.A s.t oj w2) (by rw [← pureN_congr hev]; exact q2) (by rw [← refsOf_congr hev]; exact r2)
      rw [hej]; exact this
    refine ⟨putF oj s vj s.H ej, by unfold stepO; rw [c2'], ?_⟩
    have k2 : coreO call P G ops oi (putF oj s vj s.H ej).t (putF oj s vj s.H ej).H = some (vi, Hj, ei) := by
      have : (putF oj s vj s.H ej).t = putN s.t oj.dst vj := by simp only [putF, hA, cleanT_nil]
      rw [this, coreO_put p3]; exact c1
    unfold stepO
    rw [k2]
    simp only [putF, hA, hT, cleanT_nil, unionT_nil0]
    rw [cleanT_put _ _ _ _ hvj, putN_comm (d := oj.dst) (d' := oi.dst) fun k h1 h2 => p2 k h2 h1]
  case inl.inl =>
    obtain ⟨⟨⟨⟨ha, hb⟩, hne⟩, hd1⟩, hd2⟩ := hs
    have ha := isEmpty_nil ha
    have hb := isEmpty_nil hb
    have c2' : coreO call P G ops oj s.t Hi = some (vj, Hj, ej) := by
      have : (putF oi s vi Hi ei).t = putN s.t oi.dst vi := by simp only [putF, ha, cleanT]
      rw [this, coreO_put p1] at c2
      exact c2
    have fin : ∀ (Hx : NH), coreO call P G ops oj s.t s.H = some (vj, Hx, ej) → coreO call P G ops oi s.t Hx = some (vi, Hj, ei) → (ei.T = [] ∨ ej.T = []) →
        ∃ sj, stepO call P G ops oj s = some (sj, ej) ∧ stepO call P G ops oi sj = some (putF oj (putF oi s vi Hi ei) vj Hj ej, ei) := by
      intro Hx k1 k2 k3
      refine ⟨putF oj s vj Hx ej, by unfold stepO; rw [k1], ?_⟩
      have : (putF oj s vj Hx ej).t = putN s.t oj.dst vj := by simp only [putF, hb, cleanT]
      have k2' : coreO call P G ops oi (putF oj s vj Hx ej).t (putF oj s vj Hx ej).H = some (vi, Hj, ei) := by
        rw [this, coreO_put p3]; exact k2
      unfold stepO
      rw [k2']
      simp only [putF, ha, hb, cleanT, unionT]
      rw [putN_comm (t := s.t) (d := oj.dst) (d' := oi.dst) fun k h1 h2 => p2 k h2 h1]
      rcases k3 with k3 | k3 <;> rw [k3] <;> simp only [unionT]
    cases hei : ei.eff with
    | false =>
      obtain ⟨rfl, _, t1⟩ := coreO_still c1 hei
      have hR : ∀ id ∈ ei.R, Hj[id]? = s.H[id]? := by
        cases hej : ej.eff with
        | false => obtain ⟨rfl, _⟩ := coreO_still c2' hej; exact fun _ _ => rfl
        | true =>
          intro id hid
          simp only [hej, Bool.not_true, Bool.false_or, List.all_eq_true, Bool.and_eq_true, decide_eq_true_eq, Bool.not_eq_true', ] at hd2
          obtain ⟨g1, g2⟩ := (hd2.resolve_left (by simp)) id hid
          have hN : ej.N = s.H.length := by
            unfold coreO at c2'
            split at c2'
            · split at c2'
              · cases c2'; simp only at hej; simp [hej]
              · cases c2'
            · cases c2'; simp at hej
            · cases c2'
          exact coreO_frame hC c2' hb id (by simpa using g2) (by omega)
      exact fin Hj c2' (coreO_reads c1 hei hR) (.inl t1)
    | true =>
      have hej : ej.eff = false := by simpa [hei] using hne
      obtain ⟨rfl, _, t2⟩ := coreO_still c2' hej
      have hN : ei.N = s.H.length := by
        have c1' := c1
        unfold coreO at c1'
        split at c1'
        · split at c1'
          · cases c1'; simp only at hei; simp [hei]
          · cases c1'
        · cases c1'; simp at hei
        · cases c1'
      have hR : ∀ id ∈ ej.R, s.H[id]? = Hj[id]? := by
        intro id hid
        simp only [hei, Bool.not_true, Bool.false_or, List.all_eq_true, Bool.and_eq_true, decide_eq_true_eq, Bool.not_eq_true'] at hd1
        obtain ⟨g1, g2⟩ := (hd1.resolve_left (by simp)) id hid
        exact (coreO_frame hC c1 ha id (by simpa using g2) (by omega)).symm
      exact fin s.H (coreO_reads c2' hej hR) c1 (.inr t2)
end
end Go.Proofs.Eng
