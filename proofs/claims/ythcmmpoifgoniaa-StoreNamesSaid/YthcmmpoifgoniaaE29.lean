/- The engine, part 29: regions whose order is drawn. -/
import Derived.Test.YthcmmpoifgoniaaE28
set_option linter.unusedVariables false
set_option linter.unusedSimpArgs false
namespace Go.Proofs.Eng

section
variable {P : Program} {G : Nat → NV} {call : Caller} {ops : Array Oper} {Q : Exit → Act → World → Prop}

theorem pairsOK_iff {preds : List (Nat × Nat)} : ∀ {es : List Ent}, pairsOK ops preds es = true ↔ es.Pairwise fun x y => pairOK ops preds x y = true := by
  intro es
  induction es with
  | nil => simp [pairsOK]
  | cons x es ih => simp only [pairsOK, Bool.and_eq_true, List.all_eq_true, List.pairwise_cons, ih]

theorem runL_cons {i : Nat} {o : Oper} {rows : List Row} {s f : FS} {es : List Ent} (h : runL call P G ops ((i, o) :: rows) s = some (f, es)) :
    ∃ s1 e es1, stepO call P G ops o s = some (s1, e) ∧ runL call P G ops rows s1 = some (f, es1) ∧ es = (i, o, e) :: es1 := by
  simp only [runL] at h
  split at h
  · rename_i s1 e h1
    split at h
    · rename_i s2 es2 h2
      cases h
      exact ⟨s1, e, es2, h1, h2, rfl⟩
    · cases h
  · cases h
theorem runL_mk {i : Nat} {o : Oper} {rows : List Row} {s s1 f : FS} {e : En} {es : List Ent} (h1 : stepO call P G ops o s = some (s1, e)) (h2 : runL call P G ops rows s1 = some (f, es)) :
    runL call P G ops ((i, o) :: rows) s = some (f, (i, o, e) :: es) := by
  simp only [runL, h1, h2]

/-- An operation that waits for none of those ahead of it comes first. -/
theorem bubble (hC : CallOK P G call) (hGG : GOK G) {preds : List (Nat × Nat)} {j : Nat} {oj : Oper} {l2 : List Row} : ∀ (l1 : List Row) (s f : FS) (es : List Ent), runL call P G ops (l1 ++ (j, oj) :: l2) s = some (f, es) →
    (es.Pairwise fun x y => pairOK ops preds x y = true) → (∀ y ∈ l1, inM (lookP preds j) y.1 = false) →
    ∃ sj ej es', stepO call P G ops oj s = some (sj, ej) ∧ runL call P G ops (l1 ++ l2) sj = some (f, es') ∧ es'.Sublist es ∧ (j, oj, ej) ∈ es := by
  intro l1
  induction l1 with
  | nil =>
    intro s f es h hp hn
    obtain ⟨s1, e, es1, h1, h2, rfl⟩ := runL_cons h
    exact ⟨s1, e, es1, h1, h2, List.sublist_cons_self _ _, by simp⟩
  | cons y l1 ih =>
    intro s f es h hp hn
    obtain ⟨i, oi⟩ := y
    simp only [List.cons_append] at h
    obtain ⟨s1, ei, es1, h1, h2, rfl⟩ := runL_cons h
    rw [List.pairwise_cons] at hp
    obtain ⟨sj, ej, es', k1, k2, k3, k4⟩ := ih s1 f es1 h2 hp.2 fun y hy => hn y (by simp [hy])
    have hs : swapOK ops (oi, ei) (oj, ej) = true := by
      have := hp.1 _ k4
      simp only [pairOK, hn (i, oi) (by simp), Bool.false_or] at this
      exact this
    obtain ⟨sx, q1, q2⟩ := swap_run hC hGG h1 k1 hs
    exact ⟨sx, ej, (i, oi, ei) :: es', q1, runL_mk q2 k2, k3.cons_cons _, by simp [k4]⟩

/-! What an operation comes behind. -/
def Closed (ops : Array Oper) (listed : Array Bool) : Prop :=
  listed.size = ops.size ∧ ∀ (j : Nat) (oj : Oper), ops[j]? = some oj → listed.getD j false = true → ∀ e ∈ oj.after, Region.binds .any e = true → listed.getD e.on false = true
def AccOK (ops : Array Oper) (acc : List (Nat × Nat)) : Prop :=
  ∀ (j : Nat) (oj : Oper), ops[j]? = some oj → ∀ listed, Closed ops listed → (∀ e ∈ oj.after, Region.binds .any e = true → listed.getD e.on false = true) → ∀ i, inM (lookP acc j) i = true → listed.getD i false = true

theorem predsOf_ok {acc : List (Nat × Nat)} {o : Oper} (hacc : AccOK ops acc) {listed : Array Bool} (hc : Closed ops listed) (hr : ∀ e ∈ o.after, Region.binds .any e = true → listed.getD e.on false = true) :
    ∀ i, inM (predsOf acc o) i = true → listed.getD i false = true := by
  intro i hi
  obtain ⟨e, he', hb, hi⟩ := predsOf_mem hi
  have hl := hr e he' hb
  rcases hi with rfl | hi
  · exact hl
  · cases ho : ops[e.on]? with
    | none =>
      have h1 : ops.size ≤ e.on := by
        rcases Nat.lt_or_ge e.on ops.size with h | h
        · rw [Array.getElem?_eq_getElem h] at ho; cases ho
        · exact h
      have h2 : listed[e.on]? = none := Array.getElem?_eq_none (by rw [hc.1]; exact h1)
      simp [Array.getD_eq_getD_getElem?, h2] at hl
    | some oe => exact hacc e.on oe ho listed hc (hc.2 e.on oe ho hl) i hi
theorem predsN_ok : ∀ (rows : List Row) (acc : List (Nat × Nat)), (∀ x ∈ rows, ops[x.1]? = some x.2) → AccOK ops acc → AccOK ops (predsN rows acc) := by
  intro rows
  induction rows with
  | nil => intro acc hd h; exact h
  | cons x rows ih =>
    intro acc hd h
    refine ih _ (fun y hy => hd y (by simp [hy])) ?_
    intro j oj ho listed hc hr i hi
    simp only [lookP] at hi
    split at hi
    · rename_i hj
      subst hj
      have := hd x (by simp)
      rw [ho] at this
      cases this
      exact predsOf_ok h hc hr i hi
    · exact h j oj ho listed hc hr i hi

/-- The operations in an order that will do. -/
structure RowsOK (ops : Array Oper) (L : List Row) : Prop where
  mem : ∀ x ∈ L, ops[x.1]? = some x.2
  nodup : (L.map (·.1)).Nodup
  all : ∀ j oj, ops[j]? = some oj → (j, oj) ∈ L
  back : backOK [] L = true
theorem backOK_nodup : ∀ (L : List Row) (seen : List Nat), backOK seen L = true → (L.map (·.1)).Nodup ∧ ∀ x ∈ L, x.1 ∉ seen := by
  intro L
  induction L with
  | nil => intro seen h; exact ⟨List.nodup_nil, fun x hx => by simp at hx⟩
  | cons x L ih =>
    intro seen h
    simp only [backOK, Bool.and_eq_true, Bool.not_eq_true'] at h
    obtain ⟨⟨h1, h2⟩, h3⟩ := h
    obtain ⟨k1, k2⟩ := ih _ h3
    refine ⟨?_, fun y hy => ?_⟩
    · rw [List.map_cons, List.nodup_cons]
      refine ⟨fun hm => ?_, k1⟩
      obtain ⟨y, hy, e⟩ := List.mem_map.1 hm
      exact k2 y hy (by rw [e]; simp)
    · rw [List.mem_cons] at hy
      rcases hy with rfl | hy
      · simpa using h2
      · exact fun hm => k2 y hy (by simp [hm])
theorem backOK_get : ∀ (l1 : List Row) (seen : List Nat) (x : Row) (l2 : List Row), backOK seen (l1 ++ x :: l2) = true → ∀ e ∈ x.2.after, Region.binds .any e = true → e.on ∈ seen ∨ e.on ∈ l1.map (·.1) := by
  intro l1
  induction l1 with
  | nil =>
    intro seen x l2 h e he hb
    simp only [List.nil_append, backOK, Bool.and_eq_true, readyR, List.all_eq_true] at h
    have := h.1.1 e (by simpa using he)
    simp only [hb, Bool.not_true, Bool.false_or] at this
    exact .inl (by simpa using this)
  | cons y l1 ih =>
    intro seen x l2 h e he hb
    simp only [List.cons_append, backOK, Bool.and_eq_true] at h
    rcases ih _ x l2 h.2 e he hb with h1 | h1
    · rw [List.mem_cons] at h1
      rcases h1 with h1 | h1
      · exact .inr (by simp [h1])
      · exact .inl h1
    · exact .inr (by simp only [List.map_cons, List.mem_cons]; exact .inr h1)
theorem topo_mem : ∀ (n : Nat) (seen : List Nat) (rows : List Row), ∀ x ∈ topo n seen rows, x ∈ rows := by
  intro n
  induction n with
  | zero => intro seen rows x hx; simp [topo] at hx
  | succ n ih =>
    intro seen rows x hx
    simp only [topo] at hx
    split at hx
    · rename_i y hy
      rw [List.mem_cons] at hx
      rcases hx with rfl | hx
      · exact List.mem_of_find?_eq_some hy
      · exact (List.mem_filter.1 (ih _ _ x hx)).1
    · simp at hx
theorem drawRows_ok (h1 : ((num 0 ops.toList).all fun x => (drawRows ops).any fun y => y.1 == x.1) = true) (h2 : backOK [] (drawRows ops) = true) : RowsOK ops (drawRows ops) := by
  have hmem : ∀ x ∈ drawRows ops, ops[x.1]? = some x.2 := by
    intro x hx
    have hn : x ∈ num 0 ops.toList := by
      unfold drawRows at hx
      simp only at hx
      split at hx
      · exact hx
      · exact topo_mem _ _ _ x hx
    simpa using (num_mem hn).1
  refine ⟨hmem, (backOK_nodup _ _ h2).1, fun j oj hj => ?_, h2⟩
  have hn : (j, oj) ∈ num 0 ops.toList := by
    have : (num 0 ops.toList)[j]? = some (j, oj) := by
      rw [num_get, Array.getElem?_toList, hj]; simp
    exact List.mem_of_getElem? this
  rw [List.all_eq_true] at h1
  have := h1 _ hn
  rw [List.any_eq_true] at this
  obtain ⟨y, hy, e⟩ := this
  have e' : y.1 = j := by simpa using e
  have h3 := hmem y hy
  rw [e', hj] at h3
  have h4 : y = (j, oj) := Prod.ext e' (Option.some.inj h3).symm
  rw [← h4]
  exact hy

def rem (L : List Row) (listed : Array Bool) : List Row := L.filter fun x => !listed.getD x.1 true
variable {L : List Row}
theorem rem_mem (hL : RowsOK ops L) {listed : Array Bool} {x : Row} : x ∈ rem L listed ↔ ops[x.1]? = some x.2 ∧ listed.getD x.1 true = false := by
  unfold rem
  rw [List.mem_filter]
  constructor
  · rintro ⟨h1, h2⟩
    exact ⟨hL.mem x h1, by simpa using h2⟩
  · rintro ⟨h1, h2⟩
    exact ⟨hL.all _ _ h1, by simp [h2]⟩
theorem rem_set (hL : RowsOK ops L) {listed : Array Bool} {j : Nat} {oj : Oper} {l1 l2 : List Row} (hsz : listed.size = ops.size) (h : rem L listed = l1 ++ (j, oj) :: l2) : rem L (listed.setIfInBounds j true) = l1 ++ l2 := by
  have hnd : ((rem L listed).map (·.1)).Nodup := List.Nodup.sublist (List.Sublist.map _ List.filter_sublist) hL.nodup
  have hj : j < listed.size := by
    have : (j, oj) ∈ rem L listed := by rw [h]; simp
    rw [hsz]; exact (Array.getElem?_eq_some_iff.1 ((rem_mem hL).1 this).1).1
  have h1 : rem L (listed.setIfInBounds j true) = (rem L listed).filter fun x => x.1 != j := by
    unfold rem
    rw [List.filter_filter]
    congr 1
    funext x
    by_cases hx : x.1 = j
    · rw [hx]; simp [hj]
    · have : (listed.setIfInBounds j true).getD x.1 true = listed.getD x.1 true := getD_set_ne true (Ne.symm hx)
      rw [this]; simp [hx]
  rw [h1, h]
  rw [h, List.map_append, List.map_cons, List.nodup_append] at hnd
  obtain ⟨_, n2, n3⟩ := hnd
  rw [List.nodup_cons] at n2
  rw [List.filter_append, List.filter_cons]
  simp only [bne_self_eq_false, Bool.false_eq_true, if_false]
  congr 1
  · rw [List.filter_eq_self]
    intro x hx
    simp only [bne_iff_ne, ne_eq]
    intro e
    exact n3 x.1 (List.mem_map.2 ⟨x, hx, rfl⟩) j (by simp) e
  · rw [List.filter_eq_self]
    intro x hx
    simp only [bne_iff_ne, ne_eq]
    intro e
    exact n2.1 (e ▸ List.mem_map.2 ⟨x, hx, rfl⟩)

/-- Whatever order is drawn, the end is one. -/
theorem any_run (hC : CallOK P G call) (hGG : GOK G) {β0 : Beta} {H0 : NH} {W0 : World} {r : Option Nat} {n : Nat} {f : FS} {preds : List (Nat × Nat)} (hL : RowsOK ops L) (hpr : AccOK ops preds)
    (hk : ∀ β' a' W', At G β0 H0 W0 f β' a' W' → Q .normal a' W') : ∀ (fuel : Nat) (listed : Array Bool) (s : FS) (es : List Ent) (β : Beta) (a : Act) (W : World), Closed ops listed → (rem L listed).length = fuel →
    runL call P G ops (rem L listed) s = some (f, es) → (es.Pairwise fun x y => pairOK ops preds x y = true) → At G β0 H0 W0 s β a W → wpAnyIn (fen r) n P .any ops Q fuel listed a W := by
  intro fuel
  induction fuel with
  | zero =>
    intro listed s es β a W hc hl h hp hat
    have h0 : rem L listed = [] := List.eq_nil_of_length_eq_zero hl
    rw [h0] at h
    simp only [runL] at h
    cases h
    refine ⟨?_, hk β a W hat⟩
    rw [List.eq_nil_iff_forall_not_mem]
    intro j hj
    obtain ⟨h1, oj, h2, _⟩ := mem_ready.1 hj
    have : (j, oj) ∈ rem L listed := (rem_mem hL).2 ⟨h2, h1⟩
    rw [h0] at this
    cases this
  | succ fuel ih =>
    intro listed s es β a W hc hl h hp hat
    constructor
    · intro hr
      exfalso
      -- the first that is left is ready
      cases hrem : rem L listed with
      | nil => rw [hrem] at hl; simp at hl
      | cons x rows =>
        have hx : x ∈ rem L listed := by rw [hrem]; simp
        obtain ⟨g1, g2⟩ := (rem_mem hL).1 hx
        have hrem' := hrem
        unfold rem at hrem'
        rw [List.filter_eq_cons_iff] at hrem'
        obtain ⟨l1, l2, hsp, hn1, _, _⟩ := hrem'
        have : x.1 ∈ Region.ready .any ops listed := by
          refine mem_ready.2 ⟨g2, x.2, g1, fun e he hb => ?_⟩
          have hbk := hL.back
          rw [hsp] at hbk
          rcases backOK_get l1 [] x l2 hbk e he hb with h1 | h1
          · simp at h1
          · obtain ⟨y, hy, e1⟩ := List.mem_map.1 h1
            have h2 := hn1 y hy
            have h3 : listed.getD y.1 true = true := by simpa using h2
            have h4 : y.1 < listed.size := by
              rw [hc.1]
              exact (Array.getElem?_eq_some_iff.1 (hL.mem y (by rw [hsp]; simp [hy]))).1
            rw [← e1]
            simp only [Array.getD_eq_getD_getElem?, Array.getElem?_eq_getElem h4, Option.getD_some] at h3 ⊢
            exact h3
        rw [hr] at this
        cases this
    · intro j hj
      obtain ⟨g1, oj, g2, g3⟩ := mem_ready.1 hj
      have hm : (j, oj) ∈ rem L listed := (rem_mem hL).2 ⟨g2, g1⟩
      obtain ⟨l1, l2, hsp⟩ := List.append_of_mem hm
      have hn : ∀ y ∈ l1, inM (lookP preds j) y.1 = false := by
        intro y hy
        cases hcon : inM (lookP preds j) y.1 with
        | false => rfl
        | true =>
          exfalso
          have hin : inM (lookP preds j) y.1 = true := hcon
          have hl1 := hpr j oj g2 listed hc g3 y.1 hin
          have hy' : y ∈ rem L listed := by rw [hsp]; simp [hy]
          have hy2 := ((rem_mem hL).1 hy').2
          rcases Nat.lt_or_ge y.1 listed.size with h' | h'
          · simp only [Array.getD_eq_getD_getElem?, Array.getElem?_eq_getElem h', Option.getD_some] at hl1 hy2
            rw [hl1] at hy2; cases hy2
          · simp only [Array.getD_eq_getD_getElem?, Array.getElem?_eq_none h', Option.getD_none] at hl1
            cases hl1
      rw [hsp] at h
      obtain ⟨sj, ej, es', k1, k2, k3, k4⟩ := bubble hC hGG l1 s f es h hp hn
      refine stepO_run hC hGG hat g2 k1 fun β' a' W' hat' => ?_
      have hrs := rem_set hL hc.1 hsp
      refine ih (listed.setIfInBounds j true) sj es' β' a' W' ⟨by simp [hc.1], fun i oi hi hL e he hb => ?_⟩ (by rw [hrs]; rw [hsp] at hl; simp at hl ⊢; omega) (by rw [hrs]; exact k2) (hp.sublist k3) hat'
      by_cases hij : j = i
      · subst hij
        rw [g2] at hi
        cases hi
        exact getD_set_true (g3 e he hb)
      · rw [getD_set_ne false hij] at hL
        exact getD_set_true (hc.2 i oi hi hL e he hb)

/-- A region. -/
theorem region_run (hC : CallOK P G call) (hGG : GOK G) (hm : P.follows .mixedOrders = true) {β0 β : Beta} {H0 : NH} {W0 W : World} {r : Option Nat} {n : Nat} {id : Nat} {draw : Bool} {s f : FS} {x : Option NV} {a : Act}
    (hat : At G β0 H0 W0 s β a W) (h : regionN call P G ops draw s = some (x, f)) (hk : ∀ β' a' W', At G β0 H0 W0 f β' a' W' → panTo Q f.H β' a' W' x) : (Code.region id ops draw).wpIn (fen r) n P Q a W := by
  unfold regionN at h
  cases draw with
  | false =>
    simp only [Bool.false_eq_true, if_false] at h
    have hrows : ∀ x ∈ num 0 ops.toList, ops[x.1]? = some x.2 := fun x hx => by simpa using (num_mem hx).1
    have := runP_run (Q := Q) (r := r) (n := n) hC hGG _ s f x β a W hrows hat h hk
    rw [num_fst] at this
    refine wpIn_region ?_
    rw [List.range_eq_range']
    simpa using this
  | true =>
    simp only [if_true] at h
    split at h
    · rename_i s' es hr
      split at h
      · rename_i hch
        cases h
        simp only [Bool.and_eq_true] at hch
        obtain ⟨⟨hal, hb⟩, hp⟩ := hch
        have hL := drawRows_ok hal hb
        refine wpIn_region_any hm ?_
        have hat' : At G β0 H0 W0 s β a { W with drawn := W.drawn + 1 } := ⟨⟨hat.step.st, hat.step.good, hat.step.same.trans ⟨rfl, rfl, rfl⟩⟩, hat.tmps, hat.glob, hat.marks, hat.frame⟩
        have hrem0 : rem (drawRows ops) (Array.replicate ops.size false) = drawRows ops := by
          unfold rem
          rw [List.filter_eq_self]
          intro x hx
          have := (Array.getElem?_eq_some_iff.1 (hL.mem x hx)).1
          simp [Array.getD_eq_getD_getElem?, this]
        have hlen : (drawRows ops).length = ops.size := by
          have hnd := hL.nodup
          have hperm : ((drawRows ops).map (·.1)).Perm (List.range ops.size) := by
            refine (List.perm_ext_iff_of_nodup hnd List.nodup_range).2 fun j => ?_
            rw [List.mem_range]
            constructor
            · intro hj
              obtain ⟨y, hy, e1⟩ := List.mem_map.1 hj
              rw [← e1]
              exact (Array.getElem?_eq_some_iff.1 (hL.mem y hy)).1
            · intro hj
              exact List.mem_map.2 ⟨(j, ops[j]), hL.all j _ (Array.getElem?_eq_getElem hj), rfl⟩
          simpa using hperm.length_eq
        refine any_run hC hGG (f := f) hL (predsN_ok _ _ hL.mem (fun j oj hj listed hc hr i hi => by simp [lookP, inM] at hi)) hk ops.size _ s es β a _
          ⟨by simp, fun j oj hj hL => ?_⟩ (by rw [hrem0, hlen]) (by rw [hrem0]; exact hr) (pairsOK_iff.1 hp) hat'
        exfalso
        have hjs := (Array.getElem?_eq_some_iff.1 hj).1
        simp [Array.getD_eq_getD_getElem?, hjs] at hL
      · cases h
    · cases h
end
end Go.Proofs.Eng
