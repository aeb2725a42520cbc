/- The engine, part 34: the same run, made for the kernel: temporaries in a tree. -/
import Derived.Test.YthcmmpoifgoniaaE33K
set_option linter.unusedVariables false
set_option linter.unusedSimpArgs false
namespace Go.Proofs.Eng

inductive TT where
  | lf (v : NV)
  | nd (a b : TT)
noncomputable def getK (t : TT) : Nat → NV :=
  TT.rec (motive := fun _ => Nat → NV) (fun v n => Nat.rec (motive := fun _ => NV) v (fun _ _ => .junk) n)
    (fun _ _ iha ihb n => Nat.rec (motive := fun _ => NV) (iha (Nat.div n 2)) (fun _ _ => ihb (Nat.div n 2)) (Nat.mod n 2)) t
noncomputable def setK (t : TT) : Nat → NV → TT :=
  TT.rec (motive := fun _ => Nat → NV → TT) (fun _ _ v => .lf v)
    (fun a b iha ihb n v => Nat.rec (motive := fun _ => TT) (.nd (iha (Nat.div n 2) v) b) (fun _ _ => .nd a (ihb (Nat.div n 2) v)) (Nat.mod n 2)) t
noncomputable def mapK (f : NV → NV) (t : TT) : TT := TT.rec (motive := fun _ => TT) (fun v => .lf (f v)) (fun _ _ iha ihb => .nd iha ihb) t
noncomputable def mkK (d : Nat) : (Nat → NV) → TT :=
  Nat.rec (motive := fun _ => (Nat → NV) → TT) (fun f => .lf (f 0)) (fun _ ih f => .nd (ih fun i => f (Nat.mul 2 i)) (ih fun i => f (Nat.add (Nat.mul 2 i) 1))) d
def fullK : Nat → TT → Prop
  | 0, .lf _ => True
  | d + 1, .nd a b => fullK d a ∧ fullK d b
  | _, _ => False

theorem mod_two (n : Nat) : n % 2 = 0 ∨ n % 2 = 1 := by omega
theorem getK_lf (v : NV) (n : Nat) : getK (.lf v) n = if n = 0 then v else .junk := by cases n <;> rfl
theorem getK_nd (a b : TT) (n : Nat) : getK (.nd a b) n = if n % 2 = 0 then getK a (n / 2) else getK b (n / 2) := by
  have e : getK (.nd a b) n = Nat.rec (motive := fun _ => NV) (getK a (n / 2)) (fun _ _ => getK b (n / 2)) (n % 2) := rfl
  rw [e]
  rcases mod_two n with h | h <;> rw [h] <;> rfl
theorem setK_nd (a b : TT) (n : Nat) (v : NV) : setK (.nd a b) n v = if n % 2 = 0 then .nd (setK a (n / 2) v) b else .nd a (setK b (n / 2) v) := by
  have e : setK (.nd a b) n v = Nat.rec (motive := fun _ => TT) (.nd (setK a (n / 2) v) b) (fun _ _ => .nd a (setK b (n / 2) v)) (n % 2) := rfl
  rw [e]
  rcases mod_two n with h | h <;> rw [h] <;> rfl
theorem full_set : ∀ (d : Nat) (t : TT) (i : Nat) (v : NV), fullK d t → fullK d (setK t i v) := by
  intro d
  induction d with
  | zero => intro t i v h; cases t with | lf => trivial | nd => exact h.elim
  | succ d ih =>
    intro t i v h
    cases t with
    | lf => exact h.elim
    | nd a b =>
      rw [setK_nd]
      split
      · exact ⟨ih a _ v h.1, h.2⟩
      · exact ⟨h.1, ih b _ v h.2⟩
theorem get_set : ∀ (d : Nat) (t : TT) (i j : Nat) (v : NV), fullK d t → i < 2 ^ d → getK (setK t i v) j = if j = i then v else getK t j := by
  intro d
  induction d with
  | zero =>
    intro t i j v h hi
    cases t with
    | nd => exact h.elim
    | lf w =>
      have : i = 0 := by simp at hi; omega
      subst this
      show getK (.lf v) j = _
      rw [getK_lf, getK_lf]
      split <;> rfl
  | succ d ih =>
    intro t i j v h hi
    cases t with
    | lf => exact h.elim
    | nd a b =>
      have hi2 : i / 2 < 2 ^ d := by rw [Nat.pow_succ] at hi; omega
      rw [setK_nd, getK_nd a b j]
      have hij : ∀ p : i % 2 ≠ j % 2, ¬ j = i := fun p e => p (by rw [e])
      rcases mod_two i with h1 | h1 <;> rcases mod_two j with h2 | h2
      · rw [if_pos h1, getK_nd, if_pos h2, if_pos h2, ih a _ _ v h.1 hi2]
        by_cases e : j = i
        · subst e; simp
        · rw [if_neg e, if_neg (show ¬ j / 2 = i / 2 by omega)]
      · have n2 : ¬ j % 2 = 0 := by omega
        rw [if_pos h1, getK_nd, if_neg n2, if_neg n2, if_neg (hij (by omega))]
      · rw [if_neg (show ¬ i % 2 = 0 by omega), getK_nd, if_pos h2, if_pos h2, if_neg (hij (by omega))]
      · have n2 : ¬ j % 2 = 0 := by omega
        rw [if_neg (show ¬ i % 2 = 0 by omega), getK_nd, if_neg n2, if_neg n2, ih b _ _ v h.2 hi2]
        by_cases e : j = i
        · subst e; simp
        · rw [if_neg e, if_neg (show ¬ j / 2 = i / 2 by omega)]
theorem full_map (f : NV → NV) : ∀ (d : Nat) (t : TT), fullK d t → fullK d (mapK f t) := by
  intro d
  induction d with
  | zero => intro t h; cases t with | lf => trivial | nd => exact h.elim
  | succ d ih => intro t h; cases t with | lf => exact h.elim | nd a b => exact ⟨ih a h.1, ih b h.2⟩
theorem get_map (f : NV → NV) (hf : f .junk = .junk) : ∀ (t : TT) (i : Nat), getK (mapK f t) i = f (getK t i) := by
  intro t
  induction t with
  | lf v => intro i; show getK (.lf (f v)) i = _; rw [getK_lf, getK_lf]; split <;> simp_all
  | nd a b iha ihb =>
    intro i
    show getK (.nd (mapK f a) (mapK f b)) i = _
    rw [getK_nd, getK_nd]
    split
    · exact iha _
    · exact ihb _
theorem full_mk : ∀ (d : Nat) (f : Nat → NV), fullK d (mkK d f) := by
  intro d
  induction d with
  | zero => intro f; trivial
  | succ d ih => intro f; exact ⟨ih _, ih _⟩
theorem get_mk : ∀ (d : Nat) (f : Nat → NV) (i : Nat), getK (mkK d f) i = if i < 2 ^ d then f i else .junk := by
  intro d
  induction d with
  | zero =>
    intro f i
    show getK (.lf (f 0)) i = _
    rw [getK_lf]
    by_cases h : i = 0
    · subst h; simp
    · rw [if_neg h, if_neg (by simp; omega)]
  | succ d ih =>
    intro f i
    show getK (.nd (mkK d fun i => f (2 * i)) (mkK d fun i => f (2 * i + 1))) i = _
    rw [getK_nd, ih, ih, Nat.pow_succ]
    rcases mod_two i with h | h
    · rw [if_pos h]
      by_cases hl : i / 2 < 2 ^ d
      · rw [if_pos hl, if_pos (by omega), show 2 * (i / 2) = i by omega]
      · rw [if_neg hl, if_neg (by omega)]
    · rw [if_neg (by omega)]
      by_cases hl : i / 2 < 2 ^ d
      · rw [if_pos hl, if_pos (by omega), show 2 * (i / 2) + 1 = i by omega]
      · rw [if_neg hl, if_neg (by omega)]

/-- A tree has what a list has. -/
def RelT (n : Nat) (tt : TT) (t : List NV) : Prop := ∃ d, fullK d tt ∧ n ≤ 2 ^ d ∧ t.length = n ∧ ∀ i, getK tt i = t.getD i .junk
noncomputable def ofL (n : Nat) (f : Nat → NV) : TT := mkK (Nat.succ (Nat.log2 n)) fun i => if Nat.ble (Nat.succ i) n = true then f i else .junk
theorem ofL_rel {n : Nat} {f : Nat → NV} {t : List NV} (hl : t.length = n) (hf : ∀ i, i < n → f i = t.getD i .junk) : RelT n (ofL n f) t := by
  refine ⟨_, full_mk _ _, Nat.le_of_lt Nat.lt_log2_self, hl, fun i => ?_⟩
  unfold ofL
  rw [get_mk]
  by_cases hi : i < n
  · rw [if_pos (Nat.lt_trans hi Nat.lt_log2_self), if_pos (by rw [Nat.ble_eq]; exact hi)]
    exact hf i hi
  · have hj : t.getD i .junk = .junk := by rw [List.getD_eq_getElem?_getD, List.getElem?_eq_none (by omega)]; rfl
    rw [hj]
    split
    · rw [if_neg (by rw [Nat.ble_eq]; omega)]
    · rfl
theorem RelT.set {n : Nat} {tt : TT} {t : List NV} (h : RelT n tt t) {d : Nat} (hd : d < n) (v : NV) : RelT n (setK tt d v) (t.set d v) := by
  obtain ⟨k, h1, h2, h3, h4⟩ := h
  refine ⟨k, full_set k tt d v h1, h2, by simpa using h3, fun i => ?_⟩
  rw [get_set k tt d i v h1 (by omega), List.getD_eq_getElem?_getD]
  by_cases e : i = d
  · subst e; rw [if_pos rfl, List.getElem?_set_self (by omega)]; rfl
  · rw [if_neg e, List.getElem?_set_ne (Ne.symm e), h4, List.getD_eq_getElem?_getD]
noncomputable def cleanK (A : List Nat) (t : TT) : TT :=
  match A with
  | [] => t
  | a :: A => mapK (cleanV (maskL (a :: A))) t
theorem RelT.clean {n : Nat} {tt : TT} {t : List NV} (h : RelT n tt t) (A : List Nat) : RelT n (cleanK A tt) (cleanT A t) := by
  cases A with
  | nil => exact h
  | cons a A =>
    obtain ⟨k, h1, h2, h3, h4⟩ := h
    refine ⟨k, full_map _ k tt h1, h2, by simpa [cleanT] using h3, fun i => ?_⟩
    show getK (mapK _ tt) i = _
    rw [get_map _ rfl, h4, List.getD_eq_getElem?_getD, List.getD_eq_getElem?_getD, cleanT_get]
    cases t[i]? <;> rfl
theorem RelT.get {n : Nat} {tt : TT} {t : List NV} (h : RelT n tt t) (i : Nat) : getK tt i = t.getD i .junk := by
  obtain ⟨k, _, _, _, h4⟩ := h
  exact h4 i
theorem RelT.len {n : Nat} {tt : TT} {t : List NV} (h : RelT n tt t) : t.length = n := by
  obtain ⟨k, _, _, h3, _⟩ := h
  exact h3

structure FSK where
  t : TT
  H : NH
  A : List Nat
  T : List Nat
structure RelF (n : Nat) (k : FSK) (s : FS) : Prop where
  t : RelT n k.t s.t
  H : k.H = s.H
  A : k.A = s.A
  T : k.T = s.T

noncomputable def evalK (G : Nat → NV) (t : TT) (x : Operand) : NV :=
  Operand.rec (motive := fun _ => NV) (fun i => getK t i) (fun v => ofValue v) (fun g => G g) (fun f => .fn (.func f) [] []) x
theorem evalK_eq {G : Nat → NV} {n : Nat} {tt : TT} {t : List NV} (h : RelT n tt t) : evalK G tt = evalN G t := by
  funext x
  cases x with
  | tmp i => show getK tt i = getT t i; rw [h.get, getT_eq]
  | _ => rfl
noncomputable def wantedK (ops : Array Oper) (t : TT) (o : Oper) : Option Bool :=
  match o.guard with
  | none => some true
  | some (j, want) => match (ops[j]?).bind (·.dst) with
    | none => some false
    | some d => match getK t d with
      | .p (.v (.bool b)) => some (b == want)
      | .p (.v (.tuple _)) => some false
      | _ => none
theorem wantedK_sim {ops : Array Oper} {n : Nat} {tt : TT} {t : List NV} {o : Oper} {b : Bool} (h : RelT n tt t) (e : wantedK ops tt o = some b) : wantedN ops t o = some b := by
  unfold wantedK at e
  unfold wantedN
  split at e
  · rename_i hg; rw [hg]; exact e
  · rename_i j want hg
    rw [hg]
    simp only
    split at e
    · rename_i hd; rw [hd]; exact e
    · rename_i d hd
      rw [hd]
      simp only
      rw [h.get, List.getD_eq_getElem?_getD] at e
      cases ht : t[d]? with
      | none => rw [ht] at e; cases e
      | some x =>
        rw [ht, Option.getD_some] at e
        revert e
        cases x with
        | p v => cases v with
          | v y => cases y <;> exact id
          | _ => exact id
        | _ => exact id

/-- Who answers more. -/
def LeC (c c' : Caller) : Prop := ∀ g xs H o, c g xs H = some o → c' g xs H = some o
theorem opN_mono {c c' : Caller} (hc : LeC c c') {P : Program} {H : NH} {ev : Operand → NV} {op : Op} {r : Out} (h : opN c P H ev op = some r) : opN c' P H ev op = some r := by
  unfold opN at h ⊢
  split at h
  · exact h
  · split at h
    · exact h
    · split at h
      · exact h
      · split at h
        · exact h
        · split at h
          · rename_i f xs hxs
            (try simp only [hxs])
            split at h
            · rename_i o ho
              rw [hc _ _ _ _ ho]
              exact h
            · cases h
          · cases h
theorem opP_mono {c c' : Caller} (hc : LeC c c') {H : NH} {ev : Operand → NV} {op : Op} {r : COut} (h : opP c H ev op = some r) : opP c' H ev op = some r := by
  unfold opP at h ⊢
  split at h
  · rename_i f xs hxs
    (try simp only [hxs])
    split at h
    · rename_i o ho
      rw [hc _ _ _ _ ho]
      exact h
    · cases h
  · rename_i hxs
    (try simp only [hxs])
    exact h

theorem opP_opN {c : Caller} {P : Program} {H : NH} {ev : Operand → NV} {op : Op} {r : COut} (h : opP c H ev op = some r) : opN c P H ev op = none := by
  unfold opP at h
  split at h
  · rename_i f xs hxs
    have hop : ∃ q fo, op = .call q ∧ q.callee = .value fo := by
      unfold callArgs at hxs
      split at hxs
      · rename_i q
        split at hxs
        · rename_i fo hc; exact ⟨q, fo, rfl, hc⟩
        · cases hxs
      · cases hxs
    obtain ⟨q, fo, rfl, hq⟩ := hop
    split at h
    · rename_i o ho
      split at h
      · rename_i hp
        simp only [opN, pureN, readN, effV, effU, hq, hxs, ho, hp, if_true]
      · cases h
    · cases h
  · rename_i hxs
    split at h
    · rename_i x
      simp only [opN, pureN, readN, effV, effU, hxs]
    · cases h
theorem stepP_stepO {c : Caller} {P : Program} {G : Nat → NV} {ops : Array Oper} {o : Oper} {s s' : FS} {v : NV} (h : stepP c G ops o s = some (v, s')) : stepO c P G ops o s = none := by
  unfold stepP at h
  split at h
  · rename_i hw
    split at h
    · rename_i r hr
      unfold stepO coreO
      simp only [hw, opP_opN (P := P) hr]
    · cases h
  · cases h

noncomputable def coreK (call : Caller) (P : Program) (G : Nat → NV) (ops : Array Oper) (o : Oper) (t : TT) (H : NH) : Option (NV × NH × En) :=
  match wantedK ops t o with
  | some true => match opK call P H (evalK G t) o.op with
    | some r => some (r.v, r.H, ⟨r.eff, r.A, r.T, r.R, if r.eff then H.length else 0, r.V⟩)
    | none => none
  | some false => some (undefN, H, ⟨false, [], [], [], 0, none⟩)
  | none => none
noncomputable def stepK (call : Caller) (P : Program) (G : Nat → NV) (n : Nat) (ops : Array Oper) (o : Oper) (k : FSK) : Option (FSK × En) :=
  match coreK call P G ops o k.t k.H with
  | some (v, H, e) => match o.dst with
    | some d => if Nat.ble (Nat.succ d) n = true then some (⟨setK (cleanK e.A k.t) d v, H, unionT e.A k.A, unionT e.T k.T⟩, e) else none
    | none => some (⟨cleanK e.A k.t, H, unionT e.A k.A, unionT e.T k.T⟩, e)
  | none => none
noncomputable def stepPK (call : Caller) (G : Nat → NV) (ops : Array Oper) (o : Oper) (k : FSK) : Option (NV × FSK) :=
  match wantedK ops k.t o with
  | some true => match opP call k.H (evalK G k.t) o.op with
    | some r => some (r.v, ⟨cleanK r.A k.t, r.H, unionT r.A k.A, unionT r.T k.T⟩)
    | none => none
  | _ => none
section
variable {c c' : Caller} {P : Program} {G : Nat → NV} {ops : Array Oper} {n : Nat} {o : Oper} {k k' : FSK} {s : FS} {e : En}
theorem coreK_sim (hc : LeC c c') {tt : TT} {t : List NV} {H : NH} {r : NV × NH × En} (h : RelT n tt t) (hk : coreK c P G ops o tt H = some r) : coreO c' P G ops o t H = some r := by
  unfold coreK at hk
  unfold coreO
  rw [evalK_eq h, opK_eq] at hk
  split at hk
  · rename_i hw
    rw [wantedK_sim h hw]
    simp only
    split at hk
    · rename_i q hq
      rw [opN_mono hc hq]
      exact hk
    · cases hk
  · rename_i hw
    rw [wantedK_sim h hw]
    exact hk
  · cases hk
theorem stepK_sim (hc : LeC c c') (hr : RelF n k s) (h : stepK c P G n ops o k = some (k', e)) : ∃ s', RelF n k' s' ∧ stepO c' P G ops o s = some (s', e) := by
  obtain ⟨h1, h2, h3, h4⟩ := hr
  unfold stepK at h
  split at h
  · rename_i v H e' hcore
    rw [h2] at hcore
    have hO := coreK_sim hc h1 hcore
    split at h
    · rename_i d hd
      split at h
      · rename_i hlt
        cases h
        refine ⟨putF o s v H e, ⟨?_, rfl, by simp only [putF, h3], by simp only [putF, h4]⟩, by unfold stepO; rw [hO]⟩
        simp only [putF, hd, putN_some]
        exact (h1.clean e.A).set (by rw [Nat.ble_eq] at hlt; exact hlt) v
      · cases h
    · rename_i hd
      cases h
      refine ⟨putF o s v H e, ⟨?_, rfl, by simp only [putF, h3], by simp only [putF, h4]⟩, by unfold stepO; rw [hO]⟩
      simp only [putF, hd, putN]
      exact h1.clean e.A
  · cases h
theorem stepPK_sim (hc : LeC c c') (hr : RelF n k s) {v : NV} (h : stepPK c G ops o k = some (v, k')) : ∃ s', RelF n k' s' ∧ stepP c' G ops o s = some (v, s') := by
  obtain ⟨h1, h2, h3, h4⟩ := hr
  unfold stepPK at h
  rw [evalK_eq h1] at h
  split at h
  · rename_i hw
    split at h
    · rename_i r hr
      cases h
      rw [h2] at hr
      refine ⟨⟨cleanT r.A s.t, r.H, unionT r.A s.A, unionT r.T s.T⟩, ⟨h1.clean r.A, rfl, by simp only [h3], by simp only [h4]⟩, ?_⟩
      unfold stepP
      rw [wantedK_sim h1 hw]
      simp only [opP_mono hc hr]
    · cases h
  · cases h
end

noncomputable def runLK (call : Caller) (P : Program) (G : Nat → NV) (n : Nat) (ops : Array Oper) : List Row → FSK → Option (FSK × List Ent)
  | [], k => some (k, [])
  | (i, o) :: os, k => match stepK call P G n ops o k with
    | some (k1, e) => match runLK call P G n ops os k1 with
      | some (k2, es) => some (k2, (i, o, e) :: es)
      | none => none
    | none => none
noncomputable def runPK (call : Caller) (P : Program) (G : Nat → NV) (n : Nat) (ops : Array Oper) : List Row → FSK → Option (Option NV × FSK)
  | [], k => some (none, k)
  | (i, o) :: os, k => match stepK call P G n ops o k with
    | some (k1, e) => runPK call P G n ops os k1
    | none => match stepPK call G ops o k with
      | some (v, k1) => some (some v, k1)
      | none => none
/-- Which of the later operations wait for none of the earlier: their places. -/
def places0 (preds : List (Nat × Nat)) (x : Row) : Nat → List Row → List Nat
  | _, [] => []
  | j, y :: ys => if inM (lookP preds y.1) x.1 then places0 preds x (j + 1) ys else j :: places0 preds x (j + 1) ys
def sparse (preds : List (Nat × Nat)) : List Row → List (List Nat)
  | [] => []
  | x :: xs => places0 preds x 0 xs :: sparse preds xs
def dynOK (ops : Array Oper) : List (List Nat) → List Ent → Bool
  | ns :: nss, x :: es => (ns.all fun j => match es[j]? with
      | some y => swapOK ops x.2 y.2
      | none => false) && dynOK ops nss es
  | [], [] => true
  | _, _ => false
def statOK (ops : Array Oper) : Bool := ((num 0 ops.toList).all fun x => (drawRows ops).any fun y => y.1 == x.1) && backOK [] (drawRows ops)
noncomputable def regionK (call : Caller) (P : Program) (G : Nat → NV) (n : Nat) (ops : Array Oper) (draw : Bool) (k : FSK) : Option (Option NV × FSK) :=
  if draw then
    match runLK call P G n ops (drawRows ops) k with
    | some (k', es) => if statOK ops = true then if dynOK ops (sparse (predsN (drawRows ops) []) (drawRows ops)) es = true then some (none, k') else none else none
    | none => none
  else runPK call P G n ops (num 0 ops.toList) k

theorem places0_mem {preds : List (Nat × Nat)} {x : Row} : ∀ (ys : List Row) (j i : Nat) (y : Row), ys[i]? = some y → inM (lookP preds y.1) x.1 = true ∨ j + i ∈ places0 preds x j ys := by
  intro ys
  induction ys with
  | nil => intro j i y h; simp at h
  | cons z ys ih =>
    intro j i y h
    simp only [places0]
    cases i with
    | zero =>
      simp only [List.getElem?_cons_zero, Option.some.injEq] at h
      subst h
      split
      · rename_i hc; exact .inl hc
      · exact .inr (by simp)
    | succ i =>
      have := ih (j + 1) i y (by simpa using h)
      rw [show j + 1 + i = j + (i + 1) by omega] at this
      split
      · exact this
      · exact this.imp id fun h => List.mem_cons_of_mem _ h
theorem dynOK_pairs {ops : Array Oper} {preds : List (Nat × Nat)} : ∀ (L : List Row) (es : List Ent), es.map (fun e => (e.1, e.2.1)) = L → dynOK ops (sparse preds L) es = true → pairsOK ops preds es = true := by
  intro L
  induction L with
  | nil => intro es he h; cases es with | nil => rfl | cons => cases he
  | cons x L ih =>
    intro es he h
    cases es with
    | nil => cases he
    | cons e es =>
      simp only [List.map_cons, List.cons.injEq] at he
      obtain ⟨hx, hL⟩ := he
      simp only [sparse, dynOK, Bool.and_eq_true] at h
      simp only [pairsOK, Bool.and_eq_true]
      refine ⟨List.all_eq_true.2 fun y hy => ?_, ih es hL h.2⟩
      obtain ⟨j, hj⟩ := List.getElem?_of_mem hy
      have hLj : L[j]? = some (y.1, y.2.1) := by rw [← hL, List.getElem?_map, hj]; rfl
      unfold pairOK
      rw [Bool.or_eq_true]
      rcases places0_mem (preds := preds) (x := x) L 0 j _ hLj with h1 | h1
      · left; rw [← hx] at h1; exact h1
      · right
        have := List.all_eq_true.1 h.1 _ h1
        rw [Nat.zero_add, hj] at this
        exact this
theorem runL_rows {call : Caller} {P : Program} {G : Nat → NV} {ops : Array Oper} : ∀ (rows : List Row) (s s' : FS) (es : List Ent), runL call P G ops rows s = some (s', es) → es.map (fun e => (e.1, e.2.1)) = rows := by
  intro rows
  induction rows with
  | nil => intro s s' es h; simp only [runL] at h; cases h; rfl
  | cons x rows ih =>
    intro s s' es h
    obtain ⟨i, o⟩ := x
    obtain ⟨s1, e, es1, h1, h2, rfl⟩ := runL_cons h
    simp only [List.map_cons, ih _ _ _ h2]
section
variable {c c' : Caller} {P : Program} {G : Nat → NV} {n : Nat} {ops : Array Oper}
theorem runLK_sim (hc : LeC c c') : ∀ (rows : List Row) (k k' : FSK) (es : List Ent) (s : FS), RelF n k s → runLK c P G n ops rows k = some (k', es) → ∃ s', RelF n k' s' ∧ runL c' P G ops rows s = some (s', es) := by
  intro rows
  induction rows with
  | nil => intro k k' es s hr h; simp only [runLK] at h; cases h; exact ⟨s, hr, rfl⟩
  | cons x rows ih =>
    intro k k' es s hr h
    obtain ⟨i, o⟩ := x
    simp only [runLK] at h
    split at h
    · rename_i k1 e h1
      split at h
      · rename_i k2 es2 h2
        cases h
        obtain ⟨s1, r1, q1⟩ := stepK_sim hc hr h1
        obtain ⟨s2, r2, q2⟩ := ih _ _ _ _ r1 h2
        exact ⟨s2, r2, runL_mk q1 q2⟩
      · cases h
    · cases h
theorem runPK_sim (hc : LeC c c') :
    ∀ (rows : List Row) (k k' : FSK) (x : Option NV) (s : FS), RelF n k s → runPK c P G n ops rows k = some (x, k') → ∃ s', RelF n k' s' ∧ runP c' P G ops rows s = some (x, s') := by
  intro rows
  induction rows with
  | nil => intro k k' x s hr h; simp only [runPK] at h; cases h; exact ⟨s, hr, rfl⟩
  | cons y rows ih =>
    intro k k' x s hr h
    obtain ⟨i, o⟩ := y
    simp only [runPK] at h
    split at h
    · rename_i k1 e h1
      obtain ⟨s1, r1, q1⟩ := stepK_sim hc hr h1
      obtain ⟨s2, r2, q2⟩ := ih _ _ _ _ r1 h
      exact ⟨s2, r2, by simp only [runP, q1]; exact q2⟩
    · rename_i h0
      split at h
      · rename_i v k1 h1
        cases h
        obtain ⟨s1, r1, q1⟩ := stepPK_sim hc hr h1
        exact ⟨s1, r1, by simp only [runP, stepP_stepO (P := P) q1, q1]⟩
      · cases h
end
end Go.Proofs.Eng
