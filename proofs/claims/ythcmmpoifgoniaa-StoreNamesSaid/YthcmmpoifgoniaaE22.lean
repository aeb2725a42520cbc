/- The engine, part 22: maps; bytes of a string; rows that are nil. -/
import Derived.Test.YthcmmpoifgoniaaE21R
set_option linter.unusedVariables false
set_option linter.unusedSimpArgs false
namespace Go.Proofs.Eng

def updL (kd : TypeDesc) (k : Value) (v : VV) : List (Value × VV) → Option (List (Value × VV))
  | [] => some [(k, v)]
  | (q, w) :: es =>
    match Instr.sameNow kd k q with
    | some true => some ((k, v) :: es)
    | some false => (updL kd k v es).map ((q, w) :: ·)
    | none => none
def delL (kd : TypeDesc) (k : Value) : List (Value × VV) → Option (List (Value × VV))
  | [] => some []
  | (q, w) :: es =>
    match Instr.sameNow kd k q with
    | some true => some es
    | some false => (delL kd k es).map ((q, w) :: ·)
    | none => none
def makeMapN (P : Program) (H : NH) (T : TypeId) (r : Option NV) : Option (NV × NH) :=
  match r with
  | none => some (.map H.length, H ++ [.map []])
  | some (.p (.v (.int _ _))) => match P.underlying T with
    | some (.map _ _) => some (.map H.length, H ++ [.map []])
    | _ => none
  | _ => none
def mapUpdateN (P : Program) (H : NH) (T : TypeId) (m k x : NV) : Option NH :=
  match P.underlying T, m, k, toVV x with
  | some (.map K _), .map id, .p (.v kv), some v =>
    match P.underlying K, H[id]? with
    | some kd, some (.map es) =>
      if simpleKey kd then match updL kd kv v es with
        | some es' => some (H.set id (.map es'))
        | none => none
      else none
    | _, _ => none
  | _, _, _, _ => none
def deleteN (P : Program) (H : NH) (ts : Array TypeId) (m k : NV) : Option NH :=
  match ts[0]? with
  | some T =>
    match P.underlying T, m, k with
    | some (.map K _), .map id, .p (.v kv) =>
      match P.underlying K, H[id]? with
      | some kd, some (.map es) =>
        if simpleKey kd then match delL kd kv es with
          | some es' => some (H.set id (.map es'))
          | none => none
        else none
      | _, _ => none
    | _, _, _ => none
  | none => none
def clearN (P : Program) (H : NH) (ts : Array TypeId) (m : NV) : Option NH :=
  match ts[0]?, m with
  | some T, .map id =>
    match P.underlying T, H[id]? with
    | some (.map _ _), some (.map _) => some (H.set id (.map []))
    | _, _ => none
  | _, _ => none
def strBytesN (P : Program) (H : NH) (src dst : TypeId) (x : NV) : Option (NV × NH) :=
  match P.underlying src, P.underlying dst, x with
  | some .string, some (.slice e), .p (.v (.string s)) =>
    match P.underlying e, tySz P e with
    | some (.int .u8), some 1 => some (.full H.length, H ++ [.prow e true 1 s.size (bytesG s)])
    | _, _ => none
  | _, _, _ => none
def nilN (P : Program) (H : NH) (T : TypeId) (x : NV) : Option (NV × NH) :=
  match P.underlying T, x with
  | some (.slice e), .p (.v (.slice none 0 0)) =>
    match elemOf P e with
    | some (s, _, z) => if pureTy P 8 e then some (.full H.length, H ++ [.prow e true s 0 fun _ => z]) else none
    | none => none
  | _, _ => none

section
variable {β : Beta} {H : NH} {P : Program} {W : World}

theorem makeMapN_run {T : TypeId} {r : NV} {x : Option NV} {a : Option Value} {H' : NH} (hst : St W.heap β H) (h : makeMapN P H T x = some (r, H')) (hx : RepO W.heap (Imm W.heap β H) β H x a) :
    ∃ v W' β', (Instr.makeMap T a).run P W = .ok v W' ∧ Step β H W β' H' W' none? ∧ Rep W'.heap (Imm W'.heap β' H') β' H' r v := by
  have hs1 := Step.alloc hst (.map #[] 0) (.map []) 0 (fun β' H' e1 e2 g => ⟨#[], 0, by simp, rfl, fun i k x e hx => by simp at hx, fun i e he => by simp at he, fun i j e e' he => by simp at he⟩)
  have hr : Rep (W.heap.push (.map #[] 0)) (Imm (W.heap.push (.map #[] 0)) (upd β H.length (some ⟨W.heap.size, 0, 0⟩)) (H ++ [.map []])) (upd β H.length (some ⟨W.heap.size, 0, 0⟩)) (H ++ [.map []]) (.map H.length) (.map (some W.heap.size)) :=
    .map _ ⟨W.heap.size, 0, 0⟩ (by simp) (upd_self _ _ _)
  unfold makeMapN at h
  split at h
  · cases h
    cases a with
    | some _ => exact hx.elim
    | none => exact ⟨_, _, _, by simp only [Instr.makeMap, Sem.run_bind, Sem.run_pure, run_newObj, Result.andThen_ok]; rfl, hs1, hr⟩
  · split at h
    · rename_i hu
      cases h
      cases a with
      | none => exact hx.elim
      | some y =>
        obtain rfl := Rep.v_inv hx
        refine ⟨_, _, _, ?_, hs1, hr⟩
        simp only [Instr.makeMap, Sem.run_bind, run_underlying hu, asInt, asIntOf, Sem.run_pure, run_newObj, Result.andThen_ok]
        rfl
    · cases h
  · cases h

theorem same_bits_any {kd : TypeDesc} {a b : Value} (n : Nat) (h : Instr.sameNow kd a b = some true) : Instr.sameBits n b a = true := by
  unfold Instr.sameNow at h
  split at h
  · split at h
    · rename_i k x k' y hk
      simp only [Option.some.injEq, beq_iff_eq] at h
      subst hk; subst h
      cases n <;> simp [Instr.sameBits]
    · cases h
  · rename_i x y
    simp only [Option.some.injEq] at h
    rw [beq_toListBytes, beq_iff_eq] at h
    have h' : (y == x) = true := by rw [beq_toListBytes, beq_iff_eq]; exact h.symm
    cases n <;> simp [Instr.sameBits, h']
  · rename_i x y
    simp only [Option.some.injEq, beq_iff_eq] at h
    subst h
    cases n <;> simp [Instr.sameBits]
  · cases h
theorem same_bits {kd : TypeDesc} {a b : Value} (h : Instr.sameNow kd a b = some true) : Instr.sameBits 10000 b a = true := same_bits_any _ h
/-- Of an update: what is found, and what becomes of the entries. -/
theorem updL_run {kd : TypeDesc} {k : Value} {v : VV} : ∀ (es es' : List (Value × VV)) (me : List MapEntry) (n : Nat), updL kd k v es = some es' → me.length = es.length → (∀ (i : Nat) (q : Value × VV) (e : MapEntry), es[i]? = some q → me[i]? = some e → e.key = q.1) →
    (Instr.findNow kd k me n = some none ∧ es' = es ++ [(k, v)]) ∨ (∃ i u e, Instr.findNow kd k me n = some (some (n + i, u)) ∧ me[i]? = some e ∧ Instr.sameBits 10000 e.key k = true ∧ es' = es.set i (k, v)) := by
  intro es
  induction es with
  | nil =>
    intro es' me n h hl hk
    obtain rfl : me = [] := List.eq_nil_of_length_eq_zero hl
    simp only [updL] at h
    cases h
    exact .inl ⟨rfl, rfl⟩
  | cons q es ih =>
    intro es' me n h hl hk
    obtain ⟨q, w⟩ := q
    cases me with
    | nil => simp at hl
    | cons e me =>
      have he := hk 0 (q, w) e rfl rfl
      simp only at he
      simp only [updL] at h
      simp only [Instr.findNow, he]
      split at h
      · rename_i hs
        cases h
        exact .inr ⟨0, e.val, e, by rw [hs]; rfl, rfl, by rw [he]; exact same_bits hs, rfl⟩
      · rename_i hs
        rw [Option.map_eq_some_iff] at h
        obtain ⟨r, hr, rfl⟩ := h
        rw [hs]
        rcases ih r me (n + 1) hr (by simpa using hl) (fun i p e' h1 h2 => hk (i + 1) p e' (by simpa using h1) (by simpa using h2)) with ⟨g1, g2⟩ | ⟨i, u, e', g1, g2, g3, g4⟩
        · exact .inl ⟨g1, by rw [g2]; rfl⟩
        · exact .inr ⟨i + 1, u, e', by rw [← Nat.add_assoc, Nat.add_right_comm]; exact g1, by simpa using g2, g3, by rw [g4]; rfl⟩
      · cases h
theorem delL_run {kd : TypeDesc} {k : Value} : ∀ (es es' : List (Value × VV)) (me : List MapEntry) (n : Nat), delL kd k es = some es' → me.length = es.length → (∀ (i : Nat) (q : Value × VV) (e : MapEntry), es[i]? = some q → me[i]? = some e → e.key = q.1) →
    (Instr.findNow kd k me n = some none ∧ es' = es) ∨ (∃ i u, Instr.findNow kd k me n = some (some (n + i, u)) ∧ i < me.length ∧ es' = es.eraseIdx i) := by
  intro es
  induction es with
  | nil =>
    intro es' me n h hl hk
    obtain rfl : me = [] := List.eq_nil_of_length_eq_zero hl
    simp only [delL] at h
    cases h
    exact .inl ⟨rfl, rfl⟩
  | cons q es ih =>
    intro es' me n h hl hk
    obtain ⟨q, w⟩ := q
    cases me with
    | nil => simp at hl
    | cons e me =>
      have he := hk 0 (q, w) e rfl rfl
      simp only at he
      simp only [delL] at h
      simp only [Instr.findNow, he]
      split at h
      · rename_i hs
        cases h
        exact .inr ⟨0, e.val, by rw [hs]; rfl, by simp, rfl⟩
      · rename_i hs
        rw [Option.map_eq_some_iff] at h
        obtain ⟨r, hr, rfl⟩ := h
        rw [hs]
        rcases ih r me (n + 1) hr (by simpa using hl) (fun i p e' h1 h2 => hk (i + 1) p e' (by simpa using h1) (by simpa using h2)) with ⟨g1, g2⟩ | ⟨i, u, g1, g2, g3⟩
        · exact .inl ⟨g1, by rw [g2]⟩
        · exact .inr ⟨i + 1, u, by rw [← Nat.add_assoc, Nat.add_right_comm]; exact g1, by simp; omega, by rw [g3]; rfl⟩
      · cases h

/-- A map is another one, in its block. -/
theorem Step.putMap {id : Nat} {es es' : List (Value × VV)} {l : Loc} {me' : Array MapEntry} {clock' : Nat} (hst : St W.heap β H) (hid : H[id]? = some (.map es)) (hl : β id = some l) (hsz : me'.size = es'.length)
    (he : ∀ (i : Nat) (k : Value) (x : VV) (e : MapEntry), es'[i]? = some (k, x) → me'[i]? = some e → e.key = k ∧ PV W.heap (Imm W.heap β H) x e.val)
    (hb : (∀ (i : Nat) (e : MapEntry), me'[i]? = some e → e.born < clock') ∧ (∀ (i j : Nat) (e e' : MapEntry), me'[i]? = some e → me'[j]? = some e' → e.born = e'.born → i = j)) :
    Step β H W β (H.set id (.map es')) (atHeap W (W.heap.setIfInBounds l.b (.map me' clock'))) none? := by
  obtain ⟨me, clock, g1, _⟩ := (hst.obj id _ hid).at hl
  refine Step.put hst hid hl rfl rfl trivial fun H' e g => ⟨me', clock', Array.getElem?_setIfInBounds_self_of_lt (Array.getElem?_eq_some_iff.1 g1).1, hsz, fun i k x e h1 h2 => ?_, hb⟩
  exact ⟨(he i k x e h1 h2).1, (he i k x e h1 h2).2.mono g.ext.imm⟩
theorem setObj_run {b : Nat} {o : Obj} {me : Array MapEntry} {clock : Nat} (h : W.heap[b]? = some (.map me clock)) : (setObj b o).run P W = .ok () (atHeap W (W.heap.setIfInBounds b o)) := by
  simp only [setObj, Sem.run, h]; rfl
theorem mapUpdateN_run {T : TypeId} {m k x : NV} {a b c : Value} {H' : NH} (hst : St W.heap β H) (h : mapUpdateN P H T m k x = some H') (hm : (Rep W.heap (Imm W.heap β H) β H) m a) (hk : (Rep W.heap (Imm W.heap β H) β H) k b) (hx : (Rep W.heap (Imm W.heap β H) β H) x c) :
    ∃ W', (Instr.mapUpdate T a b c).run P W = .ok () W' ∧ Step β H W β H' W' none? := by
  unfold mapUpdateN at h
  split at h
  · rename_i K E id kv v hu hv
    obtain rfl := hk.v_inv
    have hpv := toVV_rep hv hx
    split at h
    · rename_i kd es hkd ho
      split at h
      · rename_i hsk
        split at h
        · rename_i es' hup
          cases h
          cases hm with
          | map _ l hid hl =>
            obtain ⟨me, clock, g1, g2, g3, g4, g5⟩ := (hst.obj id _ ho).at hl
            have hg : (getObj l.b).run P W = .ok (.map me clock) W := by simp only [getObj, Sem.run, g1]
            have hfk : ∀ q, Instr.findNow kd b me.toList 0 = some q → (Instr.findKey K b me.toList).run P W = .ok q W := fun q hq => by
              simp only [Instr.findKey, Sem.run_bind, run_underlying hkd, Result.andThen_ok, hq, Sem.run_pure]
            rcases updL_run es es' me.toList 0 hup (by simpa using g2) (fun i q e h1 h2 => (g3 i q.1 q.2 e h1 (by simpa using h2)).1) with ⟨f1, rfl⟩ | ⟨i, u, e, f1, f2, f3, rfl⟩
            · refine ⟨_, ?_, Step.putMap (me' := me.push { key := b, val := c, born := clock }) (clock' := clock + 1) hst ho hl (by simp [g2]) (fun i k x e h1 h2 => ?_) ⟨fun i e h1 => ?_, fun i j e e' h1 h2 hbe => ?_⟩⟩
              · simp only [Instr.mapUpdate, Sem.run_bind, run_underlying hu, Result.andThen_ok, hg, simpleKey_run hkd hsk, hfk _ f1]
                exact setObj_run g1
              · rw [Array.getElem?_push] at h2
                by_cases hi : i = me.size
                · rw [if_pos hi] at h2
                  rw [hi, g2] at h1
                  simp at h1
                  cases h2
                  obtain ⟨rfl, rfl⟩ := h1
                  exact ⟨rfl, hpv⟩
                · rw [if_neg hi] at h2
                  have hlt := (Array.getElem?_eq_some_iff.1 h2).1
                  rw [List.getElem?_append_left (by omega)] at h1
                  exact g3 i k x e h1 h2
              · rw [Array.getElem?_push] at h1
                split at h1
                · cases h1; exact Nat.lt_succ_self _
                · exact Nat.lt_succ_of_lt (g4 i e h1)
              · rw [Array.getElem?_push] at h1 h2
                split at h1 <;> split at h2
                · omega
                · cases h1; have := g4 j e' h2; simp only at hbe; omega
                · cases h2; have := g4 i e h1; simp only at hbe; omega
                · exact g5 i j e e' h1 h2 hbe
            · simp only [Nat.zero_add] at f1
              have f2' : me[i]? = some e := by simpa using f2
              have hkey : ((me[i]?).map (·.key)).getD b = e.key := by rw [f2']; rfl
              refine ⟨_, ?_, Step.putMap (me' := me.modify i fun e => { e with key := b, val := c }) (clock' := clock) hst ho hl (by simp [g2]) (fun j k x e' h1 h2 => ?_) ⟨fun j e' h1 => ?_, fun j j' e1 e2 h1 h2 hbe => ?_⟩⟩
              · simp only [Instr.mapUpdate, Sem.run_bind, run_underlying hu, Result.andThen_ok, hg, simpleKey_run hkd hsk, hfk _ f1, hkey, Instr.keyThatStays, f3, if_true, Sem.run_pure]
                exact setObj_run g1
              · rw [Array.getElem?_modify] at h2
                by_cases hij : i = j
                · subst hij
                  rw [if_pos rfl, f2', Option.map_some] at h2
                  cases h2
                  have hlt : i < es.length := by rw [← g2]; exact (Array.getElem?_eq_some_iff.1 f2').1
                  rw [List.getElem?_set_self hlt] at h1
                  cases h1
                  exact ⟨rfl, hpv⟩
                · rw [if_neg hij] at h2
                  rw [List.getElem?_set_ne hij] at h1
                  exact g3 j k x e' h1 h2
              · rw [Array.getElem?_modify] at h1
                split at h1
                · rename_i hij
                  subst hij
                  rw [f2', Option.map_some] at h1
                  cases h1
                  exact g4 i e f2'
                · exact g4 j e' h1
              · have hborn : ∀ (j : Nat) (e' : MapEntry), (me.modify i fun e => { e with key := b, val := c })[j]? = some e' → ∃ e0, me[j]? = some e0 ∧ e0.born = e'.born := fun j e' hj => by
                  rw [Array.getElem?_modify] at hj
                  split at hj
                  · rename_i hij
                    subst hij
                    rw [f2', Option.map_some] at hj
                    cases hj
                    exact ⟨e, f2', rfl⟩
                  · exact ⟨e', hj, rfl⟩
                obtain ⟨q1, p1, p2⟩ := hborn j e1 h1
                obtain ⟨q2, p3, p4⟩ := hborn j' e2 h2
                exact g5 j j' q1 q2 p1 p3 (by rw [p2, p4, hbe])
        · cases h
      · cases h
    · cases h
  · cases h
end
end Go.Proofs.Eng
