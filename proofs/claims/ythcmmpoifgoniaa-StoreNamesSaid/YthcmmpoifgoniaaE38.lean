/- The engine, part 38: maps: a copy of one, and its keys, sorted. -/
import Derived.Test.YthcmmpoifgoniaaE37
import Derived.MapKept
import Derived.Sort.KeysCollected
import Derived.Laws.AppendOwn
set_option linter.unusedVariables false
set_option linter.unusedSimpArgs false
namespace Go.Proofs.Eng
open Go.RowKit Go.Sort

/-- What a call leaves that wrote no block that lay: a new object may lie in a new block. -/
theorem Step.newBelow {W W' : World} {β : Beta} {H : NH} (h : St W.heap β H) (hb : Below W.heap.size W W') (o : NO) (x : Loc) (hx : W.heap.size ≤ x.b) (hx' : x.b < W'.heap.size)
    (ho : ∀ β' H', β' = upd β H.length (some x) → H' = H ++ [o] → Good W.heap β H W'.heap β' H' none? → ObjAt W'.heap (Imm W'.heap β' H') β' H' x o) :
    Step β H W (upd β H.length (some x)) (H ++ [o]) W' none? := by
  have g : Good W.heap β H W'.heap (upd β H.length (some x)) (H ++ [o]) none? := by
    refine ⟨⟨?_, hb.size⟩, fun id hid _ => ⟨by simp; omega, .inl (upd_ne (by omega)), by rw [List.getElem?_append_left hid]; exact Shape.refl _⟩, fun id q l h1 h2 h3 => ?_⟩
    case refine_2 =>
      by_cases he : id = H.length
      · subst he; rw [upd_self] at h3; cases h3; exact .inr fun hi => absurd hi.1 (by omega)
      · rw [upd_ne he] at h3
        have hlt : id < H.length := by have := (List.getElem?_eq_some_iff.1 h1).1; simp at this; omega
        rw [List.getElem?_append_left hlt] at h1
        exact .inl ⟨q, h1, h2, h3⟩
    rintro b ⟨hb1, hn⟩
    refine ⟨⟨Nat.lt_of_lt_of_le hb1 hb.size, ?_⟩, hb.block b hb1⟩
    rintro ⟨id, q, y, hi, hw, hy, rfl⟩
    by_cases he : id = H.length
    · subst he; rw [upd_self] at hy; cases hy; omega
    · rw [upd_ne he] at hy
      have hlt : id < H.length := by have := (List.getElem?_eq_some_iff.1 hi).1; simp at this; omega
      rw [List.getElem?_append_left hlt] at hi
      exact hn ⟨id, q, y, hi, hw, hy, rfl⟩
  obtain ⟨s1, s2⟩ := h.new (hp' := W'.heap) o (some x) hb.size (fun b hb' => hb.block b hb') (fun y hy => by cases hy; exact hx) (.mk (upd_self _ _ _) (ho _ _ rfl rfl g))
  exact ⟨s1, s2, ⟨hb.os, hb.tape, hb.output⟩⟩
theorem below_step {W W' : World} {β : Beta} {H : NH} (h : St W.heap β H) (hb : Below W.heap.size W W') : Step β H W β H W' none? :=
  step_below h hb.block hb.size ⟨hb.os, hb.tape, hb.output⟩

/-! A copy of a map. -/
def cloneN : Hook := fun xs H =>
  match xs with
  | [.map id] => match H[id]? with
    | some (.map es) => some ⟨false, .map H.length, H ++ [.map es], [], []⟩
    | _ => none
  | [.p (.v (.map none))] => some ⟨false, .p (.v (.map none)), H, [], []⟩
  | _ => none
theorem frame_app {H : NH} {o : NO} {id : Nat} (h : id < H.length) : (H ++ [o])[id]? = H[id]? := List.getElem?_append_left h
theorem clone_hook {P : Program} {G : Nat → NV} {f : FuncId} (hent : ∀ args W, (callFunc f args).run P W = .ok (.enter f args) W)
    (hc : ∀ (b : Nat) (es : Array MapEntry) (clock : Nat) (w : World), w.heap[b]? = some (.map es clock) → Calls P f #[.map (some b)] w fun e w' => e = .returned (.map (some w.heap.size)) ∧ w' = w.alloc (.map es clock))
    (hn : ∀ w : World, Calls P f #[.map none] w fun e w' => e = .returned (.map none) ∧ w' = w) : HookOK P G f cloneN := by
  constructor
  · intro xs H o h W β ys hst hG hr
    unfold cloneN at h
    split at h
    · rename_i id
      obtain ⟨y, rfl, hy⟩ := repL_one hr
      split at h
      · rename_i es ho
        cases h
        cases hy with
        | map _ l hid hl =>
          obtain ⟨me, clock, h1, h2, h3, h4, h5⟩ := (hst.obj id _ ho).at hl
          refine ⟨hent _ _, (hc l.b me clock W h1).mono fun e w' he => ?_⟩
          obtain ⟨rfl, rfl⟩ := he
          refine ⟨rfl, upd β H.length (some ⟨W.heap.size, 0, 0⟩), ?_, ?_⟩
          · rw [maskL_nil]
            refine Step.alloc hst (.map me clock) _ _ fun β' H' e1 e2 g => ?_
            exact ⟨me, clock, by simp, h2, fun i k x e hx he => ⟨(h3 i k x e hx he).1, (h3 i k x e hx he).2.mono g.ext.imm⟩, h4, h5⟩
          · exact .map _ ⟨W.heap.size, 0, 0⟩ (by simp) (upd_self _ _ _)
      · cases h
    · obtain ⟨y, rfl, hy⟩ := repL_one hr
      cases h
      have := hy.v_inv
      subst this
      refine ⟨hent _ _, (hn W).mono fun e w' he => ?_⟩
      obtain ⟨rfl, rfl⟩ := he
      exact ⟨rfl, β, by rw [maskL_nil]; exact Step.refl hst, .p _ _ (.v _)⟩
    · cases h
  · intro xs H o h hA id hid hlt
    unfold cloneN at h
    split at h
    · split at h
      · cases h; exact frame_app hlt
      · cases h
    · cases h; rfl
    · cases h

/-! The keys of a map, sorted. -/
def keyS : List (Value × VV) → Option (List ByteArray)
  | [] => some []
  | (.string s, _) :: l => match keyS l with
    | some ks => if Nat.ble s.size 1000 then some (s :: ks) else none
    | none => none
  | _ => none
def noDup : List ByteArray → Bool
  | [] => true
  | x :: xs => !(xs.any fun y => y.data.toList == x.data.toList) && noDup xs
def leL : List UInt8 → List UInt8 → Bool
  | [], _ => true
  | _ :: _, [] => false
  | x :: xs, y :: ys => if Nat.blt x.toNat y.toNat then true else if Nat.beq x.toNat y.toNat then leL xs ys else false
def insB (x : ByteArray) : List ByteArray → List ByteArray
  | [] => [x]
  | y :: ys => if leL x.data.toList y.data.toList then x :: y :: ys else y :: insB x ys
def isortB : List ByteArray → List ByteArray
  | [] => []
  | x :: xs => insB x (isortB xs)
theorem leL_iff : ∀ (x y : List UInt8), leL x y = true ↔ x ≤ y
  | [], y => by simp [leL]
  | x :: xs, [] => by simp [leL]
  | x :: xs, y :: ys => by
    simp only [leL]
    rw [List.cons_le_cons_iff]
    have e1 : (x.toNat.blt y.toNat = true) ↔ x < y := by rw [Nat.blt_eq]; exact Iff.rfl
    have e2 : (x.toNat.beq y.toNat = true) ↔ x = y := by rw [Nat.beq_eq]; exact UInt8.toNat_inj
    by_cases h1 : x < y
    · rw [if_pos (e1.2 h1)]; simp [h1]
    · rw [if_neg (fun h => h1 (e1.1 h))]
      by_cases h2 : x = y
      · rw [if_pos (e2.2 h2), leL_iff xs ys]; simp [h1, h2]
      · rw [if_neg (fun h => h2 (e2.1 h))]; simp [h1, h2]
theorem insB_perm (x : ByteArray) : ∀ l, (insB x l).Perm (x :: l)
  | [] => .refl _
  | y :: ys => by
    simp only [insB]
    split
    · exact .refl _
    · exact ((insB_perm x ys).cons y).trans (List.Perm.swap x y ys)
theorem isortB_perm : ∀ l, (isortB l).Perm l
  | [] => .refl _
  | x :: xs => (insB_perm x _).trans ((isortB_perm xs).cons x)
theorem insB_sorted (x : ByteArray) : ∀ l, l.Pairwise (fun a b => leL a.data.toList b.data.toList = true) → (insB x l).Pairwise (fun a b => leL a.data.toList b.data.toList = true)
  | [], _ => by simp [insB]
  | y :: ys, h => by
    simp only [insB]
    obtain ⟨h1, h2⟩ := List.pairwise_cons.1 h
    split
    · rename_i hxy
      refine List.pairwise_cons.2 ⟨fun z hz => ?_, h⟩
      rcases List.mem_cons.1 hz with rfl | hz
      · exact hxy
      · exact (leL_iff _ _).2 (List.le_trans ((leL_iff _ _).1 hxy) ((leL_iff _ _).1 (h1 z hz)))
    · rename_i hxy
      refine List.pairwise_cons.2 ⟨fun z hz => ?_, insB_sorted x ys h2⟩
      rcases List.mem_cons.1 ((insB_perm x ys).mem_iff.1 hz) with rfl | hz
      · rcases List.le_total z.data.toList y.data.toList with h' | h'
        · exact absurd ((leL_iff _ _).2 h') hxy
        · exact (leL_iff _ _).2 h'
      · exact h1 z hz
theorem isortB_sorted : ∀ l, (isortB l).Pairwise (fun a b => leL a.data.toList b.data.toList = true)
  | [] => by simp [isortB]
  | x :: xs => insB_sorted x _ (isortB_sorted xs)
theorem isortB_eq {l : List ByteArray} {ss : List (List UInt8)} (h : ss.Perm (l.map (·.data.toList))) : ss.mergeSort leB = (isortB l).map (·.data.toList) := by
  rw [mergeSort_of_perm (h.trans ((isortB_perm l).map _).symm)]
  refine List.mergeSort_of_pairwise ?_
  rw [List.pairwise_map]
  exact (isortB_sorted l).imp fun {a b} hab => by simp only [leB, decide_eq_true_eq]; exact (leL_iff _ _).1 hab
theorem noDup_nodup : ∀ {l : List ByteArray}, noDup l = true → l.Nodup
  | [], _ => .nil
  | x :: xs, h => by
    simp only [noDup, Bool.and_eq_true, Bool.not_eq_true', List.any_eq_false] at h
    exact List.nodup_cons.2 ⟨fun hx => by simpa using h.1 x hx, noDup_nodup h.2⟩
theorem keyS_eq : ∀ {es : List (Value × VV)} {ks : List ByteArray}, keyS es = some ks → es.map (·.1) = ks.map .string ∧ ∀ s ∈ ks, s.size ≤ 1000
  | [], ks, h => by cases h; simp
  | (k, x) :: l, ks, h => by
    cases k <;> simp only [keyS] at h <;> try (cases h; done)
    rename_i s
    split at h
    · rename_i ks' he
      split at h
      · rename_i hs
        cases h
        obtain ⟨h1, h2⟩ := keyS_eq he
        exact ⟨by simp [h1], fun t ht => by
          rcases List.mem_cons.1 ht with rfl | ht
          · exact Nat.le_of_ble_eq_true hs
          · exact h2 t ht⟩
      · cases h
    · cases h
def rowS (ks : List ByteArray) : List NV := ks.map fun s => .p (.v (.string s))
/-- slices.Sorted over maps.Keys' function k, of a map that lies. -/
def sortedN (k : FuncId) (T : TypeId) : Hook := fun xs H =>
  match xs with
  | [.fn (.func k') [] [.ptr r 0]] => if k' = k then match H[r]? with
    | some (.row _ _ [.map m]) => match H[m]? with
      | some (.map es) => match keyS es with
        | some ks => if noDup ks && Nat.ble ks.length 1000 then match isortB ks with
          | [] => some ⟨false, .p (.v (.slice none 0 0)), H, [], []⟩
          | s :: l => some ⟨false, .full H.length, H ++ [.row T 1 (rowS (s :: l))], [], []⟩
          else none
        | none => none
      | _ => none
    | _ => none
    else none
  | _ => none
end Go.Proofs.Eng
