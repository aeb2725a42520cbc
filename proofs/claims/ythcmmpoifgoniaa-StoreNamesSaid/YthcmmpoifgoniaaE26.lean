/- The engine, part 26: what a reading operation looks at; an operation, in the world. -/
import Derived.Test.YthcmmpoifgoniaaE25
import Derived.RangeFuncIn
import Derived.RangeFuncLeaves
import Derived.RangeFuncRecord
import Derived.OrdersIn
import Derived.LoopNIn
set_option linter.unusedVariables false
set_option linter.unusedSimpArgs false
namespace Go.Proofs.Eng

section
variable {P : Program} {H H' : NH} {x : NV}
theorem srcN_frame (h : ∀ id ∈ refV x, H'[id]? = H[id]?) : srcN H' x = srcN H x := by
  unfold srcN
  cases x with
  | p v => cases v <;> rfl
  | full id => simp only [h id (by simp [refV])]
  | part id off len e => simp only [h id (by simp [refV])]
  | _ => rfl
theorem loadN_frame {T : TypeId} (h : ∀ id ∈ refV x, H'[id]? = H[id]?) : loadN P H' T x = loadN P H T x := by
  unfold loadN
  cases x <;> simp_all [refV]
theorem lenH_frame {T : TypeId} (h : ∀ id ∈ refV x, H'[id]? = H[id]?) : lenH P H' T x = lenH P H T x := by
  unfold lenH
  generalize P.underlying T = u
  cases u with
  | none => rfl
  | some d => cases d <;> cases x <;> first | rfl | (simp_all [refV]; done)
theorem indexAddrH_frame {T : TypeId} {ix : NV} (h : ∀ id ∈ refV x, H'[id]? = H[id]?) : indexAddrH P H' T x ix = indexAddrH P H T x ix := by
  unfold indexAddrH
  cases x <;> simp_all [refV]
theorem sliceH_frame {T : TypeId} {lo hi mx : Option NV} (h : ∀ id ∈ refV x, H'[id]? = H[id]?) : sliceH P H' T x lo hi mx = sliceH P H T x lo hi mx := by
  unfold sliceH
  cases x <;> simp_all [refV]
theorem bytesN_frame {s d : TypeId} (h : ∀ id ∈ refV x, H'[id]? = H[id]?) : bytesN P H' s d x = bytesN P H s d x := by
  unfold bytesN
  cases x with
  | p v =>
    cases v with
    | v y =>
      cases y with
      | slice A l c => cases A <;> rfl
      | _ => rfl
    | _ => rfl
  | full id => simp only [srcN, h id (by simp [refV])]
  | part id off len e => simp only [srcN, h id (by simp [refV])]
  | _ => rfl
theorem sliceDataN_frame (h : ∀ id ∈ refV x, H'[id]? = H[id]?) : sliceDataN H' x = sliceDataN H x := by
  unfold sliceDataN
  cases x with
  | p v =>
    cases v with
    | v y =>
      cases y with
      | slice A l c => cases A <;> rfl
      | _ => rfl
    | _ => rfl
  | full id => simp only [h id (by simp [refV])]
  | _ => rfl
theorem nonNilN_frame (h : ∀ id ∈ refV x, H'[id]? = H[id]?) : nonNilN H' x = nonNilN H x := by
  unfold nonNilN
  cases x with
  | p v => cases v <;> rfl
  | full id => simp only [h id (by simp [refV])]
  | _ => rfl
theorem cmpNilN_frame {op : BinOp} {T : TypeId} {y : NV} (h : ∀ id ∈ refV x ++ refV y, H'[id]? = H[id]?) : cmpNilN P H' op T x y = cmpNilN P H op T x y := by
  unfold cmpNilN
  rw [nonNilN_frame fun id hid => h id (List.mem_append_left _ hid), nonNilN_frame fun id hid => h id (List.mem_append_right _ hid)]
theorem lookupN_frame {T : TypeId} {k : NV} {ok : Bool} (h : ∀ id ∈ refV x, H'[id]? = H[id]?) : lookupN P H' T x k ok = lookupN P H T x k ok := by
  unfold lookupN
  cases x with
  | p v =>
    cases v with
    | v y =>
      cases y with
      | map A => cases A <;> rfl
      | _ => rfl
    | _ => rfl
  | map id => simp only [h id (by simp [refV])]
  | _ => rfl
theorem readN_frame {ev : Operand → NV} {op : Op} (h : ∀ id ∈ readIds ev op, H'[id]? = H[id]?) : readN P H' ev op = readN P H ev op := by
  unfold readN
  cases op with
  | load T x => exact loadN_frame h
  | indexAddr T x ix => exact indexAddrH_frame h
  | slice T x lo hi mx => exact sliceH_frame h
  | convert s d x => exact bytesN_frame h
  | lookup T x k ok => exact lookupN_frame h
  | binOp op T x y yT => exact cmpNilN_frame h
  | call c =>
    simp only [readIds] at h
    simp only
    split
    · cases ha : c.args.toList with
      | nil => rfl
      | cons x xs =>
        rw [ha] at h
        cases xs with
        | nil =>
          cases c.argTypes[0]? with
          | none => rfl
          | some T => exact lenH_frame fun id hid => h id (by simp [refL, hid])
        | cons y ys => rfl
    · cases ha : c.args.toList with
      | nil => rfl
      | cons x xs =>
        rw [ha] at h
        cases xs with
        | nil => exact sliceDataN_frame fun id hid => h id (by simp [refL, hid])
        | cons y ys => rfl
    · rfl
  | _ => rfl
end

/-- A function gives, or throws. -/
def Gives (P : Program) (f : FuncId) (args : Array Value) (W : World) (p : Bool) (K : Value → World → Prop) : Prop :=
  (callFunc f args).run P W = .ok (.enter f args) W ∧ Calls P f args W fun
    | .returned v, w => p = false ∧ K v w
    | .panicked c, w => p = true ∧ ∃ v, c = [{ v, recovered := false }] ∧ K v w
    | .outgrown, _ => False
theorem Gives.mono {P : Program} {f : FuncId} {args : Array Value} {W : World} {p : Bool} {K K' : Value → World → Prop} (h : Gives P f args W p K) (hk : ∀ v w, K v w → K' v w) : Gives P f args W p K' := by
  obtain ⟨h1, h2⟩ := h
  refine ⟨h1, h2.mono fun e w he => ?_⟩
  cases e with
  | returned v => exact ⟨he.1, hk _ _ he.2⟩
  | panicked c => obtain ⟨h3, v, h4, h5⟩ := he; exact ⟨h3, v, h4, hk _ _ h5⟩
  | outgrown => exact he

/-- The open fence, in a round. -/
def fen (r : Option Nat) : Fence := { Fence.wide with round := r }
theorem calls_fen {r : Option Nat} {n : Nat} {P : Program} {f : FuncId} {args : Array Value} {w : World} {R : Ending → World → Prop} : CallsIn (fen r) n P f args w R ↔ Calls P f args w R :=
  callsIn_wide (n := n)
theorem round_fen {r : Option Nat} {n : Nat} {P : Program} {l : Nat} {f : FuncId} {tmps : Array Value} {assign body : Code} {w : World} {R : Ending → World → Prop}
    (h : RoundIn Fence.wide n P l f tmps assign body w R) : RoundIn (fen r) n P l f tmps assign body w R := h
/-- A round of a loop gives. -/
def GivesY (P : Program) (l : Nat) (args : Array Value) (W : World) (p : Bool) (K : Value → World → Prop) : Prop :=
  p = false ∧ ∃ f tmps assign body, (Instr.yield l args).run P W = .ok (.round l f tmps assign body) W ∧ ∀ n, RoundIn Fence.wide n P l f tmps assign body W fun
    | .returned v, w => K v w
    | _, _ => False

/-- The answers are true. -/
structure CallOK (P : Program) (G : Nat → NV) (call : Caller) : Prop where
  gives : ∀ (f : FuncId) (xs : List NV) (H : NH) (o : COut), call (.fn f) xs H = some o → ∀ (W : World) (β : Beta) (ys : Array Value), St W.heap β H → RepG W.heap (Imm W.heap β H) β H G →
    RepL W.heap (Imm W.heap β H) β H xs ys.toList →
    Gives P f ys W o.p fun v W' => ∃ β', Step β H W β' o.H W' (maskL o.A) ∧ Rep W'.heap (Imm W'.heap β' o.H) β' o.H o.v v
  givesY : ∀ (id : Nat) (xs : List NV) (H : NH) (o : COut), call (.yld id) xs H = some o → ∀ (W : World) (β : Beta) (ys : Array Value) (l : Loc), St W.heap β H → RepG W.heap (Imm W.heap β H) β H G →
    RepL W.heap (Imm W.heap β H) β H xs ys.toList → β id = some l →
    GivesY P l.b ys W o.p fun v W' => ∃ β', Step β H W β' o.H W' (maskL o.A) ∧ Rep W'.heap (Imm W'.heap β' o.H) β' o.H o.v v
  frame : ∀ (f : Tgt) (xs : List NV) (H : NH) (o : COut), call f xs H = some o → o.A = [] → ∀ id, id ∉ o.T → id < H.length → o.H[id]? = H[id]?

theorem maskL_optL (A : Option Nat) : maskL (optL A) = maskA A := by
  funext i
  cases A with
  | none => simp [maskL, optL, maskA, none?]
  | some j =>
    simp only [maskL, optL, maskA, only, List.contains_cons, List.contains_nil, Bool.or_false]
    try rfl
theorem maskL_nil : maskL [] = none? := by funext i; simp [maskL, none?]
theorem mem_unionT {i : Nat} : ∀ {new old : List Nat}, i ∈ unionT new old ↔ i ∈ new ∨ i ∈ old := by
  intro new
  induction new with
  | nil => intro old; simp [unionT]
  | cons j new ih =>
    intro old
    simp only [unionT, ih, List.mem_cons]
    split
    · rename_i hc
      have : j ∈ old := by simpa using hc
      constructor
      · rintro (h | h) <;> simp [h]
      · rintro ((rfl | h) | h)
        · exact .inr this
        · exact .inl h
        · exact .inr h
    · simp only [List.mem_cons]
      constructor
      · rintro (h | rfl | h) <;> simp_all
      · rintro ((rfl | h) | h) <;> simp_all
theorem maskL_union (A B : List Nat) : maskL (unionT A B) = fun i => maskL B i || maskL A i := by
  funext i
  rw [Bool.eq_iff_iff]
  simp only [maskL, Bool.or_eq_true, List.contains_iff_mem, mem_unionT]
  exact Or.comm
theorem unionT_nil {A B : List Nat} (h : unionT A B = []) : A = [] ∧ B = [] := by
  constructor <;> (rw [List.eq_nil_iff_forall_not_mem]; intro i hi; have : i ∈ unionT A B := mem_unionT.2 (by simp [hi]); rw [h] at this; simp at this)

section
variable {β : Beta} {H : NH} {P : Program} {W : World} {G : Nat → NV} {call : Caller}

/-- What an operation brings about. -/
def Does (P : Program) (o : Oper) (a : Act) (W : World) (K : Value → World → Prop) : Prop :=
  (∀ c, o.op ≠ .defer c) ∧
  ((∃ v W', (execOp a.eval o).run P W = .ok (.value v) W' ∧ K v W') ∨
  (∃ W', (execOp a.eval o).run P W = .ok .skip W' ∧ K undef W') ∨
  (∃ f args W', (execOp a.eval o).run P W = .ok (.enter f args) W' ∧ Calls P f args W' fun | .returned v, w => K v w | _, _ => False) ∨
  (∃ l f tmps assign body W', (execOp a.eval o).run P W = .ok (.round l f tmps assign body) W' ∧ ∀ n, RoundIn Fence.wide n P l f tmps assign body W' fun | .returned v, w => K v w | _, _ => False))
theorem Does.mono {o : Oper} {a : Act} {K K' : Value → World → Prop} (h : Does P o a W K) (hk : ∀ v w, K v w → K' v w) : Does P o a W K' := by
  obtain ⟨h0, h⟩ := h
  refine ⟨h0, ?_⟩
  rcases h with ⟨v, W', h1, h2⟩ | ⟨W', h1, h2⟩ | ⟨f, args, W', h1, h2⟩ | ⟨l, f, tmps, assign, body, W', h1, h2⟩
  · exact .inl ⟨v, W', h1, hk _ _ h2⟩
  · exact .inr (.inl ⟨W', h1, hk _ _ h2⟩)
  · refine .inr (.inr (.inl ⟨f, args, W', h1, h2.mono fun e w he => ?_⟩))
    cases e with
    | returned v => exact hk _ _ he
    | panicked c => exact he
    | outgrown => exact he
  · refine .inr (.inr (.inr ⟨l, f, tmps, assign, body, W', h1, fun n => (h2 n).mono fun e w he => ?_⟩))
    cases e with
    | returned v => exact hk _ _ he
    | panicked c => exact he
    | outgrown => exact he
theorem Does.wp {r : Option Nat} {n : Nat} {o : Oper} {a : Act} {K : Act → World → Prop} {Q : Exit → Act → World → Prop} (h : Does P o a W fun v w => K (a.put o.dst v) w) : o.wpIn (fen r) n P a W K Q := by
  obtain ⟨h0, h⟩ := h
  refine ⟨fun _ _ => trivial, ?_⟩
  rw [Oper.semAt_eq _ _ _ h0]
  rcases h with ⟨v, W', h1, h2⟩ | ⟨W', h1, h2⟩ | ⟨f, args, W', h1, h2⟩ | ⟨l, f, tmps, assign, body, W', h1, h2⟩
  · rw [h1, Oper.uponIn_value]; exact h2
  · rw [h1, Oper.uponIn_skip]; exact h2
  · rw [h1, Oper.uponIn_enter]
    refine ⟨(fun h => by cases h), calls_fen.2 (h2.mono fun e w he => ?_)⟩
    cases e with
    | returned v => exact he
    | panicked c => exact he.elim
    | outgrown => exact he.elim
  · rw [h1, Oper.uponIn_round]
    refine ⟨(fun h => by cases h), round_fen ((h2 (n - 1)).mono fun e w he => ?_)⟩
    cases e with
    | returned v => exact he
    | panicked c => exact he.elim
    | outgrown => exact he.elim

/-- A call, made out. -/
theorem callArgs_inv {o : Oper} {a : Act} {f : Tgt} {xs : List NV} {t : List NV} (hT : RepT W.heap (Imm W.heap β H) β H t a.tmps) (hG : RepG W.heap (Imm W.heap β H) β H G)
    (h : callArgs (evalN G t) o.op = some (f, xs)) : (∀ c, o.op ≠ .defer c) ∧ ∃ ys : Array Value, RepL W.heap (Imm W.heap β H) β H xs ys.toList ∧
      (match f with
       | .fn g => (execOp a.eval o).run P W = (callFunc g ys).run P W
       | .yld id => ∃ l, β id = some l ∧ (execOp a.eval o).run P W = (Instr.yield l.b ys).run P W) := by
  have ev : ∀ x, (Rep W.heap (Imm W.heap β H) β H) (evalN G t x) (a.eval x) := fun x => hT.eval (ds := a.defers) hG x
  unfold callArgs at h
  split at h
  · rename_i c e
    refine ⟨fun c' h' => (by rw [e] at h'; cases h'), ?_⟩
    have h5 : RepL W.heap (Imm W.heap β H) β H (c.args.toList.map (evalN G t)) (c.args.toList.map a.eval) := by
      refine ⟨by simp, fun i x y hx hy => ?_⟩
      rw [List.getElem?_map, Option.map_eq_some_iff] at hx hy
      obtain ⟨p, hp, rfl⟩ := hx
      obtain ⟨q, hq, rfl⟩ := hy
      rw [hp] at hq; cases hq
      exact ev p
    split at h
    · rename_i fo hc
      split at h
      · rename_i g first cap hfn
        cases h
        have hf := ev fo
        rw [hfn] at hf
        obtain ⟨y, hy0⟩ : ∃ y, a.eval fo = y := ⟨_, rfl⟩
        rw [hy0] at hf
        cases hf with
        | fn _ _ _ ys ys' h1 h2 h3 h4 =>
          have hr : RepL W.heap (Imm W.heap β H) β H (first ++ c.args.toList.map (evalN G t) ++ cap) ((ys ++ c.args.map a.eval) ++ ys').toList := by
            have app : ∀ {as bs : List NV} {cs ds : List Value}, RepL W.heap (Imm W.heap β H) β H as cs → RepL W.heap (Imm W.heap β H) β H bs ds → RepL W.heap (Imm W.heap β H) β H (as ++ bs) (cs ++ ds) := by
              rintro as bs cs ds ⟨k1, k2⟩ ⟨k3, k4⟩
              refine ⟨by simp [k1, k3], fun i x y hx hy => ?_⟩
              rcases Nat.lt_or_ge i as.length with hi | hi
              · rw [List.getElem?_append_left hi] at hx
                rw [List.getElem?_append_left (by omega)] at hy
                exact k2 i x y hx hy
              · rw [List.getElem?_append_right hi] at hx
                rw [List.getElem?_append_right (by omega)] at hy
                rw [k1] at hy
                exact k4 _ x y hx hy
            simp only [Array.toList_append, Array.toList_map]
            exact app (app ⟨by simpa using h1, fun i x y hx hy => h3 i x y hx (by simpa using hy)⟩ h5) ⟨by simpa using h2, fun i x y hx hy => h4 i x y hx (by simpa using hy)⟩
          refine ⟨_, hr, ?_⟩
          simp only
          unfold execOp
          rw [e]
          simp only [resolve, hc, hy0, Deferred.ofValue, Sem.run_bind, Sem.run_pure, Result.andThen_ok, invoke]
      · rename_i id hfn
        cases h
        have hf := ev fo
        rw [hfn] at hf
        obtain ⟨y, hy0⟩ : ∃ y, a.eval fo = y := ⟨_, rfl⟩
        rw [hy0] at hf
        cases hf with
        | yld _ l h1 h2 =>
          refine ⟨c.args.map a.eval, by simpa using h5, l, h2, ?_⟩
          unfold execOp
          rw [e]
          simp [resolve, hc, hy0, Deferred.ofValue, Sem.run_bind, Sem.run_pure, Result.andThen_ok, invoke]
      · cases h
    · cases h
  · cases h

theorem opN_does (hC : CallOK P G call) {o : Oper} {a : Act} {t : List NV} {r : Out} (hst : St W.heap β H) (hT : RepT W.heap (Imm W.heap β H) β H t a.tmps) (hG : RepG W.heap (Imm W.heap β H) β H G)
    (h : opN call P H (evalN G t) o.op = some r) : Does P o a W fun v W' => ∃ β', Step β H W β' r.H W' (maskL r.A) ∧ Rep W'.heap (Imm W'.heap β' r.H) β' r.H r.v v := by
  have hnd : ∀ c, o.op ≠ .defer c := by
    intro c hc
    rw [hc] at h
    simp [opN, pureN, readN, effV, effU, callArgs] at h
  unfold opN at h
  split at h
  · rename_i v h1
    cases h
    obtain ⟨y, k1, k2⟩ := pureN_run (W := W) hT hG h1
    exact ⟨hnd, .inl ⟨y, W, k1, β, by rw [maskL_nil]; exact Step.refl hst, k2⟩⟩
  · split at h
    · rename_i v h1
      cases h
      obtain ⟨y, k1, k2⟩ := readN_run hst hT hG h1
      exact ⟨hnd, .inl ⟨y, W, k1, β, by rw [maskL_nil]; exact Step.refl hst, k2⟩⟩
    · split at h
      · rename_i v H1 A T h1
        cases h
        obtain ⟨y, W', β', k1, k2, k3⟩ := effV_run hst hT hG h1
        exact ⟨hnd, .inl ⟨y, W', k1, β', by rw [maskL_optL]; exact k2, k3⟩⟩
      · split at h
        · rename_i H1 T h1
          cases h
          obtain ⟨W', k1, k2⟩ := effU_run hst hT hG h1
          exact ⟨hnd, .inr (.inl ⟨W', k1, β, by rw [maskL_nil]; exact k2, .p _ _ (.v _)⟩)⟩
        · split at h
          · rename_i f xs h1
            split at h
            · rename_i co h2
              split at h
              · cases h
              · rename_i hp
                cases h
                refine ⟨hnd, ?_⟩
                obtain ⟨_, ys, hys, hrun⟩ := callArgs_inv (P := P) hT hG h1
                cases f with
                | fn g =>
                  simp only at hrun
                  obtain ⟨k1, k2⟩ := hC.gives g xs H co h2 W β ys hst hG hys
                  refine .inr (.inr (.inl ⟨_, _, W, hrun.trans k1, k2.mono fun e w he => ?_⟩))
                  cases e with
                  | returned v => exact he.2
                  | panicked c => exact hp he.1
                  | outgrown => exact he
                | yld id =>
                  obtain ⟨l, hl, hrun⟩ := hrun
                  obtain ⟨_, f, tmps, assign, body, k1, k2⟩ := hC.givesY id xs H co h2 W β ys l hst hG hys hl
                  exact .inr (.inr (.inr ⟨l.b, f, tmps, assign, body, W, hrun.trans k1, fun n => k2 n⟩))
            · cases h
          · cases h

/-- What an operation throws. -/
theorem opP_throws (hC : CallOK P G call) {r : Option Nat} {n : Nat} {o : Oper} {a : Act} {t : List NV} {c : COut} {K : Act → World → Prop} {Q : Exit → Act → World → Prop} (hst : St W.heap β H)
    (hT : RepT W.heap (Imm W.heap β H) β H t a.tmps) (hG : RepG W.heap (Imm W.heap β H) β H G) (h : opP call H (evalN G t) o.op = some c)
    (hk : ∀ v W' β', Step β H W β' c.H W' (maskL c.A) → Rep W'.heap (Imm W'.heap β' c.H) β' c.H c.v v → Q (.panic [{ v, recovered := false }]) a W') : o.wpIn (fen r) n P a W K Q := by
  unfold opP at h
  refine ⟨fun _ _ => trivial, ?_⟩
  split at h
  · rename_i f xs h1
    split at h
    · rename_i co h2
      split at h
      · rename_i hp
        cases h
        obtain ⟨hnd, ys, hys, hrun⟩ := callArgs_inv (P := P) hT hG h1
        rw [Oper.semAt_eq _ _ _ hnd]
        cases f with
        | fn g =>
          simp only at hrun
          obtain ⟨k1, k2⟩ := hC.gives g xs H _ h2 W β ys hst hG hys
          rw [hrun, k1, Oper.uponIn_enter]
          refine ⟨(fun h => by cases h), calls_fen.2 (k2.mono fun e w he => ?_)⟩
          cases e with
          | returned v => rw [he.1] at hp; cases hp
          | panicked c => obtain ⟨_, v, rfl, β', k3, k4⟩ := he; exact hk v w β' k3 k4
          | outgrown => exact he.elim
        | yld id =>
          obtain ⟨l, hl, hrun⟩ := hrun
          obtain ⟨k0, _⟩ := hC.givesY id xs H _ h2 W β ys l hst hG hys hl
          rw [k0] at hp; cases hp
      · cases h
    · cases h
  · split at h
    · rename_i x hop
      split at h
      · rename_i T v hx
        cases h
        have hnd : ∀ c, o.op ≠ .defer c := fun c hc => by rw [hop] at hc; cases hc
        rw [Oper.semAt_eq _ _ _ hnd]
        have ev : (Rep W.heap (Imm W.heap β H) β H) (evalN G t x) (a.eval x) := hT.eval (ds := a.defers) hG x
        rw [hx] at ev
        obtain ⟨y, hy0⟩ : ∃ y, a.eval x = y := ⟨_, rfl⟩
        rw [hy0] at ev
        cases ev with
        | p _ _ hv =>
          cases hv with
          | iface _ _ y hv =>
            have hrun : (execOp a.eval o).run P W = .halt (.panic (.iface T y)) W := by
              unfold execOp
              rw [hop]
              simp only [hy0, Instr.panic, goPanic]
              rfl
            rw [hrun, Oper.uponIn_panic]
            exact hk _ W β (by rw [maskL_nil]; exact Step.refl hst) (.p _ _ (.iface _ _ _ hv))
      · cases h
    · cases h
end
end Go.Proofs.Eng
