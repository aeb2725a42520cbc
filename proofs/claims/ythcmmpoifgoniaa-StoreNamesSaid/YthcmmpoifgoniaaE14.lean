/- The engine, part 14: bytes as a string, what a map has; operations that look at objects, put together. -/
import Derived.Test.YthcmmpoifgoniaaE13
import Derived.WalkSpells
import Derived.Lib.SliceRun
import Derived.Lib.UnsafeStr
import Derived.Laws.BytesArg
set_option linter.unusedVariables false
set_option linter.unusedSimpArgs false
namespace Go.Proofs.Eng
section
variable {β : Beta} {H : NH} {P : Program} {W : World}

/-- A slice's value reads as rows. -/
def SrcAt (W : World) (imm : Nat → Prop) (sz n : Nat) (get : Nat → List VV) (a : Value) : Prop :=
  ∃ A c, a = .slice A n c ∧ (0 < n → ∃ b o, A = some ⟨b, o, none⟩ ∧ ∀ i, i < n → (get i).length = sz ∧
    ∀ (j : Nat) (x : VV), (get i)[j]? = some x → ∃ y, W.cell? ⟨b, o + (i * sz + j), none⟩ = some y ∧ y.oneCell' = true ∧ PV W.heap imm x y)
theorem sl_src {sz n : Nat} {get : Nat → List VV} {a : Value} (h : PV W.heap (Imm W.heap β H) (.sl sz n get) a) : SrcAt W (Imm W.heap β H) sz n get a := by
  cases h with
  | sl0 _ _ A c => exact ⟨A, c, rfl, fun h => absurd h (Nat.lt_irrefl 0)⟩
  | sl _ _ _ b o c z hi hc hl hz hr =>
    refine ⟨_, c, rfl, fun _ => ⟨b, o, rfl, fun i hi' => ⟨hl i hi', fun j x hx => ?_⟩⟩⟩
    have hj : j < sz := by rw [← hl i hi']; exact (List.getElem?_eq_some_iff.1 hx).1
    have hk : i * sz + j < n * sz := by
      have : (i + 1) * sz ≤ n * sz := Nat.mul_le_mul_right _ hi'
      rw [Nat.succ_mul] at this; omega
    obtain ⟨z1, z2⟩ := hz _ hk
    exact ⟨_, by rw [cell?_eq]; exact z1, z2, hr i hi' j x hx⟩
theorem srcN_at {x : NV} {sz n : Nat} {get : Nat → List VV} {a : Value} (hst : St W.heap β H) (h : srcN H x = some (sz, n, get)) (hx : (Rep W.heap (Imm W.heap β H) β H) x a) : SrcAt W (Imm W.heap β H) sz n get a := by
  unfold srcN at h
  split at h
  · cases h
    cases hx with | p _ _ hp => exact sl_src hp
  · cases h
    cases hx with | xsl _ _ _ A hp => exact sl_src hp
  · rename_i id
    split at h
    · rename_i T rw' sz' n' get' ho
      cases h
      rcases full_inv hst (by rw [ho]; rfl) hx with ⟨rfl, hl, A, rfl⟩ | ⟨l, c, hl, hc, hk, rfl⟩
      · exact ⟨A, 0, rfl, fun h => absurd h (Nat.lt_irrefl 0)⟩
      · refine ⟨_, c, rfl, fun _ => ⟨l.b, l.o, rfl, fun i hi => ?_⟩⟩
        have g1 := (((hst.obj id _ ho).at hl).choose_spec.choose_spec.2.2.2.2 i hi).1
        refine ⟨g1, fun j x hx' => ?_⟩
        obtain ⟨y, h1, h2, h3⟩ := pe_cells (j := 0) hst ho hi hl j x (by simpa using hx')
        refine ⟨y, ?_, h2, h3⟩
        rw [add_slot] at h1
        simpa [slot] using h1
    · cases h
  · rename_i id off len ex
    split at h
    · rename_i T rw' sz' n' get' ho
      cases h
      rcases part_inv (by rw [ho]; rfl) hx with ⟨rfl, A, rfl⟩ | ⟨l, c, hl, hn, hc, he, rfl⟩
      · exact ⟨A, 0, rfl, fun h => absurd h (Nat.lt_irrefl 0)⟩
      · refine ⟨_, c, rfl, fun _ => ⟨l.b, l.o + off * sz, by simp [slot], fun i hi => ?_⟩⟩
        have g1 := (((hst.obj id _ ho).at hl).choose_spec.choose_spec.2.2.2.2 (off + i) (by omega)).1
        refine ⟨g1, fun j x hx' => ?_⟩
        obtain ⟨y, h1, h2, h3⟩ := pe_cells (j := 0) hst ho (i := off + i) (by omega) hl j x (by simpa using hx')
        refine ⟨y, ?_, h2, h3⟩
        rw [add_slot] at h1
        simp only [slot, Nat.add_mul, Nat.add_zero] at h1
        rw [show l.o + off * sz + (i * sz + j) = l.o + (off * sz + i * sz + j) by omega]
        exact h1
    · cases h
  · cases h

theorem allBytes_at {n : Nat} {get : Nat → List VV} (h : allBytes n get = true) (i : Nat) (hi : i < n) : ∃ m : Int, get i = [.v (.int .u8 m)] := by
  have := List.all_eq_true.1 h i (List.mem_range.2 hi)
  unfold isByte at this
  split at this
  · rename_i m he; exact ⟨m, he⟩
  · cases this
theorem bytesN_run {src dst : TypeId} {x r : NV} {a : Value} (hst : St W.heap β H) (h : bytesN P H src dst x = some r) (hx : (Rep W.heap (Imm W.heap β H) β H) x a) : ∃ v, (convert src dst a).run P W = .ok v W ∧ (Rep W.heap (Imm W.heap β H) β H) r v := by
  unfold bytesN at h
  split at h
  · rename_i e hs hd
    split at h
    · rename_i he
      split at h
      · cases h
        obtain rfl := hx.v_inv
        exact ⟨_, run_convert_bytes_nil W src e hs he _ _ dst hd, vRep (.string ⟨#[]⟩)⟩
      · split at h
        · rename_i n get hsrc
          split at h
          · rename_i hall
            cases h
            obtain ⟨A, c, rfl, hc⟩ := srcN_at hst hsrc hx
            rcases Nat.eq_zero_or_pos n with rfl | hn
            · refine ⟨.string ⟨#[]⟩, ?_, by simpa [strOf] using vRep (.string ⟨#[]⟩)⟩
              cases A with
              | none => exact run_convert_bytes_nil W src e hs he _ _ dst hd
              | some A =>
                have := run_convert_bytes_string W src dst e A 0 c hs he hd
                rw [this]
                simp [Conv.bytesToString, loadCells, loadCellsFrom, ByteArray.empty, ByteArray.emptyWithCapacity]
                rfl
            · obtain ⟨b, o, rfl, hcells⟩ := hc hn
              have key := run_convert_bytes_arg (P := P) W src e hs he b o n c ((List.range n).map fun i => match get i with | [.v (.int .u8 m)] => m | _ => 0) (by simp) (fun i hi => by
                obtain ⟨m, hm⟩ := allBytes_at hall i hi
                obtain ⟨g1, g2⟩ := hcells i hi
                obtain ⟨y, h1, h2, h3⟩ := g2 0 (.v (.int .u8 m)) (by rw [hm]; rfl)
                cases h3
                simp only [Nat.mul_one, Nat.add_zero] at h1
                rw [h1]
                simp [List.getD_eq_getElem?_getD, List.getElem?_range hi, hm]) dst hd
              refine ⟨_, key, ?_⟩
              have hstr : strOfNums ((List.range n).map fun i => match get i with | [.v (.int .u8 m)] => m | _ => 0) = strOf n get := by
                apply ba_ext
                simp only [strOfNums, strOf, List.map_map]
                apply List.map_congr_left
                intro i hi
                obtain ⟨m, hm⟩ := allBytes_at hall i (List.mem_range.1 hi)
                simp [byteOf, hm]
              rw [hstr]
              exact vRep _
          · cases h
        · cases h
    · cases h
  · cases h

theorem ofVV_rep {x : VV} {y : Value} {imm : Nat → Prop} {hp : Heap} (h : PV hp imm x y) : Rep hp imm β H (ofVV x) y := by
  cases h with
  | agg xs ys hl hr =>
    refine .agg _ ys (by simpa using hl) fun i a b ha hb => ?_
    rw [List.getElem?_map, Option.map_eq_some_iff] at ha
    obtain ⟨q, hq, rfl⟩ := ha
    exact .p _ _ (hr i q b hq hb)
  | v => exact .p _ _ (.v _)
  | sl0 a b c d => exact .p _ _ (.sl0 a b c d)
  | sl a b c d e f g h1 h2 h3 h4 h5 => exact .p _ _ (.sl a b c d e f g h1 h2 h3 h4 h5)
  | iface a b c d => exact .p _ _ (.iface a b c d)
/-- The entry of a key. -/
theorem findN_run {imm : Nat → Prop} {hp : Heap} {kd : TypeDesc} {k : Value} : ∀ (es : List (Value × VV)) (me : List MapEntry) (n : Nat) (r : Option VV), me.length = es.length →
    (∀ (i : Nat) (q : Value) (x : VV) (e : MapEntry), es[i]? = some (q, x) → me[i]? = some e → e.key = q ∧ PV hp imm x e.val) → findN kd k es = some r →
    match r with
    | none => Instr.findNow kd k me n = some none
    | some v => ∃ i u, Instr.findNow kd k me n = some (some (n + i, u)) ∧ PV hp imm v u ∧ (∃ e, me[i]? = some e ∧ e.val = u) := by
  intro es
  induction es with
  | nil =>
    intro me n r hl he h
    obtain rfl : me = [] := List.eq_nil_of_length_eq_zero hl
    simp only [findN] at h
    cases h
    rfl
  | cons e es ih =>
    intro me n r hl he h
    obtain ⟨q, v⟩ := e
    cases me with
    | nil => simp at hl
    | cons m me =>
      obtain ⟨h1, h2⟩ := he 0 q v m rfl rfl
      simp only [findN] at h
      simp only [Instr.findNow, h1]
      split at h
      · rename_i hs
        cases h
        exact ⟨0, m.val, by rw [hs]; rfl, h2, m, rfl, rfl⟩
      · rename_i hs
        have := ih me (n + 1) r (by simpa using hl) (fun i q x e' h3 h4 => he (i + 1) q x e' (by simpa using h3) (by simpa using h4)) h
        rw [hs]
        cases r with
        | none => exact this
        | some v' =>
          obtain ⟨i, u, g1, g2, e', g3, g4⟩ := this
          exact ⟨i + 1, u, by rw [← Nat.add_assoc, Nat.add_right_comm]; exact g1, g2, e', by simpa using g3, g4⟩
      · cases h

theorem simpleKey_any {empty : Bool} {K : TypeId} {kd : TypeDesc} {k : Value} (n : Nat) (hu : P.underlying K = some kd) (h : simpleKey kd = true) : (Instr.checkKey empty (n + 1) K k).run P W = .ok () W := by
  simp only [Instr.checkKey, Sem.run_bind, run_underlying hu, Result.andThen_ok]
  cases kd <;> simp [simpleKey] at h <;> cases k <;> rfl
theorem simpleKey_run {empty : Bool} {K : TypeId} {kd : TypeDesc} {k : Value} (hu : P.underlying K = some kd) (h : simpleKey kd = true) : (Instr.checkKey empty 10000 K k).run P W = .ok () W :=
  simpleKey_any 9999 hu h
theorem zero_run {E : TypeId} {z : Value} (h : (P.info? E).bind (·.zero) = some z) : (zeroValue E).run P W = .ok z W := by
  rw [Option.bind_eq_some_iff] at h
  obtain ⟨i, h1, h2⟩ := h
  simp [zeroValue, typeInfo, h1, h2]
theorem lookupN_run {T : TypeId} {x k r : NV} {ok : Bool} {a b : Value} (hst : St W.heap β H) (h : lookupN P H T x k ok = some r) (hx : (Rep W.heap (Imm W.heap β H) β H) x a) (hk : (Rep W.heap (Imm W.heap β H) β H) k b) :
    ∃ v, (Instr.lookup T a b ok).run P W = .ok v W ∧ (Rep W.heap (Imm W.heap β H) β H) r v := by
  unfold lookupN at h
  split at h
  · rename_i K E kv hu
    obtain rfl := hk.v_inv
    split at h
    · rename_i kd z hkd hz
      split at h
      · rename_i hsk
        have tupR : ∀ (v : NV) (u : Value) (g : Bool), (Rep W.heap (Imm W.heap β H) β H) v u → (Rep W.heap (Imm W.heap β H) β H) (if ok then .tup [v, bN g] else v) (if ok then .tuple #[u, .bool g] else u) := by
          intro v u g hv
          cases ok
          · exact hv
          · refine .tup _ #[u, .bool g] rfl fun i p q hp hq => ?_
            match i with
            | 0 => simp at hp hq; subst hp; subst hq; exact hv
            | 1 => simp at hp hq; subst hp; subst hq; exact vRep _
            | i + 2 => simp at hp
        have fin : ∀ (me : Array MapEntry) (es : List (Value × VV)) (q : Option VV), me.size = es.length →
            (∀ (i : Nat) (q : Value) (x : VV) (e : MapEntry), es[i]? = some (q, x) → me[i]? = some e → e.key = q ∧ PV W.heap (Imm W.heap β H) x e.val) → findN kd b es = some q →
            (do
              Instr.checkKey me.isEmpty 10000 K b
              let (v, o) ← match ← Instr.findKey K b me.toList with
                | some (_, v) => pure (v, true)
                | none => pure (← zeroValue E, false)
              pure (if ok then Value.tuple #[v, .bool o] else v) : Sem Value).run P W = .ok (match q with | some _ => (if ok then .tuple #[((Instr.findNow kd b me.toList 0).bind id).elim undef (·.2), .bool true] else ((Instr.findNow kd b me.toList 0).bind id).elim undef (·.2)) | none => (if ok then .tuple #[z, .bool false] else z)) W ∧
            (∀ v, q = some v → PV W.heap (Imm W.heap β H) v (((Instr.findNow kd b me.toList 0).bind id).elim undef (·.2))) := by
          intro me es q hl he hf
          have key := findN_run (imm := Imm W.heap β H) (hp := W.heap) (kd := kd) (k := b) es me.toList 0 q (by simpa using hl) (fun i q x e h1 h2 => he i q x e h1 (by simpa using h2)) hf
          cases q with
          | none =>
            simp only at key
            refine ⟨?_, fun v hv => by cases hv⟩
            simp only [Sem.run_bind, simpleKey_run hkd hsk, Result.andThen_ok, Instr.findKey, run_underlying hkd, key, Sem.run_pure, zero_run hz]
          | some v =>
            simp only at key
            obtain ⟨i, u, h1, h2, _⟩ := key
            refine ⟨?_, fun v' hv => by cases hv; rw [h1]; exact h2⟩
            simp only [Sem.run_bind, simpleKey_run hkd hsk, Result.andThen_ok, Instr.findKey, run_underlying hkd, h1, Sem.run_pure]
            rfl
        have res : ∀ (q : Option VV) (me : Array MapEntry) (es : List (Value × VV)) (l : Value), (∀ c, (Instr.lookup T l b ok).run P W = (do
              Instr.checkKey me.isEmpty 10000 K b
              let (v, o) ← match ← Instr.findKey K b me.toList with
                | some (_, v) => pure (v, true)
                | none => pure (← zeroValue E, false)
              pure (if ok then Value.tuple #[v, .bool o] else v) : Sem Value).run P W ∨ c) → me.size = es.length →
            (∀ (i : Nat) (q : Value) (x : VV) (e : MapEntry), es[i]? = some (q, x) → me[i]? = some e → e.key = q ∧ PV W.heap (Imm W.heap β H) x e.val) → findN kd b es = some q →
            (∀ v, q = some v → r = if ok then .tup [ofVV v, bN true] else ofVV v) → (q = none → r = if ok then .tup [ofValue z, bN false] else ofValue z) →
            ∃ v, (Instr.lookup T l b ok).run P W = .ok v W ∧ (Rep W.heap (Imm W.heap β H) β H) r v := by
          intro q me es l hrun hl he hf h1 h2
          obtain ⟨f1, f2⟩ := fin me es q hl he hf
          refine ⟨_, ((hrun False).resolve_right id).trans f1, ?_⟩
          cases q with
          | none => rw [h2 rfl]; exact tupR _ _ _ (Rep.ofValue z)
          | some v => rw [h1 v rfl]; exact tupR _ _ _ (ofVV_rep (f2 v rfl))
        split at h
        · rename_i v hfind
          cases h
          split at hfind
          · cases hfind
          · rename_i id
            split at hfind
            · rename_i es ho
              cases hx with
              | map _ l hid hl =>
                obtain ⟨me, clock, g1, g2, g3, _⟩ := (hst.obj id _ ho).at hl
                have hg : (getObj l.b).run P W = .ok (.map me clock) W := by simp only [getObj, Sem.run, g1]
                refine res (some v) me es _ (fun c => .inl ?_) g2 g3 hfind (fun v' hv => by cases hv; rfl) (fun e => by cases e)
                simp only [Instr.lookup, Sem.run_bind, run_underlying hu, Result.andThen_ok, hg, Sem.run_pure]
                rfl
            · cases hfind
          · cases hfind
        · rename_i hfind
          cases h
          split at hfind
          · obtain rfl := hx.v_inv
            refine res none #[] [] _ (fun c => .inl ?_) rfl (fun i q x e h1 => by simp at h1) rfl (fun v e => by cases e) (fun _ => rfl)
            simp only [Instr.lookup, Sem.run_bind, run_underlying hu, Result.andThen_ok, Sem.run_pure]
            rfl
          · rename_i id
            split at hfind
            · rename_i es ho
              cases hx with
              | map _ l hid hl =>
                obtain ⟨me, clock, g1, g2, g3, _⟩ := (hst.obj id _ ho).at hl
                have hg : (getObj l.b).run P W = .ok (.map me clock) W := by simp only [getObj, Sem.run, g1]
                refine res none me es _ (fun c => .inl ?_) g2 g3 hfind (fun v e => by cases e) (fun _ => rfl)
                simp only [Instr.lookup, Sem.run_bind, run_underlying hu, Result.andThen_ok, hg, Sem.run_pure]
                rfl
            · cases hfind
          · cases hfind
        · cases h
      · cases h
    · cases h
  · cases h

theorem sliceDataN_run {ts : Array TypeId} {ty : TypeId} {x r : NV} {a : Value} (hst : St W.heap β H) (h : sliceDataN H x = some r) (hx : (Rep W.heap (Imm W.heap β H) β H) x a) :
    ∃ v, (Builtin.unsafeSliceData_ ts ty #[a]).run P W = .ok v W ∧ (Rep W.heap (Imm W.heap β H) β H) r v := by
  unfold sliceDataN at h
  split at h
  · cases h
    obtain rfl := hx.v_inv
    exact ⟨_, rfl, vRep _⟩
  · rename_i id
    split at h
    · rename_i T rw' sz n get ho
      split at h
      · rename_i hn
        cases h
        rcases full_inv hst (by rw [ho]; rfl) hx with ⟨h0, _⟩ | ⟨l, c, hl, hc, hk, rfl⟩
        · omega
        · refine ⟨_, Lib.run_unsafeSliceData_row W ts ty _ n c (by omega), ?_⟩
          have := Rep.pe (hp := W.heap) (imm := Imm W.heap β H) id 0 0 l T rw' sz n get ho hn hl
          simpa using this
      · cases h
    · cases h
  · cases h
theorem nonNil_inv {x : NV} {a : Value} (hst : St W.heap β H) (h : nonNilN H x = true) (hx : (Rep W.heap (Imm W.heap β H) β H) x a) : ∃ A n c, a = .slice (some A) n c := by
  unfold nonNilN at h
  split at h
  · split at h
    · rename_i id sz n ho
      have hn : 0 < n := by simpa using h
      rcases full_inv hst ho hx with ⟨h0, _⟩ | ⟨l, c, _, _, _, rfl⟩
      · omega
      · exact ⟨_, _, _, rfl⟩
    · cases h
  · have hn := of_decide_eq_true h
    cases hx with
    | partP => exact ⟨_, _, _, rfl⟩
    | partR => exact ⟨_, _, _, rfl⟩
    | part0 => exact absurd hn (Nat.lt_irrefl 0)
  · have hn := of_decide_eq_true h
    cases hx with
    | xsl _ _ _ A hp =>
      cases hp with
      | sl0 => exact absurd hn (Nat.lt_irrefl 0)
      | sl => exact ⟨_, _, _, rfl⟩
  · have hn := of_decide_eq_true h
    cases hx with
    | p _ _ hp =>
      cases hp with
      | sl0 => exact absurd hn (Nat.lt_irrefl 0)
      | sl => exact ⟨_, _, _, rfl⟩
  · cases h
theorem isNil_inv {x : NV} {a : Value} (h : isNilN x = true) (hx : (Rep W.heap (Imm W.heap β H) β H) x a) : a = .slice none 0 0 := by
  unfold isNilN at h
  split at h
  · exact hx.v_inv
  · cases h
theorem cmpNilN_run {op : BinOp} {T : TypeId} {xo yo : Operand} {x y r : NV} {a b : Value} (hst : St W.heap β H) (h : cmpNilN P H op T x y = some r) (hx : (Rep W.heap (Imm W.heap β H) β H) x a) (hy : (Rep W.heap (Imm W.heap β H) β H) y b) :
    ∃ v, (do eqGuard op T xo yo a b; binOp op T a b : Sem Value).run P W = .ok v W ∧ (Rep W.heap (Imm W.heap β H) β H) r v := by
  unfold cmpNilN at h
  split at h
  · rename_i e hu
    split at h
    · rename_i hc
      rw [Bool.or_eq_true, Bool.and_eq_true, Bool.and_eq_true] at hc
      have hg : ∀ A n c A' n' c', (eqGuard op T xo yo (.slice A n c) (.slice A' n' c')).run P W = .ok () W := fun A n c A' n' c' => guard_plain (.inl ⟨fun c => by simp, by simp⟩)
      rcases hc with ⟨h1, h2⟩ | ⟨h1, h2⟩
      · obtain ⟨A, n, c, rfl⟩ := nonNil_inv hst h1 hx
        obtain rfl := isNil_inv h2 hy
        split at h
        · cases h
          exact ⟨_, by rw [Sem.run_bind, hg]; exact Lib.run_eql_slice_nil W T e (some A) n c 0 0 hu, vRep _⟩
        · cases h
          exact ⟨_, by rw [Sem.run_bind, hg]; exact run_neq_slice_nil_any W T e (some A) n c 0 0 hu, vRep _⟩
        · cases h
      · obtain ⟨A, n, c, rfl⟩ := nonNil_inv hst h2 hy
        obtain rfl := isNil_inv h1 hx
        split at h
        · cases h
          exact ⟨_, by rw [Sem.run_bind, hg]; exact run_eql_nil_slice W T e (some A) n c 0 0 hu, vRep _⟩
        · cases h
          exact ⟨_, by rw [Sem.run_bind, hg]; exact run_neq_nil_slice W T e (some A) n c 0 0 hu, vRep _⟩
        · cases h
    · cases h
  · cases h
theorem readN_run {G : Nat → NV} {o : Oper} {t : List NV} {a : Act} {r : NV} (hst : St W.heap β H) (hT : RepT W.heap (Imm W.heap β H) β H t a.tmps) (hG : RepG W.heap (Imm W.heap β H) β H G)
    (h : readN P H (evalN G t) o.op = some r) : ∃ v, (execOp a.eval o).run P W = .ok (.value v) W ∧ (Rep W.heap (Imm W.heap β H) β H) r v := by
  have ev : ∀ x, (Rep W.heap (Imm W.heap β H) β H) (evalN G t x) (a.eval x) := fun x => hT.eval (ds := a.defers) hG x
  unfold readN at h
  unfold execOp
  split at h
  · rename_i T x e; rw [e]
    obtain ⟨v, h1, h2⟩ := loadN_run hst h (ev x)
    exact ⟨v, value_run h1, h2⟩
  · rename_i T x ix e; rw [e]
    obtain ⟨v, h1, h2⟩ := indexAddrH_run hst h (ev x) (ev ix)
    exact ⟨v, value_run h1, h2⟩
  · rename_i T x lo hi mx e; rw [e]
    obtain ⟨v, h1, h2⟩ := sliceH_run hst h (ev x) (repO_map lo ev) (repO_map hi ev) (repO_map mx ev)
    exact ⟨v, value_run h1, h2⟩
  · rename_i s d x e; rw [e]
    obtain ⟨v, h1, h2⟩ := bytesN_run hst h (ev x)
    exact ⟨v, value_run h1, h2⟩
  · rename_i T x k ok e; rw [e]
    obtain ⟨v, h1, h2⟩ := lookupN_run hst h (ev x) (ev k)
    exact ⟨v, value_run h1, h2⟩
  · rename_i op T x y yT e; rw [e]
    obtain ⟨v, h1, h2⟩ := cmpNilN_run (xo := x) (yo := y) hst h (ev x) (ev y)
    exact ⟨v, value_run h1, h2⟩
  · rename_i c e; rw [e]
    split at h
    · rename_i hb
      split at h
      · rename_i x T hargs hT0
        obtain ⟨v, h1, h2⟩ := lenH_run (ty := o.type) hst hT0 h (ev x)
        refine ⟨v, ?_, h2⟩
        have ha : c.args.map a.eval = #[a.eval x] := by
          apply Array.ext'
          rw [Array.toList_map, hargs]; rfl
        simp only [resolve, hb, Sem.run_bind, Sem.run_pure, Result.andThen_ok, invoke, builtin, ha, h1]
      · cases h
    · rename_i hb
      split at h
      · rename_i x hargs
        obtain ⟨v, h1, h2⟩ := sliceDataN_run (P := P) (ts := c.argTypes) (ty := o.type) hst h (ev x)
        refine ⟨v, ?_, h2⟩
        have ha : c.args.map a.eval = #[a.eval x] := by
          apply Array.ext'
          rw [Array.toList_map, hargs]; rfl
        simp only [resolve, hb, Sem.run_bind, Sem.run_pure, Result.andThen_ok, invoke, builtin, ha, h1]
      · cases h
    · cases h
  · cases h
end
end Go.Proofs.Eng
