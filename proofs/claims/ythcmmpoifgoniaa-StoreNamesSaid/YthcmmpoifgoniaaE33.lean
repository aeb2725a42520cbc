/- The engine, part 33: functions that are taken by a contract. -/
import Derived.Test.YthcmmpoifgoniaaE32
import Derived.Laws.World
set_option linter.unusedVariables false
set_option linter.unusedSimpArgs false
namespace Go.Proofs.Eng

theorem enters {P : Program} {f : FuncId} {fn : Func} {c : Code} (hf : P.funcs[f]? = some fn) (hname : (fn.name == "runtime.NumGoroutine") = false) (hb : fn.body = some c) (args : Array Value) (W : World) :
    (callFunc f args).run P W = .ok (.enter f args) W := by
  have hprog : (program).run P W = .ok P W := rfl
  simp only [callFunc, Sem.run_bind, hprog, Result.andThen_ok, hf, hname, hb, Option.isNone_some, Bool.false_eq_true, if_false, Sem.run_pure]
abbrev Hook := List NV → NH → Option COut
structure HookOK (P : Program) (G : Nat → NV) (f : FuncId) (hk : Hook) : Prop where
  gives : ∀ (xs : List NV) (H : NH) (o : COut), hk xs H = some o → ∀ (W : World) (β : Beta) (ys : Array Value), St W.heap β H → RepG W.heap (Imm W.heap β H) β H G →
    RepL W.heap (Imm W.heap β H) β H xs ys.toList →
    Gives P f ys W o.p fun v W' => ∃ β', Step β H W β' o.H W' (maskL o.A) ∧ Rep W'.heap (Imm W'.heap β' o.H) β' o.H o.v v
  frame : ∀ (xs : List NV) (H : NH) (o : COut), hk xs H = some o → o.A = [] → ∀ id, id ∉ o.T → id < H.length → o.H[id]? = H[id]?
def findH : List (FuncId × Hook) → FuncId → Option Hook
  | [], _ => none
  | (k, h) :: l, f => if k = f then some h else findH l f
/-- Functions by their numbers. -/
def hooks (l : List (FuncId × Hook)) : Caller := fun g xs H =>
  match g with
  | .fn f => match findH l f with
    | some h => h xs H
    | none => none
  | .yld _ => none
theorem findH_mem {l : List (FuncId × Hook)} {f : FuncId} {h : Hook} (e : findH l f = some h) : (f, h) ∈ l := by
  induction l with
  | nil => cases e
  | cons p l ih =>
    obtain ⟨k, h'⟩ := p
    simp only [findH] at e
    split at e
    · rename_i hk
      cases e; subst hk; simp
    · exact List.mem_cons_of_mem _ (ih e)
theorem hooks_ok {P : Program} {G : Nat → NV} {l : List (FuncId × Hook)} (h : ∀ p ∈ l, HookOK P G p.1 p.2) : CallOK P G (hooks l) := by
  refine ⟨fun f xs H o e => ?_, fun id xs H o e => (by cases e), fun g xs H o e => ?_⟩
  · simp only [hooks] at e
    split at e
    · rename_i hk he
      exact (h _ (findH_mem he)).gives xs H o e
    · cases e
  · cases g with
    | yld id => cases e
    | fn f =>
      simp only [hooks] at e
      split at e
      · rename_i hk he
        exact (h _ (findH_mem he)).frame xs H o e
      · cases e

/-! strings.Builder's copyCheck. -/
def ccN (T : TypeId) : Hook := fun xs H =>
  match xs with
  | [.ptr id 0] => match H[id]? with
    | some (.row T' sz cells) => match cells with
      | .p (.v (.pointer none)) :: rest => if T' = T ∧ sz = 2 then some ⟨false, .tup [], H.set id (.row T' sz (.ptr id 0 :: rest)), [], [id]⟩ else none
      | .ptr i 0 :: rest => if i = id ∧ T' = T ∧ sz = 2 then some ⟨false, .tup [], H, [], []⟩ else none
      | _ => none
    | _ => none
  | _ => none
theorem repL_one {hp : Heap} {imm : Nat → Prop} {β : Beta} {H : NH} {x : NV} {ys : Array Value} (h : RepL hp imm β H [x] ys.toList) : ∃ y, ys = #[y] ∧ Rep hp imm β H x y := by
  obtain ⟨ys⟩ := ys
  match ys, h with
  | [y], h => exact ⟨y, rfl, h.2 0 x y rfl rfl⟩
  | [], h => exact absurd h.1 (by simp)
  | _ :: _ :: _, h => exact absurd h.1 (by simp)
theorem unit_rep {hp : Heap} {imm : Nat → Prop} {β : Beta} {H : NH} : Rep hp imm β H (.tup []) (.tuple #[]) := .tup [] #[] rfl fun i x y hx => by simp at hx
theorem copyCheck_hook {P : Program} {G : Nat → NV} {f : FuncId} {T : TypeId} (hent : ∀ args W, (callFunc f args).run P W = .ok (.enter f args) W)
    (hused : ∀ (b : Nat) (w : World), w.cell? ⟨b, 0, none⟩ = some (.pointer (some ⟨b, 0, none⟩)) → Calls P f #[.pointer (some ⟨b, 0, none⟩)] w fun e w' => e = .returned (.tuple #[]) ∧ w' = w)
    (hfresh : ∀ (b n : Nat) (w : World), w.cell? ⟨b, 0, none⟩ = some (.pointer none) → w.shape? b = some (T, n) → 2 ≤ n → w.frozen? ⟨b, 0, none⟩ = false →
      Calls P f #[.pointer (some ⟨b, 0, none⟩)] w fun e w' => e = .returned (.tuple #[]) ∧ w' = w.setCell ⟨b, 0, none⟩ (.pointer (some ⟨b, 0, none⟩))) : HookOK P G f (ccN T) := by
  constructor
  · intro xs H o h W β ys hst hG hr
    unfold ccN at h
    split at h
    · rename_i id
      obtain ⟨y, rfl, hy⟩ := repL_one hr
      split at h
      · rename_i T' sz cells ho
        cases hy with
        | ptr _ _ l hid hl =>
          obtain ⟨c, fr, c1, c2, c3, h0, hd, c6⟩ := (hst.obj id _ ho).at hl
          split at h
          · rename_i rest
            split at h
            · rename_i hc
              obtain ⟨rfl, rfl⟩ := hc
              cases h
              have hlen : 2 ≤ (NV.p (.v (.pointer none)) :: rest).length := Nat.le_of_dvd (by simp) hd
              have hsz : 2 ≤ c.size := by have := c3.1; have := c3.2; omega
              have hc0 : c[0]? = some c[0] := Array.getElem?_eq_getElem (by omega)
              have hv : c[0] = .pointer none := (c6 0 _ _ rfl hc0).2.v_inv
              refine ⟨hent _ _, (hfresh l.b c.size W (by rw [cell?_eq, cellAt, c1]; simp only; rw [hc0, hv]) (by simp [World.shape?, c1]) hsz (by
                have := c2 0 (by omega)
                simp only [World.frozen?, c1]
                simp at this ⊢
                exact this)).mono fun e w' he => ?_⟩
              obtain ⟨rfl, rfl⟩ := he
              refine ⟨rfl, β, ?_, unit_rep⟩
              have hw : W.setCell ⟨l.b, 0, none⟩ (.pointer (some ⟨l.b, 0, none⟩)) = atHeap W (W.heap.setIfInBounds l.b (.cells (c.setIfInBounds 0 (.pointer (some ⟨l.b, 0, none⟩))) T' fr)) := by
                unfold World.setCell atHeap
                congr 1
                apply Array.ext_getElem?
                intro i
                rw [Array.getElem?_modify]
                by_cases hi : l.b = i
                · subst hi
                  rw [if_pos rfl, c1, Array.getElem?_setIfInBounds_self_of_lt (Array.getElem?_eq_some_iff.1 c1).1]
                  rfl
                · rw [if_neg hi, Array.getElem?_setIfInBounds_ne hi]
              rw [hw, maskL_nil]
              refine Step.put hst ho hl rfl rfl ⟨_, rfl, by simp⟩ fun H' e g => ?_
              refine ⟨_, fr, Array.getElem?_setIfInBounds_self_of_lt (Array.getElem?_eq_some_iff.1 c1).1, fun k hk => c2 k (by simpa using hk), by simpa using c3, h0, by simpa using hd, fun k x y hx hy => ?_⟩
              cases k with
              | zero =>
                simp only [List.getElem?_cons_zero, Option.some.injEq] at hx
                subst hx
                rw [show l.o + 0 = 0 from rfl, Array.getElem?_setIfInBounds_self_of_lt (by omega)] at hy
                cases hy
                exact ⟨rfl, .ptr id 0 l (by rw [e]; simpa using hid) hl⟩
              | succ k =>
                rw [show l.o + (k + 1) = k + 1 from Nat.zero_add _, Array.getElem?_setIfInBounds_ne (by omega)] at hy
                have := c6 (k + 1) x y hx (by rw [show l.o + (k + 1) = k + 1 from Nat.zero_add _]; exact hy)
                exact ⟨this.1, g.rep0 this.2⟩
            · cases h
          · rename_i i rest
            split at h
            · rename_i hc
              obtain ⟨rfl, rfl, rfl⟩ := hc
              cases h
              have hlen : 2 ≤ (NV.ptr i 0 :: rest).length := Nat.le_of_dvd (by simp) hd
              have hsz : 2 ≤ c.size := by have := c3.1; have := c3.2; omega
              have hc0 : c[0]? = some c[0] := Array.getElem?_eq_getElem (by omega)
              have hv : c[0] = .pointer (some ⟨l.b, 0, none⟩) := by
                have h7 := (c6 0 _ _ rfl hc0).2
                generalize c[0] = y at h7
                cases h7 with
                | ptr _ _ l' hid' hl' => rw [hl] at hl'; cases hl'; rfl
              refine ⟨hent _ _, (hused l.b W (by rw [cell?_eq, cellAt, c1]; simp only; rw [hc0, hv])).mono fun e w' he => ?_⟩
              obtain ⟨rfl, rfl⟩ := he
              exact ⟨rfl, β, by rw [maskL_nil]; exact Step.refl hst, unit_rep⟩
            · cases h
          · cases h
      · cases h
    · cases h
  · intro xs H o h hA id hid hlt
    unfold ccN at h
    split at h
    · split at h
      · split at h
        · split at h
          · cases h
            simp only at hid ⊢
            rw [List.getElem?_set_ne]
            intro e; exact hid (by simp [e])
          · cases h
        · split at h
          · cases h; rfl
          · cases h
        · cases h
      · cases h
    · cases h
end Go.Proofs.Eng
