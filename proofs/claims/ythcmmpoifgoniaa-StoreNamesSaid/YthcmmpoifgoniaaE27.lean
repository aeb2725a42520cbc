/- The engine, part 27: an operation of a region, in its frame. -/
import Derived.Test.YthcmmpoifgoniaaE26
set_option linter.unusedVariables false
set_option linter.unusedSimpArgs false
namespace Go.Proofs.Eng

/-- Marks of loops over functions: nothing but a block of no calls, which nobody owns, lies behind each. -/
def Marks (n0 : Nat) (hp : Heap) (β : Beta) (H : NH) (ds : List Deferred) : Prop :=
  ds.Pairwise (fun d e => d.target ≠ e.target) ∧ ∀ d ∈ ds, ∃ r, d.target = .collected r ∧ hp[r]? = some (.deferred (some [])) ∧ Imm hp β H r ∧ n0 ≤ r
theorem Marks.step {n0 : Nat} {β β' : Beta} {H H' : NH} {W W' : World} {A : Nat → Bool} {ds : List Deferred} (h : Marks n0 W.heap β H ds) (hs : Step β H W β' H' W' A) : Marks n0 W'.heap β' H' ds :=
  ⟨h.1, fun d hd => let ⟨r, h1, h2, h3, h4⟩ := h.2 d hd; ⟨r, h1, by rw [(hs.good.ext.imm r h3).2]; exact h2, (hs.good.ext.imm r h3).1, h4⟩⟩
theorem Marks.nil {n0 : Nat} {hp : Heap} {β : Beta} {H : NH} : Marks n0 hp β H [] := ⟨List.Pairwise.nil, fun d hd => by simp at hd⟩

/-- What holds within a frame that began at β0, H0, W0. -/
structure At (G : Nat → NV) (β0 : Beta) (H0 : NH) (W0 : World) (s : FS) (β : Beta) (a : Act) (W : World) : Prop where
  step : Step β0 H0 W0 β s.H W (maskL s.A)
  tmps : RepT W.heap (Imm W.heap β s.H) β s.H s.t a.tmps
  glob : RepG W.heap (Imm W.heap β s.H) β s.H G
  marks : Marks W0.heap.size W.heap β s.H a.defers
  frame : s.A = [] → ∀ id, id ∉ s.T → id < H0.length → s.H[id]? = H0[id]?

section
variable {P : Program} {G : Nat → NV} {call : Caller} {H : NH} {ev : Operand → NV} {op : Op}

theorem optL_nil {A : Option Nat} (h : optL A = []) : A = none := by cases A <;> simp_all [optL]
theorem opN_frame (hC : CallOK P G call) {r : Out} (h : opN call P H ev op = some r) (hA : r.A = []) (id : Nat) (hT : id ∉ r.T) (hid : id < H.length) : r.H[id]? = H[id]? := by
  unfold opN at h
  split at h
  · cases h; rfl
  · split at h
    · cases h; rfl
    · split at h
      · rename_i h1
        cases h
        obtain rfl := optL_nil hA
        exact effV_frame h1 id hT
      · split at h
        · rename_i h1
          cases h
          exact effU_frame h1 id hT
        · split at h
          · split at h
            · rename_i co h2
              split at h
              · cases h
              · cases h
                exact hC.frame _ _ _ _ h2 hA id hT hid
            · cases h
          · cases h
theorem opP_frame (hC : CallOK P G call) {r : COut} (h : opP call H ev op = some r) (hA : r.A = []) (id : Nat) (hT : id ∉ r.T) (hid : id < H.length) : r.H[id]? = H[id]? := by
  unfold opP at h
  split at h
  · split at h
    · rename_i co h2
      split at h
      · cases h
        exact hC.frame _ _ _ _ h2 hA id hT hid
      · cases h
    · cases h
  · split at h
    · split at h
      · cases h; rfl
      · cases h
    · cases h
theorem opN_still {r : Out} (h : opN call P H ev op = some r) (he : r.eff = false) : r.H = H ∧ r.A = [] ∧ r.T = [] := by
  unfold opN at h
  split at h
  · cases h; exact ⟨rfl, rfl, rfl⟩
  · split at h
    · cases h; exact ⟨rfl, rfl, rfl⟩
    · split at h
      · cases h; simp at he
      · split at h
        · cases h; simp at he
        · split at h
          · split at h
            · split at h
              · cases h
              · cases h; simp at he
            · cases h
          · cases h

variable {ops : Array Oper} {o : Oper} {t : List NV}
theorem coreO_frame (hC : CallOK P G call) {v : NV} {H' : NH} {e : En} (h : coreO call P G ops o t H = some (v, H', e)) (hA : e.A = []) (id : Nat) (hT : id ∉ e.T) (hid : id < H.length) : H'[id]? = H[id]? := by
  unfold coreO at h
  split at h
  · split at h
    · rename_i r h1
      cases h
      exact opN_frame hC h1 hA id hT hid
    · cases h
  · cases h; rfl
  · cases h
theorem coreO_still {v : NV} {H' : NH} {e : En} (h : coreO call P G ops o t H = some (v, H', e)) (he : e.eff = false) : H' = H ∧ e.A = [] ∧ e.T = [] := by
  unfold coreO at h
  split at h
  · split at h
    · rename_i r h1
      cases h
      exact opN_still h1 he
    · cases h
  · cases h; exact ⟨rfl, rfl, rfl⟩
  · cases h

theorem wanted_of {t : List NV} {tmps : Array Value} {hp : Heap} {imm : Nat → Prop} {β : Beta} {b : Bool} (hT : RepT hp imm β H t tmps) (h : wantedN ops t o = some b) : Region.wanted o (yielded ops tmps) = b := by
  unfold wantedN at h
  unfold Region.wanted
  split at h
  · rename_i hg; cases h; simp only [hg]
  · rename_i j want hg
    simp only [hg]
    unfold yielded
    split at h
    · rename_i hd; cases h; simp only [hd]; rfl
    · rename_i d hd
      rw [hd]
      simp only [Option.bind_some]
      split at h
      · rename_i ht
        cases h
        have : tmps[d]? = none := by
          rw [Array.getElem?_eq_none]
          rw [hT.size]
          exact List.getElem?_eq_none_iff.1 ht
        rw [this]; rfl
      · rename_i k ht
        cases h
        have hlt := (List.getElem?_eq_some_iff.1 ht).1
        have hy : tmps[d]? = some (tmps[d]'(by rw [hT.size]; exact hlt)) := Array.getElem?_eq_getElem _
        have := hT.at' d _ _ ht hy
        rw [hy, this.v_inv]
        rfl
      · rename_i k ht
        cases h
        have hlt := (List.getElem?_eq_some_iff.1 ht).1
        have hy : tmps[d]? = some (tmps[d]'(by rw [hT.size]; exact hlt)) := Array.getElem?_eq_getElem _
        have := hT.at' d _ _ ht hy
        rw [hy, this.v_inv]
        rfl
      · cases h

theorem cleanT_eq (A : List Nat) (t : List NV) : ∀ hp imm β H hp' imm' β' H' (tmps : Array Value), (∀ x y, Rep hp imm β H x y → Rep hp' imm' β' H' (cleanV (maskL A) x) y) → RepT hp imm β H t tmps →
    (∀ x y, A = [] → Rep hp imm β H x y → Rep hp' imm' β' H' x y) → RepT hp' imm' β' H' (cleanT A t) tmps := by
  intro hp imm β H hp' imm' β' H' tmps h hT h0
  cases A with
  | nil => 
    have := hT.map (f := fun x => x) (h0 · · rfl)
    simpa [cleanT] using this
  | cons a A => exact hT.map h
theorem RepT.putN {hp : Heap} {imm : Nat → Prop} {β : Beta} {tmps : Array Value} (h : RepT hp imm β H t tmps) (d : Option Tmp) {x : NV} {y : Value} (hxy : Rep hp imm β H x y) (ds : List Deferred) :
    RepT hp imm β H (putN t d x) ((⟨tmps, ds⟩ : Act).put d y).tmps := by
  cases d with
  | none => exact h
  | some d => rw [putN_some]; exact h.put d hxy
theorem put_act (a : Act) (d : Option Tmp) (y : Value) : (a.put d y).tmps = ((⟨a.tmps, a.defers⟩ : Act).put d y).tmps ∧ (a.put d y).defers = a.defers := by
  cases d <;> exact ⟨rfl, rfl⟩

/-- The package variables' addresses are never cleaned away. -/
def GOK (G : Nat → NV) : Prop := ∀ g A, cleanV A (G g) = G g

theorem At.next (hGG : GOK G) {β0 β β' : Beta} {H0 : NH} {W0 W W' : World} {s : FS} {a : Act} (h : At G β0 H0 W0 s β a W) {v : NV} {y : Value} {H' : NH} {e : En}
    (hs : Step β s.H W β' H' W' (maskL e.A)) (hr : Rep W'.heap (Imm W'.heap β' H') β' H' v y) (hf : e.A = [] → ∀ id, id ∉ e.T → id < s.H.length → H'[id]? = s.H[id]?) :
    At G β0 H0 W0 (putF o s v H' e) β' (a.put o.dst y) W' := by
  obtain ⟨h1, h2, h3, h4, h5⟩ := h
  refine ⟨?_, ?_, ?_, ?_, ?_⟩
  · have := h1.trans hs
    simp only [putF]
    rw [maskL_union]
    exact this
  · rw [(put_act a o.dst y).1]
    refine RepT.putN (cleanT_eq e.A s.t _ _ _ _ _ _ _ _ _ (fun x y h => hs.rep h) h2 fun x y he h => ?_) _ hr _
    rw [he, maskL_nil] at hs
    exact hs.rep0 h
  · intro g
    have := hs.rep (h3 g)
    rw [hGG] at this
    exact this
  · rw [(put_act a o.dst y).2]; exact h4.step hs
  · intro hA id hid hlt
    simp only [putF] at hA hid ⊢
    obtain ⟨hA1, hA2⟩ := unionT_nil hA
    rw [mem_unionT, not_or] at hid
    have hlt' : id < s.H.length := (h1.good.keep id hlt (by rw [hA2]; rfl)).1
    rw [hf hA1 id hid.1 hlt', h5 hA2 id hid.2 hlt]
theorem At.thrown (hGG : GOK G) {β0 β β' : Beta} {H0 : NH} {W0 W W' : World} {s : FS} {a : Act} (h : At G β0 H0 W0 s β a W) {H' : NH} {A T : List Nat}
    (hs : Step β s.H W β' H' W' (maskL A)) (hf : A = [] → ∀ id, id ∉ T → id < s.H.length → H'[id]? = s.H[id]?) :
    At G β0 H0 W0 ⟨cleanT A s.t, H', unionT A s.A, unionT T s.T⟩ β' a W' := by
  have := h.next (o := { dst := none, op := .move (.tmp 0), type := 0, pos := default, after := #[], guard := none }) hGG (v := .junk) (y := undef) (e := ⟨true, A, T, [], 0, none⟩) hs (.junk _) hf
  exact this

/-- An operation, in its frame. -/
theorem stepO_run (hC : CallOK P G call) (hGG : GOK G) {β0 β : Beta} {H0 : NH} {W0 W : World} {r : Option Nat} {n : Nat} {s s' : FS} {e : En} {a : Act} {i : Nat} {K : Act → World → Prop} {Q : Exit → Act → World → Prop}
    (hat : At G β0 H0 W0 s β a W) (hi : ops[i]? = some o) (h : stepO call P G ops o s = some (s', e)) (hk : ∀ β' a' W', At G β0 H0 W0 s' β' a' W' → K a' W') : wpOpIn (fen r) n P ops Q i K a W := by
  unfold stepO at h
  split at h
  · rename_i v H' e' hc
    cases h
    have hfr := fun hA id => coreO_frame hC hc hA id
    unfold coreO at hc
    unfold wpOpIn
    simp only [hi]
    split at hc
    · rename_i hw
      rw [wanted_of hat.tmps hw]
      simp only [if_true]
      split at hc
      · rename_i r hr
        cases hc
        refine Does.wp ((opN_does hC hat.step.st hat.tmps hat.glob hr).mono fun y W' hy => ?_)
        obtain ⟨β', k2, k3⟩ := hy
        exact hk _ _ _ (hat.next hGG k2 k3 hfr)
      · cases hc
    · rename_i hw
      rw [wanted_of hat.tmps hw]
      simp only [Bool.false_eq_true, if_false]
      cases hc
      exact ⟨fun _ _ => trivial, hk _ _ _ (hat.next hGG (e := ⟨false, [], [], [], 0, none⟩) (by rw [maskL_nil]; exact Step.refl hat.step.st) (.p _ _ (.v _)) hfr)⟩
    · cases hc
  · cases h
/-- An operation that throws, in its frame. -/
theorem stepP_run (hC : CallOK P G call) (hGG : GOK G) {β0 β : Beta} {H0 : NH} {W0 W : World} {r : Option Nat} {n : Nat} {s s' : FS} {v : NV} {a : Act} {i : Nat} {K : Act → World → Prop} {Q : Exit → Act → World → Prop}
    (hat : At G β0 H0 W0 s β a W) (hi : ops[i]? = some o) (h : stepP call G ops o s = some (v, s'))
    (hk : ∀ β' W' y, At G β0 H0 W0 s' β' a W' → Rep W'.heap (Imm W'.heap β' s'.H) β' s'.H v y → Q (.panic [{ v := y, recovered := false }]) a W') : wpOpIn (fen r) n P ops Q i K a W := by
  unfold stepP at h
  split at h
  · rename_i hw
    split at h
    · rename_i c hc
      cases h
      unfold wpOpIn
      simp only [hi]
      rw [wanted_of hat.tmps hw]
      simp only [if_true]
      exact opP_throws hC hat.step.st hat.tmps hat.glob hc fun y W' β' k1 k2 => hk β' W' y (hat.thrown hGG k1 fun hA id h1 h2 => opP_frame hC hc hA id h1 h2) k2
    · cases h
  · cases h
theorem stepP_frame (hC : CallOK P G call) {s s' : FS} {v : NV} (h : stepP call G ops o s = some (v, s')) : ∃ A T, s'.A = unionT A s.A ∧ s'.T = unionT T s.T ∧ (A = [] → ∀ id, id ∉ T → id < s.H.length → s'.H[id]? = s.H[id]?) := by
  unfold stepP at h
  split at h
  · split at h
    · rename_i c hc
      cases h
      exact ⟨c.A, c.T, rfl, rfl, fun hA id h1 h2 => opP_frame hC hc hA id h1 h2⟩
    · cases h
  · cases h
end
end Go.Proofs.Eng
