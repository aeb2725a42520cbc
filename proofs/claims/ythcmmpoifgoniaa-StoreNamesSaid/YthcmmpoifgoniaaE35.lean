/- The engine, part 35: code and calls, made for the kernel. -/
import Derived.Test.YthcmmpoifgoniaaE34
set_option linter.unusedVariables false
set_option linter.unusedSimpArgs false
namespace Go.Proofs.Eng

noncomputable def iterK (f : FSK → Option (NX × FSK)) : Nat → FSK → Option (NX × FSK)
  | 0, _ => none
  | n + 1, s => match f s with
    | some (.normal, s1) => iterK f n s1
    | r => r
noncomputable def toL (n : Nat) (t : TT) : List NV := (List.range n).map (getK t)
noncomputable def afterK (o : COut) (id : Nat) (s : FSK) : Option (NX × FSK) :=
  if o.p then none
  else if o.A.contains id then none
  else match o.H[id]? with
    | some (.loop t2 ps2 as2 b2 st pend) => match st with
      | .busy => none
      | _ => match pend with
        | none => some (.normal, ⟨cleanK o.A s.t, o.H.set id (.loop t2 ps2 as2 b2 .exhausted none), unionT o.A s.A, unionT o.T s.T⟩)
        | some .ret => some (.ret, ⟨cleanK o.A s.t, o.H.set id (.loop t2 ps2 as2 b2 .exhausted (some .ret)), unionT o.A s.A, unionT o.T s.T⟩)
        | some (.exit k) => some (.exit k, ⟨cleanK o.A s.t, o.H.set id (.loop t2 ps2 as2 b2 .exhausted (some (.exit k))), unionT o.A s.A, unionT o.T s.T⟩)
        | some _ => none
    | _ => none
noncomputable def execK (call : Caller) (P : Program) (G : Nat → NV) (fuel : Nat) (rd : Bool) (n : Nat) : Code → FSK → Option (NX × FSK)
  | .skip, s => some (.normal, s)
  | .region _ ops draw, s => match regionK call P G n ops draw s with
    | some (none, s') => some (.normal, s')
    | some (some v, s') => some (.pan v, s')
    | none => none
  | .seq x y, s => match execK call P G fuel rd n x s with
    | some (.normal, s1) => execK call P G fuel rd n y s1
    | r => r
  | .cond c x y, s => match evalK G s.t c with
    | .p (.v (.bool true)) => execK call P G fuel rd n x s
    | .p (.v (.bool false)) => execK call P G fuel rd n y s
    | _ => none
  | .block id c, s => match execK call P G fuel rd n c s with
    | some (.exit i, s1) => if Nat.beq i id = true then some (.normal, s1) else some (.exit i, s1)
    | r => r
  | .loop c, s => iterK (fun s => execK call P G fuel rd n c s) fuel s
  | .exit id, s => some (.exit id, s)
  | .scope c, s => execK call P G fuel rd n c s
  | .label _, s => some (.normal, s)
  | .ret, s => some (.ret, s)
  | .rangeFunc g ps assign body, s =>
    if rd then none
    else match evalK G s.t g with
      | .fn (.func f) first cap => match call (.fn f) (first ++ [.yld s.H.length] ++ cap) (s.H ++ [.loop (toL n s.t) ps assign body .ready none]) with
        | some o => afterK o s.H.length s
        | none => none
      | _ => none
  | _, _ => none
noncomputable def resK (P : Program) (n : Nat) (s : FSK) : ResultVar → Option NV
  | .tmp t => if Nat.ble (Nat.succ t) n = true then some (getK s.t t) else none
  | .cell a T => loadN P s.H T (getK s.t a)
noncomputable def resultsLK (P : Program) (n : Nat) (s : FSK) : List ResultVar → Option (List NV)
  | [] => some []
  | r :: rs => match resK P n s r with
    | some v => match resultsLK P n s rs with
      | some vs => some (v :: vs)
      | none => none
    | none => none
noncomputable def resultsK (P : Program) (n : Nat) (s : FSK) (rs : List ResultVar) : Option NV :=
  match resultsLK P n s rs with
  | some [v] => some v
  | some vs => some (.tup vs)
  | none => none
noncomputable def getU (xs : List NV) : Nat → NV :=
  List.rec (motive := fun _ => Nat → NV) (fun _ => undefN) (fun x _ ih n => Nat.rec (motive := fun _ => NV) x (fun m _ => ih m) n) xs
noncomputable def roundK (call : Caller) (P : Program) (G : Nat → NV) (fuel : Nat) (id : Nat) (xs : List NV) (H : NH) : Option COut :=
  match H[id]? with
  | some (.loop t ps assign body .ready pend) =>
    if xs.length = ps.size then
      match execK call P G fuel true t.length assign ⟨ofL t.length (getT (setL t (ps.toList.zip xs))), H, [], []⟩ with
      | some (.normal, s1) =>
        if s1.A.contains id then none
        else match s1.H[id]? with
          | some (.loop t1 ps1 as1 b1 .ready pend1) =>
            match execK call P G fuel true t.length body ⟨s1.t, s1.H.set id (.loop t1 ps1 as1 b1 .busy pend1), s1.A, unionT [id] s1.T⟩ with
            | some (x, s2) =>
              if s2.A.contains id then none
              else match x.jump with
                | some j => match s2.H[id]? with
                  | some (.loop t2 ps2 as2 b2 st2 pend2) => some ⟨false, bN j.isNone, s2.H.set id (.loop t2 ps2 as2 b2 (if j.isNone then .ready else .done) j), s2.A, s2.T⟩
                  | _ => none
                | none => none
            | none => none
          | _ => none
      | _ => none
    else none
  | _ => none
noncomputable def callK (C : Cfg) : Nat → Caller
  | 0 => fun _ _ _ => none
  | d + 1 => fun g xs H => match g with
    | .fn f => match C.hook (.fn f) xs H with
      | some o => some o
      | none => match C.F f with
        | some fn => match fn.body with
          | some c => match execK (callK C d) C.P C.G C.fuel false (xs.length + (fn.ntmps - xs.length)) c ⟨ofL (xs.length + (fn.ntmps - xs.length)) (getU xs), H, [], []⟩ with
            | some (.exit _, _) => none
            | some (.pan v, s) => some ⟨true, v, s.H, s.A, s.T⟩
            | some (_, s) => match resultsK C.P (xs.length + (fn.ntmps - xs.length)) s fn.results.toList with
              | some v => some ⟨false, v, if C.cut f then cutN H.length v s.H else s.H, s.A, s.T⟩
              | none => none
            | none => none
          | none => none
        | none => none
    | .yld id => roundK (callK C d) C.P C.G C.fuel id xs H

section
variable {c c' : Caller} {P : Program} {G : Nat → NV}
theorem regionK_sim (hc : LeC c c') {ops : Array Oper} {n : Nat} {draw : Bool} {k k' : FSK} {x : Option NV} {s : FS} (hr : RelF n k s) (h : regionK c P G n ops draw k = some (x, k')) :
    ∃ s', RelF n k' s' ∧ regionN c' P G ops draw s = some (x, s') := by
  unfold regionK at h
  unfold regionN
  cases draw with
  | false =>
    simp only [Bool.false_eq_true, if_false] at h ⊢
    exact runPK_sim hc _ _ _ _ _ hr h
  | true =>
    simp only [if_true] at h ⊢
    split at h
    · rename_i k1 es h1
      split at h
      · rename_i hst
        split at h
        · rename_i hdy
          cases h
          obtain ⟨s1, r1, q1⟩ := runLK_sim hc _ _ _ _ _ hr h1
          refine ⟨s1, r1, ?_⟩
          rw [q1]
          simp only
          have hp := dynOK_pairs _ es (runL_rows _ _ _ _ q1) hdy
          unfold statOK at hst
          rw [if_pos]
          rw [hst, hp]; rfl
        · cases h
      · cases h
    · cases h
theorem toL_eq {n : Nat} {tt : TT} {t : List NV} (h : RelT n tt t) : toL n tt = t := by
  apply List.ext_getElem?
  intro i
  unfold toL
  rw [List.getElem?_map]
  have hl := h.len
  by_cases hi : i < n
  · rw [List.getElem?_range hi, Option.map_some, h.get, List.getD_eq_getElem?_getD, List.getElem?_eq_getElem (by omega)]; rfl
  · rw [List.getElem?_eq_none (by simpa using hi), List.getElem?_eq_none (by omega)]; rfl
theorem afterK_sim {n : Nat} {o : COut} {id : Nat} {k k' : FSK} {x : NX} {s : FS} (hr : RelF n k s) (h : afterK o id k = some (x, k')) : ∃ s', RelF n k' s' ∧ afterN o id s = some (x, s') := by
  obtain ⟨h1, h2, h3, h4⟩ := hr
  unfold afterK at h
  unfold afterN
  split at h
  · cases h
  rename_i hp
  rw [if_neg hp]
  split at h
  · cases h
  rename_i hA
  rw [if_neg hA]
  split at h
  · rename_i t2 ps2 as2 b2 st pend ho
    rw [ho]
    simp only
    split at h
    · cases h
    · rename_i st' hst
      rw [if_neg hst]
      split at h
      · cases h; exact ⟨_, ⟨h1.clean o.A, rfl, by simp only [h3], by simp only [h4]⟩, rfl⟩
      · cases h; exact ⟨_, ⟨h1.clean o.A, rfl, by simp only [h3], by simp only [h4]⟩, rfl⟩
      · cases h; exact ⟨_, ⟨h1.clean o.A, rfl, by simp only [h3], by simp only [h4]⟩, rfl⟩
      · cases h
  · cases h
theorem execK_sim (hc : LeC c c') {fuel : Nat} {rd : Bool} {n : Nat} : ∀ (cd : Code) (k k' : FSK) (x : NX) (s : FS), RelF n k s → execK c P G fuel rd n cd k = some (x, k') → ∃ s', RelF n k' s' ∧ execC c' P G fuel rd cd s = some (x, s') := by
  intro cd
  induction cd with
  | skip => intro k k' x s hr h; simp only [execK] at h; cases h; exact ⟨s, hr, rfl⟩
  | region id ops draw =>
    intro k k' x s hr h
    simp only [execK] at h
    split at h
    · rename_i k1 h1
      cases h
      obtain ⟨s1, r1, q1⟩ := regionK_sim hc hr h1
      exact ⟨s1, r1, by simp only [execC, q1]⟩
    · rename_i v k1 h1
      cases h
      obtain ⟨s1, r1, q1⟩ := regionK_sim hc hr h1
      exact ⟨s1, r1, by simp only [execC, q1]⟩
    · cases h
  | seq c1 c2 ih1 ih2 =>
    intro k k' x s hr h
    simp only [execK] at h
    split at h
    · rename_i k1 h1
      obtain ⟨s1, r1, q1⟩ := ih1 _ _ _ _ hr h1
      obtain ⟨s2, r2, q2⟩ := ih2 _ _ _ _ r1 h
      exact ⟨s2, r2, by simp only [execC, q1]; exact q2⟩
    · rename_i hn
      obtain ⟨s1, r1, q1⟩ := ih1 _ _ _ _ hr h
      refine ⟨s1, r1, ?_⟩
      simp only [execC, q1]
      cases x with
      | normal => exact absurd h (hn k')
      | _ => rfl
  | cond o c1 c2 ih1 ih2 =>
    intro k k' x s hr h
    simp only [execK] at h
    rw [evalK_eq hr.t] at h
    split at h
    · rename_i he
      obtain ⟨s1, r1, q1⟩ := ih1 _ _ _ _ hr h
      exact ⟨s1, r1, by simp only [execC, he]; exact q1⟩
    · rename_i he
      obtain ⟨s1, r1, q1⟩ := ih2 _ _ _ _ hr h
      exact ⟨s1, r1, by simp only [execC, he]; exact q1⟩
    · cases h
  | block id c1 ih =>
    intro k k' x s hr h
    simp only [execK] at h
    split at h
    · rename_i i k1 h1
      obtain ⟨s1, r1, q1⟩ := ih _ _ _ _ hr h1
      split at h
      · rename_i hb
        cases h
        exact ⟨s1, r1, by simp only [execC, q1]; rw [if_pos (Nat.eq_of_beq_eq_true hb)]⟩
      · rename_i hb
        cases h
        refine ⟨s1, r1, ?_⟩
        simp only [execC, q1]
        rw [if_neg fun e => hb (by rw [e]; exact Nat.beq_refl _)]
    · rename_i hn
      obtain ⟨s1, r1, q1⟩ := ih _ _ _ _ hr h
      refine ⟨s1, r1, ?_⟩
      simp only [execC, q1]
      cases x with
      | exit i => exact absurd h (hn i k')
      | _ => rfl
  | loop c1 ih =>
    intro k k' x s hr h
    simp only [execK] at h
    have key : ∀ (m : Nat) (k : FSK) (s : FS), RelF n k s → iterK (fun s => execK c P G fuel rd n c1 s) m k = some (x, k') → ∃ s', RelF n k' s' ∧ iterN (fun s => execC c' P G fuel rd c1 s) m s = some (x, s') := by
      intro m
      induction m with
      | zero => intro k s hr h; simp only [iterK] at h; cases h
      | succ m ihn =>
        intro k s hr h
        simp only [iterK] at h
        split at h
        · rename_i k1 h1
          obtain ⟨s1, r1, q1⟩ := ih _ _ _ _ hr h1
          obtain ⟨s2, r2, q2⟩ := ihn _ _ r1 h
          exact ⟨s2, r2, by simp only [iterN, q1]; exact q2⟩
        · rename_i hn
          obtain ⟨s1, r1, q1⟩ := ih _ _ _ _ hr h
          refine ⟨s1, r1, ?_⟩
          simp only [iterN, q1]
          cases x with
          | normal => exact absurd h (hn k')
          | _ => rfl
    obtain ⟨s1, r1, q1⟩ := key fuel k s hr h
    exact ⟨s1, r1, by simp only [execC]; exact q1⟩
  | exit id => intro k k' x s hr h; simp only [execK] at h; cases h; exact ⟨s, hr, rfl⟩
  | scope c1 ih =>
    intro k k' x s hr h
    simp only [execK] at h
    obtain ⟨s1, r1, q1⟩ := ih _ _ _ _ hr h
    exact ⟨s1, r1, by simp only [execC]; exact q1⟩
  | label l => intro k k' x s hr h; simp only [execK] at h; cases h; exact ⟨s, hr, rfl⟩
  | ret => intro k k' x s hr h; simp only [execK] at h; cases h; exact ⟨s, hr, rfl⟩
  | rangeFunc g ps as' body ih1 ih2 =>
    intro k k' x s hr h
    simp only [execK] at h
    split at h
    · cases h
    rename_i hrd
    rw [evalK_eq hr.t] at h
    split at h
    · rename_i f first cap he
      split at h
      · rename_i o ho
        rw [toL_eq hr.t, hr.H] at ho
        rw [hr.H] at h
        obtain ⟨s1, r1, q1⟩ := afterK_sim hr h
        refine ⟨s1, r1, ?_⟩
        simp only [execC]
        rw [if_neg hrd, he]
        simp only [hc _ _ _ _ ho]
        exact q1
      · cases h
    · cases h
  | goto l => intro k k' x s hr h; simp only [execK] at h; cases h
  | refuse w => intro k k' x s hr h; simp only [execK] at h; cases h
theorem resK_sim {n : Nat} {k : FSK} {s : FS} (hr : RelF n k s) {r : ResultVar} {v : NV} (h : resK P n k r = some v) : resN P s r = some v := by
  cases r with
  | tmp t =>
    simp only [resK] at h
    split at h
    · rename_i hlt
      have hlt : t < n := Nat.le_of_ble_eq_true hlt
      have hl : t < s.t.length := by rw [hr.t.len]; exact hlt
      rw [hr.t.get, List.getD_eq_getElem?_getD, List.getElem?_eq_getElem hl] at h
      simp only [resN, List.getD_eq_getElem?_getD, List.getElem?_eq_getElem hl]
      exact h
    · cases h
  | cell a T =>
    simp only [resK] at h
    simp only [resN]
    rw [hr.t.get, hr.H] at h
    exact h
theorem resultsLK_sim {n : Nat} {k : FSK} {s : FS} (hr : RelF n k s) : ∀ (rs : List ResultVar) (vs : List NV), resultsLK P n k rs = some vs → resultsL P s rs = some vs := by
  intro rs
  induction rs with
  | nil => intro vs h; exact h
  | cons r rs ih =>
    intro vs h
    simp only [resultsLK] at h
    split at h
    · rename_i v hv
      split at h
      · rename_i vs' hvs
        cases h
        simp only [resultsL, resK_sim hr hv, ih _ hvs]
      · cases h
    · cases h
theorem resultsK_sim {n : Nat} {k : FSK} {s : FS} (hr : RelF n k s) {rs : List ResultVar} {v : NV} (h : resultsK P n k rs = some v) : resultsN P s rs = some v := by
  unfold resultsK at h
  unfold resultsN
  split at h
  · rename_i x hx; rw [resultsLK_sim hr _ _ hx]; exact h
  · rename_i vs hn hx
    rw [resultsLK_sim hr _ _ hx]
    cases h
    split
    · rename_i x e; injection e with e; subst e; exact absurd rfl (hn x)
    · rename_i vs' hn' e; injection e with e; subst e; rfl
    · rename_i e; cases e
  · cases h
theorem setL_length : ∀ (l : List (Nat × NV)) (t : List NV), (setL t l).length = t.length := by
  intro l
  induction l with
  | nil => intro t; rfl
  | cons p l ih => intro t; obtain ⟨i, v⟩ := p; simp only [setL, ih, List.length_set]
theorem roundK_sim (hc : LeC c c') {fuel id : Nat} {xs : List NV} {H : NH} {o : COut} (h : roundK c P G fuel id xs H = some o) : roundN c' P G fuel id xs H = some o := by
  unfold roundK at h
  unfold roundN
  split at h
  · rename_i t ps as' body pend hid
    simp only [hid]
    split at h
    · rename_i hlen
      rw [if_pos hlen]
      split at h
      · rename_i k1 h1
        have hr0 : RelF t.length ⟨ofL t.length (getT (setL t (ps.toList.zip xs))), H, [], []⟩ ⟨setL t (ps.toList.zip xs), H, [], []⟩ :=
          ⟨ofL_rel (setL_length _ _) fun i _ => getT_eq _ _, rfl, rfl, rfl⟩
        obtain ⟨s1, r1, q1⟩ := execK_sim hc _ _ _ _ _ hr0 h1
        simp only [q1]
        rw [r1.A] at h
        split at h
        · cases h
        rename_i hA
        rw [if_neg hA]
        rw [r1.H] at h
        split at h
        · rename_i t1 ps1 as1 b1 pend1 hid1
          simp only [hid1]
          split at h
          · rename_i x k2 h2
            obtain ⟨s2, r2, q2⟩ := execK_sim hc body ⟨k1.t, s1.H.set id (.loop t1 ps1 as1 b1 .busy pend1), s1.A, unionT [id] k1.T⟩ k2 x ⟨s1.t, s1.H.set id (.loop t1 ps1 as1 b1 .busy pend1), s1.A, unionT [id] s1.T⟩ ⟨r1.t, rfl, rfl, (by show unionT [id] k1.T = unionT [id] s1.T; rw [r1.T])⟩ h2
            simp only [q2]
            rw [r2.A] at h
            split at h
            · cases h
            rename_i hA2
            rw [if_neg hA2]
            split at h
            · rename_i j hj
              simp only [hj]
              rw [r2.H] at h
              split at h
              · rename_i t2 ps2 as2 b2 st2 pend2 hid2
                simp only [hid2]
                rw [r2.T] at h
                exact h
              · cases h
            · cases h
          · cases h
        · cases h
      · cases h
    · cases h
  · cases h
theorem getU_eq (xs : List NV) (i : Nat) : getU xs i = xs.getD i undefN := by
  induction xs generalizing i with
  | nil => rfl
  | cons x t ih => cases i with
    | zero => rfl
    | succ i => exact ih i
theorem callK_sim (C : Cfg) : ∀ d, LeC (callK C d) (callN C d) := by
  intro d
  induction d with
  | zero => intro g xs H o h; simp [callK] at h
  | succ d ih =>
    intro g xs H o h
    cases g with
    | yld id => simp only [callK] at h; simp only [callN]; exact roundK_sim ih h
    | fn f =>
      simp only [callK] at h
      simp only [callN]
      split at h
      · rename_i o' ho; simp only [ho]; exact h
      · rename_i ho
        simp only [ho]
        split at h
        · rename_i fn hF
          simp only [hF]
          split at h
          · rename_i cd hb
            simp only [hb]
            have hr0 : RelF (xs.length + (fn.ntmps - xs.length)) ⟨ofL (xs.length + (fn.ntmps - xs.length)) (getU xs), H, [], []⟩ ⟨xs ++ List.replicate (fn.ntmps - xs.length) undefN, H, [], []⟩ := by
              refine ⟨ofL_rel (by simp) fun i hi => ?_, rfl, rfl, rfl⟩
              have hi : i < xs.length + (fn.ntmps - xs.length) := hi
              rw [getU_eq, List.getD_eq_getElem?_getD, List.getD_eq_getElem?_getD]
              by_cases hx : i < xs.length
              · rw [List.getElem?_append_left hx, List.getElem?_eq_getElem hx]; rfl
              · rw [List.getElem?_append_right (by omega), List.getElem?_eq_none (by omega), List.getElem?_replicate, if_pos (by omega)]; rfl
            split at h
            · cases h
            · rename_i v k1 h1
              obtain ⟨s1, r1, q1⟩ := execK_sim ih _ _ _ _ _ hr0 h1
              simp only [q1]
              rw [r1.H, r1.A, r1.T] at h
              exact h
            · rename_i x k1 hn hn' h1
              obtain ⟨s1, r1, q1⟩ := execK_sim ih _ _ _ _ _ hr0 h1
              split at h
              · rename_i v hv
                have hv' := resultsK_sim r1 hv
                rw [r1.H, r1.A, r1.T] at h
                simp only [q1]
                cases x with
                | exit i => exact (hn i rfl).elim
                | pan v => exact (hn' v rfl).elim
                | normal => simp only [hv']; exact h
                | ret => simp only [hv']; exact h
              · cases h
            · cases h
          · cases h
        · cases h
end
/-- A run that begins with no object, by the run that is made for the kernel. -/
theorem closed_runK {C : Cfg} (hC : C.OK) {d : Nat} {f : FuncId} {b : Bool} (h : ((callK C d (.fn f) [] []).map fun o => (o.p, o.v)) = some (false, bN b)) (W : World)
    (hG : RepG W.heap (Imm W.heap (fun _ => none) []) (fun _ => none) [] C.G) :
    Calls C.P f #[] W fun e W' => e = .returned (.bool b) ∧ RowKit.Below W.heap.size W W' := by
  rw [Option.map_eq_some_iff] at h
  obtain ⟨⟨p, v, H, A, T⟩, h1, h2⟩ := h
  cases h2
  exact closed_run hC (callK_sim C d _ _ _ _ h1) W hG
end Go.Proofs.Eng
