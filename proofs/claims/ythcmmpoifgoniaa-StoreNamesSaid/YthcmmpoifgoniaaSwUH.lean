/- Store.used, and maps.Equal of two empty maps, as hooks. -/
import Derived.Test.YthcmmpoifgoniaaSwU
import Derived.Test.YthcmmpoifgoniaaSwC
namespace Go.Proofs.Ythcmmpoifgoniaa
open Go.RowKit Go.Proofs.Eng
set_option linter.unusedVariables false

def bareL (s : ByteArray) : Bool := s.data.toList == [109, 48] || s.data.toList == [109, 49]
theorem bareL_eq (s : ByteArray) : bareB s = bareL s := by simp only [bareB, bareL, ByteArray.toList_eq]
def usedS : List (Value × VV) → Option Nat
  | [] => some 0
  | (.string k, .v (.string d)) :: l => match usedS l with
    | some n => if bareL k then some n else some (d.size + n)
    | none => none
  | _ => none
def usedN : Hook := fun xs H =>
  match xs with
  | [.ptr s 0] => match H[s]? with
    | some (.row _ sz cells) => match (cells[2]? : Option NV) with
      | some (.map m) => match H[m]? with
        | some (.map es) => match keyS es with
          | some ks => if noDup ks then match usedS es with
            | some n => if Nat.ble n 1000000000 then some ⟨false, .p (.v (.int .i64 (n : Int))), H, [], []⟩ else none
            | none => none
            else none
          | none => none
        | _ => none
      | _ => none
    | _ => none
  | _ => none
theorem usedS_eq : ∀ {es : List (Value × VV)} {n : Nat} {me : List MapEntry}, usedS es = some n → me.length = es.length →
    (∀ (i : Nat) (k : Value) (x : VV) (e : MapEntry), es[i]? = some (k, x) → me[i]? = some e → e.key = k ∧ ∀ y, x = .v y → e.val = y) →
    (me.map costE).sum = n ∧ ∀ x ∈ me, ∃ k d, x.key = .string k ∧ x.val = .string d
  | [], n, [], h, _, _ => by cases h; simp
  | [], n, _ :: _, h, hl, _ => by simp at hl
  | (k, x) :: l, n, [], h, hl, _ => by simp at hl
  | (k, x) :: l, n, e :: me, h, hl, hr => by
    obtain ⟨k, rfl⟩ : ∃ s, k = .string s := by
      cases k <;> first | exact ⟨_, rfl⟩ | (cases x <;> cases h)
    obtain ⟨d, rfl⟩ : ∃ d, x = .v (.string d) := by
      cases x with
      | v y => cases y <;> first | exact ⟨_, rfl⟩ | cases h
      | sl => cases h
      | agg => cases h
      | iface => cases h
    simp only [usedS] at h
    split at h
    · rename_i n' hn
      obtain ⟨h1, h2⟩ := usedS_eq (me := me) hn (by simpa using hl) (fun i k x e h1 h2 => hr (i + 1) k x e (by simpa using h1) (by simpa using h2))
      obtain ⟨k1, k2⟩ := hr 0 _ _ e rfl rfl
      have k3 := k2 _ rfl
      have hc : costE e = if bareB k then 0 else d.size := by simp only [costE, k1, k3]
      refine ⟨?_, fun z hz => ?_⟩
      · rw [List.map_cons, List.sum_cons, h1, hc, bareL_eq]
        split at h
        · rename_i hb; cases h; simp [hb]
        · rename_i hb; cases h; simp [hb]
      · rcases List.mem_cons.1 hz with rfl | hz
        · exact ⟨k, d, k1, k3⟩
        · exact h2 z hz
    · cases h
theorem used_ok : HookOK Try.prog gl 72 usedN := by
  constructor
  · intro xs H o h W β ys hst hG hr
    unfold usedN at h
    split at h
    · rename_i s
      obtain ⟨y, rfl, hy⟩ := repL_one hr
      split at h
      · rename_i T sz cells ho
        split at h
        · rename_i m hc2
          split at h
          · rename_i es hm
            split at h
            · rename_i ks hks
              split at h
              · rename_i hd
                split at h
                · rename_i n hn
                  split at h
                  · rename_i hle
                    cases h
                    cases hy with
                    | ptr _ _ l hid hl =>
                      obtain ⟨c, fr, c1, c2, c3, c4, c5, c6⟩ := (hst.obj s _ ho).at hl
                      have hlen : 2 < cells.length := (List.getElem?_eq_some_iff.1 hc2).1
                      have hcs : 2 < c.size := by have := c3.1; have := c3.2; omega
                      have hc0 : c[2]? = some c[2] := Array.getElem?_eq_getElem hcs
                      have h7 := (c6 2 _ _ hc2 (by rw [show l.o + 2 = 2 from Nat.zero_add _]; exact hc0)).2
                      generalize hcv : c[2] = cv at h7 hc0
                      cases h7 with
                      | map _ l2 hid2 hl2 =>
                        obtain ⟨me, clock, m1, m2, m3, m4, m5⟩ := (hst.obj m _ hm).at hl2
                        obtain ⟨k1, k2⟩ := keyS_eq hks
                        obtain ⟨hstamp, hkeys⟩ := stamped_of m2 (fun i k x e h1 h2 => (m3 i k x e h1 h2).1) m4 m5 k1 (noDup_nodup hd)
                        obtain ⟨u1, u2⟩ := usedS_eq (me := me.toList) hn (by simpa using m2) (fun i k x e h1 h2 => by
                          rw [Array.getElem?_toList] at h2
                          obtain ⟨q1, q2⟩ := m3 i k x e h1 h2
                          exact ⟨q1, fun y hy => by subst hy; cases q2; rfl⟩)
                        refine ⟨enters Try.func72 (by kernel_rfl) rfl _ _, (used_walk l.b l2.b me clock W (by rw [cell?_eq, cellAt, c1]; exact hc0) m1 hstamp u2 (by rw [u1]; exact Nat.le_of_ble_eq_true hle)).mono fun e w' he => ?_⟩
                        obtain ⟨rfl, hb⟩ := he
                        rw [u1]
                        exact ⟨rfl, β, by rw [maskL_nil]; exact below_step hst hb, .p _ _ (.v _)⟩
                  · cases h
                · cases h
              · cases h
            · cases h
          · cases h
        · cases h
      · cases h
    · cases h
  · intro xs H o h hA id hid hlt
    unfold usedN at h
    repeat (split at h <;> try (cases h; done))
    cases h; rfl
end Go.Proofs.Ythcmmpoifgoniaa
