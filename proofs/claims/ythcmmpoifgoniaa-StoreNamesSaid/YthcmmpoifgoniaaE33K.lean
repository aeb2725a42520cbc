/- The engine, part 33k: an operation, by one look at its kind: the kernel's runs are shorter so. -/
import Derived.Test.YthcmmpoifgoniaaE33
set_option linter.unusedVariables false
set_option linter.unusedSimpArgs false
namespace Go.Proofs.Eng

def kPure (H : NH) (ev : Operand → NV) (op : Op) (r : NV) : Option Out := some ⟨r, H, [], [], [], false, refsOf ev op r⟩
def kRead (H : NH) (ids : List Nat) (r : NV) : Option Out := some ⟨r, H, [], [], ids, false, none⟩
def kEff (r : NV) (H' : NH) (A : Option Nat) (T : List Nat) : Option Out := some ⟨r, H', optL A, T, [], true, none⟩
def kUnit (H' : NH) (T : List Nat) : Option Out := some ⟨undefN, H', [], T, [], true, none⟩
def kPureO (H : NH) (ev : Operand → NV) (op : Op) (r : Option NV) : Option Out :=
  match r with
  | some r => kPure H ev op r
  | none => none
def kEff1 (r : Option (NV × NH)) (T : List Nat) : Option Out :=
  match r with
  | some (r, H') => kEff r H' none T
  | none => none
def kUnitO (r : Option NH) (T : List Nat) : Option Out :=
  match r with
  | some H' => kUnit H' T
  | none => none
def kReadO (H : NH) (ids : List Nat) (r : Option NV) : Option Out :=
  match r with
  | some r => kRead H ids r
  | none => none
def kPick (H : NH) (ev : Operand → NV) (op : Op) (c a b : Operand) : Option Out :=
  match ev c with
  | .p (.v (.bool k)) => kPure H ev op (if k then ev a else ev b)
  | _ => none
def kUn (H : NH) (ev : Operand → NV) (op' : Op) (op : UnOp) (x : Operand) : Option Out :=
  match ev x with
  | .p (.v v) => kPureO H ev op' ((unN op v).map vN)
  | _ => none
def kExtract (H : NH) (ev : Operand → NV) (op : Op) (t : Operand) (i : Nat) : Option Out :=
  match ev t with
  | .tup xs => kPureO H ev op xs[i]?
  | _ => none
def kBin (P : Program) (H : NH) (ev : Operand → NV) (op' : Op) (op : BinOp) (T : TypeId) (x y : Operand) : Option Out :=
  match binN P op T x y (ev x) (ev y) with
  | some r => kPure H ev op' r
  | none => kReadO H (refV (ev x) ++ refV (ev y)) (cmpNilN P H op T (ev x) (ev y))
def kConv (P : Program) (H : NH) (ev : Operand → NV) (op : Op) (s d : TypeId) (x : Operand) : Option Out :=
  match convN P s d (ev x) with
  | some r => kPure H ev op r
  | none => match bytesN P H s d (ev x) with
    | some r => kRead H (refV (ev x)) r
    | none => kEff1 (strBytesN P H s d (ev x)) [H.length]
def kSlice (P : Program) (H : NH) (ev : Operand → NV) (op : Op) (T : TypeId) (x : Operand) (lo hi mx : Option Operand) : Option Out :=
  match sliceN P T (ev x) (lo.map ev) (hi.map ev) (mx.map ev) with
  | some r => kPure H ev op r
  | none => kReadO H (refV (ev x)) (sliceH P H T (ev x) (lo.map ev) (hi.map ev) (mx.map ev))
def kIndexAddr (P : Program) (H : NH) (ev : Operand → NV) (op : Op) (T : TypeId) (x ix : Operand) : Option Out :=
  match indexAddrN P T (ev x) (ev ix) with
  | some r => kPure H ev op r
  | none => kReadO H (refV (ev x)) (indexAddrH P H T (ev x) (ev ix))
def kBuiltin (P : Program) (H : NH) (ev : Operand → NV) (op : Op) (c : Call) (b : Builtin) : Option Out :=
  match builtinPure P b c.argTypes (c.args.toList.map ev) with
  | some r => kPure H ev op r
  | none => match readN P H ev op with
    | some r => kRead H (readIds ev op) r
    | none => match effV P H ev op with
      | some (r, H', A, T) => kEff r H' A T
      | none => none
def kGo (o : Option COut) : Option Out :=
  match o with
  | some o => if o.p then none else some ⟨o.v, o.H, o.A, o.T, [], true, none⟩
  | none => none
def kValue (call : Caller) (H : NH) (ev : Operand → NV) (c : Call) (f : Operand) : Option Out :=
  match ev f with
  | .fn (.func g) first cap => kGo (call (.fn g) (first ++ c.args.toList.map ev ++ cap) H)
  | .yld id => kGo (call (.yld id) (c.args.toList.map ev) H)
  | _ => none
def kCall (call : Caller) (P : Program) (H : NH) (ev : Operand → NV) (op : Op) (c : Call) : Option Out :=
  match c.callee with
  | .builtin b => kBuiltin P H ev op c b
  | .value f => kValue call H ev c f
  | _ => none
noncomputable def opK (call : Caller) (P : Program) (H : NH) (ev : Operand → NV) (op : Op) : Option Out :=
  Op.rec (motive := fun _ => Option Out)
    (fun x => kPure H ev op (ev x))
    (fun x => kPure H ev op (ev x))
    (fun c a b => kPick H ev op c a b)
    (fun T => kEff1 (allocN P H T) [H.length])
    (fun T x => kEff1 (boxN P H T (ev x)) [H.length])
    (fun t parts => kPureO H ev op ((builtN P t (parts.toList.map fun q => (q.1, ev q.2))).map .agg))
    (fun T n parts => kEff1 (buildSliceN P H T n (parts.toList.map fun q => (q.1, ev q.2))) (H.length :: refL (parts.toList.map fun q => ev q.2)))
    (fun T m k x => kUnitO (mapUpdateN P H T (ev m) (ev k) (ev x)) (refV (ev m)))
    (fun T x => kReadO H (refV (ev x)) (loadN P H T (ev x)))
    (fun T a x => kUnitO (storeN P H T (ev a) (ev x)) (refV (ev a) ++ refV (ev x)))
    (fun _ => none)
    (fun _ => none)
    (fun x => kPureO H ev op (nilCheckN (ev x)))
    (fun o T x y _ => kBin P H ev op o T x y)
    (fun o _ x => kUn H ev op o x)
    (fun s d x => kConv P H ev op s d x)
    (fun _ _ => none)
    (fun T x => kPureO H ev op (makeIfaceN P T (ev x)))
    (fun f a b => kPure H ev op (.fn f (a.toList.map ev) (b.toList.map ev)))
    (fun T r => kEff1 (makeMapN P H T (r.map ev)) [H.length])
    (fun _ _ => none)
    (fun T l c => kEff1 (makeSliceN P H T (ev l) (ev c)) [H.length])
    (fun T x lo hi mx => kSlice P H ev op T x lo hi mx)
    (fun S x f => kPureO H ev op (fieldAddrN P S (ev x) f))
    (fun S x f => kPureO H ev op (fieldN P S (ev x) f))
    (fun T x ix => kIndexAddr P H ev op T x ix)
    (fun T x ix => kPureO H ev op (indexN P T (ev x) (ev ix)))
    (fun T x k ok => kReadO H (refV (ev x)) (lookupN P H T (ev x) (ev k) ok))
    (fun T m k x => kUnitO (mapUpdateN P H T (ev m) (ev k) (ev x)) (refV (ev m)))
    (fun _ _ _ => none)
    (fun _ _ _ _ => none)
    (fun _ _ => none)
    (fun _ _ => none)
    (fun _ => none)
    (fun _ _ _ _ => none)
    (fun t i => kExtract H ev op t i)
    (fun c => kCall call P H ev op c)
    (fun _ => none)
    (fun _ => none)
    (fun _ => none)
    (fun _ _ => none)
    (fun _ _ _ => none)
    (fun _ _ => none)
    op
theorem opK_eq (call : Caller) (P : Program) (H : NH) (ev : Operand → NV) (op : Op) : opK call P H ev op = opN call P H ev op := by
  cases op with
  | call c =>
    show kCall call P H ev (.call c) c = _
    unfold kCall
    cases hc : c.callee with
    | builtin b =>
      simp only [kBuiltin, opN, pureN, hc]
      cases builtinPure P b c.argTypes (c.args.toList.map ev) with
      | some r => rfl
      | none =>
        simp only
        cases readN P H ev (.call c) with
        | some r => rfl
        | none =>
          simp only
          cases effV P H ev (.call c) with
          | some q => rfl
          | none => simp only [effU, callArgs, hc]
    | value f =>
      simp only [kValue, opN, pureN, readN, effV, effU, callArgs, hc]
      split
      · rename_i g first cap he
        simp only [he]
        cases call (Tgt.fn g) (first ++ c.args.toList.map ev ++ cap) H <;> rfl
      · rename_i id he
        simp only [he]
        cases call (Tgt.yld id) (c.args.toList.map ev) H <;> rfl
      · rename_i h1 h2
        split
        · rename_i e
          split at e
          · rename_i g first cap he; exact absurd he (h1 g first cap)
          · rename_i id he; exact absurd he (h2 id)
          · cases e
        · rfl
    | invoke r n => simp only [opN, pureN, readN, effV, effU, callArgs, hc]
  | pick c a b =>
    show kPick H ev _ c a b = _
    simp only [kPick, opN, pureN]
    split
    · rename_i k he; simp only [he]; rfl
    · rename_i h
      split
      · rename_i r e
        split at e
        · rename_i k he; exact absurd he (h k)
        · cases e
      · rfl
  | unOp o T x =>
    show kUn H ev _ o x = _
    simp only [kUn, opN, pureN]
    split
    · rename_i v he
      simp only [he]
      cases (unN o v).map vN <;> rfl
    · rename_i h
      split
      · rename_i r e
        split at e
        · rename_i v he; exact absurd he (h v)
        · cases e
      · rfl
  | extract t i =>
    show kExtract H ev _ t i = _
    simp only [kExtract, opN, pureN]
    split
    · rename_i xs he
      simp only [he]
      cases xs[i]? <;> rfl
    · rename_i h
      split
      · rename_i r e
        split at e
        · rename_i v he; exact absurd he (h v)
        · cases e
      · rfl
  | alloc T => show kEff1 (allocN P H T) _ = _; simp only [opN, pureN, readN, effV]; cases allocN P H T <;> rfl
  | box T x => show kEff1 (boxN P H T (ev x)) _ = _; simp only [opN, pureN, readN, effV]; cases boxN P H T (ev x) <;> rfl
  | build t ps => show kPureO H ev _ _ = _; simp only [opN, pureN]; cases (builtN P t (ps.toList.map fun q => (q.1, ev q.2))).map NV.agg <;> rfl
  | buildSlice T n ps => show kEff1 _ _ = _; simp only [opN, pureN, readN, effV]; cases buildSliceN P H T n (ps.toList.map fun q => (q.1, ev q.2)) <;> rfl
  | insert T m k x => show kUnitO _ _ = _; simp only [opN, pureN, readN, effV, effU]; cases mapUpdateN P H T (ev m) (ev k) (ev x) <;> rfl
  | mapUpdate T m k x => show kUnitO _ _ = _; simp only [opN, pureN, readN, effV, effU]; cases mapUpdateN P H T (ev m) (ev k) (ev x) <;> rfl
  | load T x => show kReadO H _ _ = _; simp only [opN, pureN, readN]; cases loadN P H T (ev x) <;> rfl
  | lookup T x k ok => show kReadO H _ _ = _; simp only [opN, pureN, readN]; cases lookupN P H T (ev x) (ev k) ok <;> rfl
  | store T a x => show kUnitO _ _ = _; simp only [opN, pureN, readN, effV, effU]; cases storeN P H T (ev a) (ev x) <;> rfl
  | nilCheck x => show kPureO H ev _ _ = _; simp only [opN, pureN]; cases nilCheckN (ev x) <;> rfl
  | binOp o T x y yT =>
    show kBin P H ev _ o T x y = _
    simp only [kBin, opN, pureN, readN]
    cases binN P o T x y (ev x) (ev y) with
    | some r => rfl
    | none => simp only; cases cmpNilN P H o T (ev x) (ev y) <;> rfl
  | convert s d x =>
    show kConv P H ev _ s d x = _
    simp only [kConv, opN, pureN, readN, effV]
    cases convN P s d (ev x) with
    | some r => rfl
    | none =>
      simp only
      cases bytesN P H s d (ev x) with
      | some r => rfl
      | none => simp only; cases strBytesN P H s d (ev x) <;> rfl
  | makeInterface T x => show kPureO H ev _ _ = _; simp only [opN, pureN]; cases makeIfaceN P T (ev x) <;> rfl
  | makeMap T r => show kEff1 _ _ = _; simp only [opN, pureN, readN, effV]; cases makeMapN P H T (r.map ev) <;> rfl
  | makeSlice T l c => show kEff1 _ _ = _; simp only [opN, pureN, readN, effV]; cases makeSliceN P H T (ev l) (ev c) <;> rfl
  | slice T x lo hi mx =>
    show kSlice P H ev _ T x lo hi mx = _
    simp only [kSlice, opN, pureN, readN]
    cases sliceN P T (ev x) (lo.map ev) (hi.map ev) (mx.map ev) with
    | some r => rfl
    | none => simp only; cases sliceH P H T (ev x) (lo.map ev) (hi.map ev) (mx.map ev) <;> rfl
  | fieldAddr S x f => show kPureO H ev _ _ = _; simp only [opN, pureN]; cases fieldAddrN P S (ev x) f <;> rfl
  | field S x f => show kPureO H ev _ _ = _; simp only [opN, pureN]; cases fieldN P S (ev x) f <;> rfl
  | indexAddr T x ix =>
    show kIndexAddr P H ev _ T x ix = _
    simp only [kIndexAddr, opN, pureN, readN]
    cases indexAddrN P T (ev x) (ev ix) with
    | some r => rfl
    | none => simp only; cases indexAddrH P H T (ev x) (ev ix) <;> rfl
  | index T x ix => show kPureO H ev _ _ = _; simp only [opN, pureN]; cases indexN P T (ev x) (ev ix) <;> rfl
  | _ => rfl
end Go.Proofs.Eng
