/- Steps, regions, code, calls, laid out ahead; and that they are as sound as the evaluator. -/
import Derived.Test.YtfickkmgbecamaaDoorEvZf
namespace Go.Ev

structure CV where run : Self → Nat → Tr Value → AHeap → Option (Value × AHeap)

def withH (r : Option Value) (h : AHeap) : Option (Value × AHeap) := match r with | some v => some (v, h) | none => none
theorem withH_eq (r : Option Value) (h : AHeap) : withH r h = r.map (·, h) := by cases r <;> rfl

def builtinC (P : Program) (b : Builtin) (ts : Array TypeId) (args : List Operand) : CV :=
  match b with
  | .min => ⟨fun _ _ e h => match (evalsC P args).run e with
      | some [.int k x, .int _ y] => some (.int k (minI x y), h)
      | _ => none⟩
  | .max => ⟨fun _ _ e h => match (evalsC P args).run e with
      | some [.int k x, .int _ y] => some (.int k (maxI x y), h)
      | _ => none⟩
  | .len =>
    match ts[0]? with
    | none => ⟨fun _ _ _ _ => none⟩
    | some t =>
      match P.underlying t with
      | some (.slice _) => ⟨fun _ _ e h => match (evalsC P args).run e with
        | some (.slice _ n _ :: _) => some (.int .i64 (.ofNat n), h)
        | _ => none⟩
      | _ => ⟨fun _ _ e h => match (evalsC P args).run e with
        | some (x :: _) => withH (lenA P h t x) h
        | _ => none⟩
  | b => ⟨fun _ id e h => match (evalsC P args).run e with | some vs => builtinA P h id b ts vs.toArray | none => none⟩

def opC (P : Program) (o : Oper) : CV :=
  match o.op with
  | .move x => ⟨fun _ _ e h => match (evalC P x).run e with | some v => some (v, h) | none => none⟩
  | .assign x => ⟨fun _ _ e h => match (evalC P x).run e with | some v => some (v, h) | none => none⟩
  | .pick c a b => ⟨fun _ _ e h => match (evalC P c).run e with
      | some (.bool d) => (match d with
        | true => (match (evalC P a).run e with | some v => some (v, h) | none => none)
        | false => (match (evalC P b).run e with | some v => some (v, h) | none => none))
      | _ => none⟩
  | .binOp op t x y _ => ⟨fun _ _ e h => match (evalC P x).run e with
      | some u => (match (evalC P y).run e with | some v => withH ((binC P op t).run h u v) h | none => none)
      | none => none⟩
  | .unOp op _ x => ⟨fun _ _ e h => match (evalC P x).run e with | some u => withH (unA op u) h | none => none⟩
  | .convert s d x => ⟨fun _ _ e h => match (evalC P x).run e with | some u => withH (convA P s d u) h | none => none⟩
  | .load t a => ⟨fun _ _ e h => match (evalC P a).run e with | some v => withH ((loadC P t).run h v) h | none => none⟩
  | .store t a x => ⟨fun _ _ e h => match (evalC P a).run e with
      | some v => (match (evalC P x).run e with
        | some u => (match (storeC P t).run h v u with | some h' => some (undef, h') | none => none)
        | none => none)
      | none => none⟩
  | .fieldAddr s x f => ⟨fun _ _ e h => match (evalC P x).run e with | some u => withH ((fieldAddrC P s f).run u) h | none => none⟩
  | .field t x f => ⟨fun _ _ e h => match (evalC P x).run e with | some u => withH (fieldA P t u f) h | none => none⟩
  | .indexAddr t x ix => ⟨fun _ _ e h => match (evalC P x).run e with
      | some u => (match (evalC P ix).run e with | some v => withH ((indexAddrC P t).run u v) h | none => none)
      | none => none⟩
  | .index t x ix => ⟨fun _ _ e h => match (evalC P x).run e with
      | some u => (match (evalC P ix).run e with | some v => withH (indexA P t u v) h | none => none)
      | none => none⟩
  | .extract t i => ⟨fun _ _ e h => match (evalC P t).run e with | some (.tuple vs) => withH (nthL vs.toList i) h | _ => none⟩
  | .build t parts => ⟨fun _ _ e h => match (partsC P parts.toList).run e with | some ps => withH (buildA P t ps) h | none => none⟩
  | .buildSlice t len parts => ⟨fun _ id e h => match (partsC P parts.toList).run e with | some ps => buildSliceA P h id t len ps | none => none⟩
  | .box t x => ⟨fun _ id e h => match (evalC P x).run e with | some v => newA P h id t v.cells.toList false (.pointer (some ⟨id, 0, none⟩)) | none => none⟩
  | .slice t x lo hi mx => ⟨fun _ _ e h => (evalO P.globals.size e x).bind fun u => (optO P.globals.size e lo).bind fun a => (optO P.globals.size e hi).bind fun b => (optO P.globals.size e mx).bind fun c => (sliceA P h t u a b c).map (·, h)⟩
  | .call { callee := .builtin b, args, argTypes } => builtinC P b argTypes args.toList
  | .call { callee := .value f, args, .. } =>
    (match f with
    | .func k => ⟨fun S _ e h => match (evalsC P args.toList).run e with | some vs => S.call k vs.toArray h | none => none⟩
    | f => ⟨fun S _ e h => match (evalC P f).run e with
      | some g => (match (evalsC P args.toList).run e with | some vs => callA S g vs.toArray h | none => none)
      | none => none⟩)
  | _ => ⟨fun S id e h => operA P S id e h o⟩

theorem builtinC_run (P : Program) (S : Self) (id : Nat) (e : Tr Value) (h : AHeap) (b : Builtin) (ts : Array TypeId) (args : Array Operand) :
    (builtinC P b ts args.toList).run S id e h = (mapO P.globals.size e args).bind fun vs => builtinA P h id b ts vs := by
  have gen : (mapO P.globals.size e args).bind (fun vs => builtinA P h id b ts vs) = (match evalsO P.globals.size e args.toList with | some vs => builtinA P h id b ts vs.toArray | none => none) := by
    unfold mapO
    cases evalsO P.globals.size e args.toList <;> rfl
  rw [gen]
  unfold builtinC
  split
  · simp only [evalsC_run]
    cases evalsO P.globals.size e args.toList with
    | none => rfl
    | some vs =>
      simp only [builtinA]
      have : ∀ l : List Value, (match (some l : Option (List Value)) with | some [.int k x, .int _ y] => some (Value.int k (minI x y), h) | _ => none) = (minA l).map (·, h) := by
        intro l
        unfold minA
        split
        · rename_i k x k' y heq
          cases heq
          simp only [Option.map_some]
          rw [minI_eq]
        · rename_i hne
          split
          · exact (hne _ _ _ _ rfl).elim
          · rfl
      exact this vs
  · simp only [evalsC_run]
    cases evalsO P.globals.size e args.toList with
    | none => rfl
    | some vs =>
      simp only [builtinA]
      have : ∀ l : List Value, (match (some l : Option (List Value)) with | some [.int k x, .int _ y] => some (Value.int k (maxI x y), h) | _ => none) = (maxA l).map (·, h) := by
        intro l
        unfold maxA
        split
        · rename_i k x k' y heq
          cases heq
          simp only [Option.map_some]
          rw [maxI_eq]
        · rename_i hne
          split
          · exact (hne _ _ _ _ rfl).elim
          · rfl
      exact this vs
  · split
    · rename_i ht
      simp only [builtinA, ht]
      cases evalsO P.globals.size e args.toList <;> rfl
    · rename_i t ht
      split
      · rename_i el hu
        simp only [evalsC_run, builtinA, ht]
        cases evalsO P.globals.size e args.toList with
        | none => rfl
        | some vs =>
          cases vs with
          | nil => rfl
          | cons x xs =>
            simp only [List.getElem?_toArray, List.getElem?_cons_zero]
            unfold lenA
            simp only [hu]
            cases x <;> rfl
      · simp only [evalsC_run, builtinA, ht, withH_eq]
        cases evalsO P.globals.size e args.toList with
        | none => rfl
        | some vs =>
          cases vs with
          | nil => rfl
          | cons x xs => simp
  · simp only [evalsC_run]

theorem opC_run (P : Program) (S : Self) (id : Nat) (e : Tr Value) (h : AHeap) (o : Oper) : (opC P o).run S id e h = operA P S id e h o := by
  unfold opC
  split
  case h_1 x hx => simp only [operA, opA, hx, evalC_run]; cases evalO P.globals.size e x <;> rfl
  case h_2 x hx => simp only [operA, opA, hx, evalC_run]; cases evalO P.globals.size e x <;> rfl
  case h_3 c a b hx =>
    simp only [operA, opA, hx, evalC_run]
    cases evalO P.globals.size e c with
    | none => rfl
    | some v =>
      cases v <;> try rfl
      rename_i d
      cases d
      · simp only; cases evalO P.globals.size e b <;> rfl
      · simp only; cases evalO P.globals.size e a <;> rfl
  case h_4 op t x y yt hx =>
    simp only [operA, opA, hx, evalC_run, binC_run, withH_eq]
    cases evalO P.globals.size e x <;> try rfl
    cases evalO P.globals.size e y <;> rfl
  case h_5 op t x hx => simp only [operA, opA, hx, evalC_run, withH_eq]; cases evalO P.globals.size e x <;> rfl
  case h_6 s d x hx => simp only [operA, opA, hx, evalC_run, withH_eq]; cases evalO P.globals.size e x <;> rfl
  case h_7 t a hx => simp only [operA, opA, hx, evalC_run, loadC_run, withH_eq]; cases evalO P.globals.size e a <;> rfl
  case h_8 t a x hx =>
    simp only [operA, opA, hx, evalC_run, storeC_run]
    cases evalO P.globals.size e a <;> try rfl
    rename_i v
    cases evalO P.globals.size e x <;> try rfl
    rename_i u
    simp only [Option.bind_some]
    cases storeA P h t v u <;> rfl
  case h_9 s x f hx => simp only [operA, opA, hx, evalC_run, fieldAddrC_run, withH_eq]; cases evalO P.globals.size e x <;> rfl
  case h_10 t x f hx => simp only [operA, opA, hx, evalC_run, withH_eq]; cases evalO P.globals.size e x <;> rfl
  case h_11 t x ix hx =>
    simp only [operA, opA, hx, evalC_run, indexAddrC_run, withH_eq]
    cases evalO P.globals.size e x <;> try rfl
    cases evalO P.globals.size e ix <;> rfl
  case h_12 t x ix hx =>
    simp only [operA, opA, hx, evalC_run, withH_eq]
    cases evalO P.globals.size e x <;> try rfl
    cases evalO P.globals.size e ix <;> rfl
  case h_13 t i hx =>
    simp only [operA, opA, hx, evalC_run, withH_eq, nthL_eq]
    cases evalO P.globals.size e t with
    | none => rfl
    | some v => cases v <;> first | rfl | simp
  case h_14 t parts hx =>
    simp only [operA, opA, hx, partsC_run, withH_eq, mapParts]
    cases partsO P.globals.size e parts.toList <;> rfl
  case h_15 t len parts hx =>
    simp only [operA, opA, hx, partsC_run, mapParts]
    cases partsO P.globals.size e parts.toList <;> rfl
  case h_16 t x hx => simp only [operA, opA, hx, evalC_run]; cases evalO P.globals.size e x <;> rfl
  case h_17 t x lo hi mx hx => simp only [operA, opA, hx]
  case h_18 hx => rw [builtinC_run]; simp only [operA, opA, hx]
  case h_19 f args _ hx =>
    simp only [operA, hx]
    cases f with
    | func k =>
      simp only [evalsC_run, evalO, mapO, Option.bind_some]
      cases evalsO P.globals.size e args.toList with
      | none => rfl
      | some vs => simp [callA]
    | _ =>
      simp only [evalsC_run, evalC_run, mapO]
      cases evalO P.globals.size e _ with
      | none => rfl
      | some g => cases evalsO P.globals.size e args.toList <;> rfl
  case h_20 => rfl

end Go.Ev
