/- The evaluator that goes both ways where a result is not known: a tree of what may come, by the tests that were not known. The definitions. -/
import Derived.Test.YtfickkmgbecamaaGreatDoorEv5
import Derived.Below
namespace Go.Ev

inductive Tree (α : Type) where
  | no
  | leaf (a : α)
  | fork (b : Bool) (t f : Tree α)

namespace Tree
variable {α β : Type}
def bind0 : Tree α → (α → Tree β) → Tree β
  | .no, _ => .no
  | .leaf a, k => k a
  | .fork b t f, k => .fork b (bind0 t k) (bind0 f k)
/-- The common case first. -/
def bind (t : Tree α) (k : α → Tree β) : Tree β :=
  match t with
  | .leaf a => k a
  | t => bind0 t k
def eval : Tree α → Option α
  | .no => none
  | .leaf a => some a
  | .fork b t f => match b with | true => eval t | false => eval f
def ofO : Option α → Tree α
  | none => .no
  | some a => .leaf a
def map (g : α → β) : Tree α → Tree β
  | .no => .no
  | .leaf a => .leaf (g a)
  | .fork b t f => .fork b (map g t) (map g f)
/-- Wherever it may lead, P holds. -/
def All (P : α → Prop) : Tree α → Prop
  | .no => False
  | .leaf a => P a
  | .fork b t f => (b = true → All P t) ∧ (b = false → All P f)

theorem bind_bind0 (t : Tree α) (k : α → Tree β) : bind t k = bind0 t k := by cases t <;> rfl
theorem eval_bind (k : α → Tree β) (r : β) : ∀ t : Tree α, (bind t k).eval = some r → ∃ a, t.eval = some a ∧ (k a).eval = some r := by
  intro t
  rw [bind_bind0]
  induction t with
  | no => intro h; cases h
  | leaf a => intro h; exact ⟨a, rfl, h⟩
  | fork b t f iht ihf =>
    intro h
    cases b with
    | true => exact iht h
    | false => exact ihf h
theorem eval_ofO {o : Option α} {r : α} (h : (ofO o).eval = some r) : o = some r := by cases o <;> simp_all [ofO, eval]
theorem All.eval {P : α → Prop} : ∀ (t : Tree α), All P t → ∃ a, Tree.eval t = some a ∧ P a := by
  intro t
  induction t with
  | no => intro h; exact h.elim
  | leaf a => intro h; exact ⟨a, rfl, h⟩
  | fork b t f iht ihf =>
    intro h
    cases b with
    | true => exact iht (h.1 rfl)
    | false => exact ihf (h.2 rfl)
theorem eval_map (g : α → β) : ∀ t : Tree α, (map g t).eval = t.eval.map g
  | .no => rfl
  | .leaf _ => rfl
  | .fork b t f => by cases b <;> simp only [map, eval, eval_map g]
end Tree

/-- What is done with a result that may not be known: a test is taken both ways; a number is held against those that are named. -/
inductive Split where
  | bool
  | ints (l : List Int)
  | known (v : Value)
  | append
  | calm
  | told (v : Value)
  | clone

def forkInts (k : IntKind) (x : Int) : List Int → Tree Value
  | [] => .no
  | y :: l => .fork (eqI x y) (.leaf (.int k y)) (forkInts k x l)
def splitV (s : Split) (v : Value) : Tree Value :=
  match s with
  | .bool => (match v with | .bool b => .fork b (.leaf (.bool true)) (.leaf (.bool false)) | _ => .no)
  | .ints l => (match v with | .int k x => forkInts k x l | _ => .no)
  | .known _ => .no
  | .append => .no
  | .calm => .no
  | .told _ => .no
  | .clone => .no

theorem forkInts_eval (k : IntKind) (x : Int) (u : Value) : ∀ l, (forkInts k x l).eval = some u → u = .int k x
  | [], h => by cases h
  | y :: l, h => by
    simp only [forkInts, Tree.eval] at h
    split at h
    · rename_i he
      rw [eqI_eq] at he
      simp only [beq_iff_eq] at he
      rw [he]; cases h; rfl
    · exact forkInts_eval k x u l h
theorem splitV_eval (s : Split) (v u : Value) (h : (splitV s v).eval = some u) : u = v := by
  unfold splitV at h
  split at h
  · split at h
    · rename_i b; cases b <;> (simp only [Tree.eval] at h; cases h; rfl)
    · cases h
  · split at h
    · exact forkInts_eval _ _ _ _ h
    · cases h
  · cases h
  · cases h
  · cases h
  · cases h
  · cases h

abbrev Spl := Nat → Nat → Option Split
/-- The name under which a loop's body over a function stands in a Spl. -/
def inBody : Nat := 1000000
/-- K f plainMark = some _: f is not gone into both ways; its call is one of the plain evaluator's. -/
def plainMark : Nat := 2000000

structure SelfN where
  code : Nat → Option Nat → Code → AAct → AHeap → Tree (Out × AAct × AHeap)
  loop : Nat → Option Nat → Code → AAct → AHeap → Tree (Out × AAct × AHeap)
  call : FuncId → Array Value → AHeap → Tree (Value × AHeap)

/-! ### A round of a loop over a function, and a call of a function value -/
def roundN (N : SelfN) (l : Nat) (args : Array Value) (h : AHeap) : Tree (Value × AHeap) :=
  match getQ h.tr l with
  | some (.loop L) =>
    match setParams L.env L.n L.params.toList args.toList with
    | some e => (N.code inBody (some l) L.assign ⟨e, L.n, []⟩ h).bind fun (o, a1, h1) =>
      match o with
      | .normal =>
        (match getQ h1.tr l with
        | some (.loop L1) =>
          if L1.state = .ready ∧ a1.marks = [] then
            (N.code inBody (some l) L.body a1 (h1.put l (.loop { L1 with state := .busy }))).bind fun (out, a2, h3) =>
              match getQ h3.tr l with
              | some (.loop L3) =>
                if a2.marks = [] then
                  .leaf (.bool (jumpOf out).isNone, h3.put l (.loop { L3 with state := if (jumpOf out).isNone then .ready else .done, pending := jumpOf out }))
                else .no
              | _ => .no
          else .no
        | _ => .no)
      | _ => .no
    | none => .no
  | _ => .no

def callN (N : SelfN) (f : Value) (args : Array Value) (h : AHeap) : Tree (Value × AHeap) :=
  match f with
  | .func (.func k) first captured => N.call k (first ++ args ++ captured) h
  | .func (.yield l) first captured => if first.size = 0 ∧ captured.size = 0 then roundN N l args h else .no
  | _ => .no

/-! ### Steps -/
structure TN where run : SelfN → Self → Nat → AAct → AHeap → Tree (AAct × AHeap)
def putN (o : Oper) (a : AAct) (r : Value × AHeap) : Tree (AAct × AHeap) := match (putC o.dst).run a r.1 with | some a' => .leaf (a', r.2) | none => .no
noncomputable def plainN (P : Program) (o : Oper) (i : Nat) : TN := ⟨fun _ S base a h => .ofO ((runC P o i).run S base a h)⟩

/-- Has the heap not turned by it? -/
def still (o : Oper) : Bool := !isEff o.op && !isNew o.op

/-- Is that the result? -/
def sameO (r : Option Value) (v : Value) : Bool := match r with | some u => sameV 3 u v | none => false
/-- The result is told ahead (an address, a load); that it is so is a test that is not known. -/
noncomputable def knownN (P : Program) (o : Oper) (V : Value) : TN :=
  match o.op with
  | .indexAddr t x y => ⟨fun _ _ _ a h => match (evalC P x).run a.env with
    | some u => (match (evalC P y).run a.env with
      | some v => .fork (sameO ((indexAddrC P t).run u v) V) (putN o a (V, h)) .no
      | none => .no)
    | none => .no⟩
  | .load t x => ⟨fun _ _ _ a h => match (evalC P x).run a.env with
    | some u => .fork (sameO ((loadC P t).run h u) V) (putN o a (V, h)) .no
    | none => .no⟩
  | _ => ⟨fun _ _ _ _ _ => .no⟩

/-- Is it so? A test that is not known, whatever it is. -/
noncomputable def isB (p : Prop) : Bool := @decide p (Classical.propDecidable p)
theorem isB_true {p : Prop} : isB p = true ↔ p := by
  unfold isB; exact @decide_eq_true_iff p (Classical.propDecidable p)
theorem isB_false {p : Prop} : isB p = false ↔ ¬ p := by
  unfold isB; exact @decide_eq_false_iff_not p (Classical.propDecidable p)
/-- The result is told ahead, whatever it is. -/
noncomputable def toldN (P : Program) (o : Oper) (V : Value) : TN :=
  match o.op with
  | .indexAddr t x y => ⟨fun _ _ _ a h => match (evalC P x).run a.env with
    | some u => (match (evalC P y).run a.env with
      | some v => .fork (isB ((indexAddrC P t).run u v = some V)) (putN o a (V, h)) .no
      | none => .no)
    | none => .no⟩
  | .load t x => ⟨fun _ _ _ a h => match (evalC P x).run a.env with
    | some u => .fork (isB ((loadC P t).run h u = some V)) (putN o a (V, h)) .no
    | none => .no⟩
  | _ => ⟨fun _ _ _ _ _ => .no⟩
/-- A whole row of unknown length is appended to an empty one. -/
def cloneT (P : Program) (h : AHeap) (id : Nat) (ts : Array TypeId) (b bx n k : Nat) : Tree (Value × AHeap) :=
  match ts[0]?, ts[1]? with
  | some st, some xt =>
    match P.underlying st, P.underlying xt with
    | some (.slice e), some xd =>
      if isIntD xd then .no else
      match P.info? e with
      | some j =>
        match j.zero with
        | some z =>
          if 0 < j.size ∧ z.cells.size = j.size then
            match getQ h.tr b, getQ h.tr bx, getQ h.tr id with
            | some (.cells c0 e' _ false), some (.cells c _ _ _), none =>
              if e' = e then
                .fork (Nat.beq c.length (n * j.size) && Nat.ble 1 n && Nat.ble (n * j.bytes) room && Nat.ble n room && c.all oneCell)
                  (.leaf (.slice (some ⟨id, 0, none⟩) n n, h.put id (.cells c e false true))) .no
              else .no
            | _, _, _ => .no
          else .no
        | none => .no
      | none => .no
    | _, _ => .no
  | _, _ => .no
noncomputable def cloneN (P : Program) (o : Oper) (i : Nat) : TN :=
  match o.op with
  | .call { callee := .builtin .append, args, argTypes } => ⟨fun _ _ base a h => match (evalsC P args.toList).run a.env with
    | some [.slice (some ⟨b, 0, none⟩) 0 0, .slice (some ⟨bx, 0, none⟩) n k] => (cloneT P h (base + i) argTypes b bx n k).bind (putN o a)
    | _ => .no⟩
  | _ => ⟨fun _ _ _ _ _ => .no⟩

/-- An append to a whole row that an append has made: that it is whole is a test that is not known. -/
def appendT (P : Program) (h : AHeap) (id : Nat) (ts : Array TypeId) (b sLen sCap : Nat) (x : Value) : Tree (Value × AHeap) :=
  match ts[0]?, ts[1]? with
  | some st, some xt =>
    match P.underlying st, P.underlying xt with
    | some (.slice e), some xd =>
      if isIntD xd then .no else
      match P.info? e with
      | some j =>
        match j.zero, lenOfA x with
        | some z, some n =>
          if 0 < j.size ∧ z.cells.size = j.size ∧ n ≠ 0 then
            match firstA h j.size n x with
            | some new =>
              if new.length = n * j.size ∧ new.all oneCell = true then
                match getQ h.tr b, getQ h.tr id with
                | some (.cells c e' false true), none =>
                  if e' = e then
                    .fork (Nat.beq c.length (sLen * j.size) && Nat.beq sLen sCap && Nat.ble ((sLen + n) * j.bytes) room && Nat.ble (sLen + n) room)
                      (.leaf (.slice (some ⟨id, 0, none⟩) (sLen + n) (sLen + n), (h.put b .dead).put id (.cells (c ++ new) e false true))) .no
                  else .no
                | _, _ => .no
              else .no
            | none => .no
          else .no
        | _, _ => .no
      | none => .no
    | _, _ => .no
  | _, _ => .no

noncomputable def appendN (P : Program) (o : Oper) (i : Nat) : TN :=
  match o.op with
  | .call { callee := .builtin .append, args, argTypes } => ⟨fun _ _ base a h => match (evalsC P args.toList).run a.env with
    | some [.slice (some ⟨b, 0, none⟩) sLen sCap, x] => (appendT P h (base + i) argTypes b sLen sCap x).bind (putN o a)
    | _ => .no⟩
  | _ => ⟨fun _ _ _ _ _ => .no⟩

noncomputable def doN (P : Program) (K : Spl) (f : Nat) (o : Oper) (i : Nat) : TN :=
  match o.op with
  | .call { callee := .value g, args, .. } =>
    (match g with
    | .func k =>
      (match K k plainMark with
      | some _ => plainN P o i
      | none => ⟨fun N _ _ a h => match (evalsC P args.toList).run a.env with
        | some vs => (N.call k vs.toArray h).bind (putN o a)
        | none => .no⟩)
    | g => ⟨fun N _ _ a h => match (evalC P g).run a.env with
      | some gv => (match (evalsC P args.toList).run a.env with
        | some vs => (callN N gv vs.toArray h).bind (putN o a)
        | none => .no)
      | none => .no⟩)
  | _ =>
    match o.dst with
    | none => plainN P o i
    | some d =>
      match K f d with
      | none => plainN P o i
      | some (.known v) => knownN P o v
      | some .append => appendN P o i
      | some .calm => plainN P o i
      | some (.told v) => toldN P o v
      | some .clone => cloneN P o i
      | some sp => ⟨fun _ S base a h => match (opC P o).run S (base + i) a.env h with
        | some (v, h') => (splitV sp v).bind fun u => putN o a (u, h')
        | none => .no⟩

noncomputable def skipN (o : Oper) : TN := ⟨fun _ S base a h => .ofO ((skipC o).run S base a h)⟩

noncomputable def stepN (P : Program) (K : Spl) (f : Nat) (ops : Array Oper) (i : Nat) : TN :=
  match ops[i]? with
  | none => ⟨fun _ _ _ _ _ => .no⟩
  | some o =>
    match o.guard with
    | none => doN P K f o i
    | some (j, want) =>
      match (ops[j]?).bind (·.dst) with
      | none => ⟨fun _ _ _ _ _ => .no⟩
      | some d =>
        match want with
        | true => ⟨fun N S base a h => match (getC (d + 1) d).run a.env with
          | some (.bool b) => (match b with | true => (doN P K f o i).run N S base a h | false => (skipN o).run N S base a h)
          | some (.tuple _) => (skipN o).run N S base a h
          | _ => .no⟩
        | false => ⟨fun N S base a h => match (getC (d + 1) d).run a.env with
          | some (.bool b) => (match b with | false => (doN P K f o i).run N S base a h | true => (skipN o).run N S base a h)
          | some (.tuple _) => (skipN o).run N S base a h
          | _ => .no⟩

noncomputable def opsN (P : Program) (K : Spl) (f : Nat) (ops : Array Oper) : List Nat → TN
  | [] => ⟨fun _ _ _ a h => .leaf (a, h)⟩
  | i :: rest => ⟨fun N S base a h => ((stepN P K f ops i).run N S base a h).bind fun (a', h') => (opsN P K f ops rest).run N S base a' h'⟩

/-! ### Regions whose order is drawn -/
/-- Outer forms that are the same if all in them is. -/
def okV : Nat → Value → Bool
  | _, .bool _ | _, .int _ _ | _, .string _ | _, .pointer _ | _, .slice _ _ _ | _, .map _ | _, .nilFunc | _, .nilIface => true
  | n + 1, .agg a => a.toList.all (okV n)
  | n + 1, .tuple a => a.toList.all (okV n)
  | _, _ => false

structure RN where run : SelfN → Self → Nat → List AHeap → AAct → AHeap → Tree (AAct × AHeap)
/-- cl: the heap is still the one of the region's start. -/
noncomputable def planN (P : Program) (K : Spl) (f : Nat) (ops : Array Oper) : Bool → List (Nat × Nat) → RN
  | _, [] => ⟨fun _ _ _ _ a h => .leaf (a, h)⟩
  | cl, (i, m) :: rest =>
    match ops[i]? with
    | none => ⟨fun _ _ _ _ _ _ => .no⟩
    | some o =>
      match isEff o.op with
      | true => ⟨fun N S base sn a h => ((stepN P K f ops i).run N S base a h).bind fun (a', h') =>
        match (lateC (lateL ops rest)).run base h' with
        | true => (planN P K f ops false rest).run N S base (h' :: sn) a' h'
        | false => .no⟩
      | false =>
        match readsH o.op with
        | false => ⟨fun N S base sn a h => ((stepN P K f ops i).run N S base a h).bind fun (a', h') => (planN P K f ops (cl && still o) rest).run N S base sn a' h'⟩
        | true =>
          match cl with
          | false =>
            (match (o.dst).bind (K f) with
            | some .calm => ⟨fun N S base sn a h => ((stepN P K f ops i).run N S base a h).bind fun (a', h') =>
              .fork ((calmC P ops o i m).run S base sn a a') ((planN P K f ops false rest).run N S base sn a' h') .no⟩
            | _ => ⟨fun N S base sn a h => ((stepN P K f ops i).run N S base a h).bind fun (a', h') =>
              match (calmC P ops o i m).run S base sn a a' with
              | true => (planN P K f ops false rest).run N S base sn a' h'
              | false => .no⟩)
          | true => ⟨fun N S base sn a h => ((stepN P K f ops i).run N S base a h).bind fun (a', h') =>
            match wantedA ops a.env o with
            | some true => (match (o.dst).bind a'.env.get with
              | some v => (match okV 3 v with
                | true => (planN P K f ops (still o) rest).run N S base sn a' h'
                | false => .no)
              | none => .no)
            | _ => (planN P K f ops (still o) rest).run N S base sn a' h'⟩

structure ZN where run : SelfN → Self → AAct → AHeap → Tree (AAct × AHeap)
noncomputable def regionN (P : Program) (K : Spl) (f : Nat) (ops : Array Oper) (draw : Bool) : ZN :=
  match draw with
  | false => ⟨fun N S a h => (opsN P K f ops (List.range ops.size)).run N S h.next a ⟨h.tr, h.next + ops.size⟩⟩
  | true =>
    match planOf ops with
    | none => ⟨fun _ _ _ _ => .no⟩
    | some pl =>
      match P.follows .mixedOrders with
      | false => ⟨fun _ _ _ _ => .no⟩
      | true => ⟨fun N S a h => (planN P K f ops true pl).run N S h.next [⟨h.tr, h.next + ops.size⟩] a ⟨h.tr, h.next + ops.size⟩⟩

/-! ### Code -/
def rangeN (P : Program) (N : SelfN) (f : Nat) (rd : Option Nat) (g : Operand) (ps : Array Tmp) (assign body : Code) (a : AAct) (h : AHeap) : Tree (Out × AAct × AHeap) :=
  match evalO P.globals.size a.env g with
  | some (.func (.func fi) first captured) =>
    match enterA rd h a.marks with
    | some (D, h1, marks) =>
      match h1.new h.next (.loop { state := .ready, pending := none, env := a.env, n := a.n, params := ps, assign, body, defers := D }) with
      | none => .no
      | some h2 => (N.call fi (first ++ #[.func (.yield h.next) #[] #[]] ++ captured) h2).bind fun (_, h3) =>
        match getQ h3.tr h.next with
        | some (.loop L) =>
          if L.state = .busy then .no else
          (match L.pending with
          | none => .leaf (.normal, { a with marks }, h3.put h.next (.loop { L with state := .exhausted }))
          | some c => N.code f rd c { a with marks } (h3.put h.next (.loop { L with state := .exhausted })))
        | _ => .no
    | none => .no
  | _ => .no

structure KN where run : Option Nat → SelfN → Self → AAct → AHeap → Tree (Out × AAct × AHeap)
noncomputable def plainKN (P : Program) (c : Code) : KN := ⟨fun rd _ S a h => .ofO ((codeC P c).run rd S a h)⟩
noncomputable def codeN (P : Program) (K : Spl) (f : Nat) : Code → KN
  | .seq x y => ⟨fun rd N S a h => ((codeN P K f x).run rd N S a h).bind fun (o, a', h') =>
    match o with | .normal => (codeN P K f y).run rd N S a' h' | o => .leaf (o, a', h')⟩
  | .cond o x y => ⟨fun rd N S a h => match (evalC P o).run a.env with
    | some (.bool b) => (match b with | true => (codeN P K f x).run rd N S a h | false => (codeN P K f y).run rd N S a h)
    | _ => .no⟩
  | .block id x => ⟨fun rd N S a h => ((codeN P K f x).run rd N S a h).bind fun (o, a', h') =>
    match o with | .exit id' => (match Nat.beq id' id with | true => .leaf (.normal, a', h') | false => .leaf (.exit id', a', h')) | o => .leaf (o, a', h')⟩
  | .region _ ops draw => ⟨fun _ N S a h => ((regionN P K f ops draw).run N S a h).bind fun (a', h') => .leaf (.normal, a', h')⟩
  | .loop x => ⟨fun rd N _ a h => N.loop f rd x a h⟩
  | .rangeFunc g ps assign body => ⟨fun rd N _ a h => rangeN P N f rd g ps assign body a h⟩
  | c => plainKN P c

structure FN where run : SelfN → Self → Array Value → AHeap → Tree (Value × AHeap)
noncomputable def callFN (P : Program) (K : Spl) (f : FuncId) : FN :=
  match P.funcs[f]? with
  | none => ⟨fun _ _ _ _ => .no⟩
  | some fn =>
    match fn.body with
    | none => ⟨fun _ _ _ _ => .no⟩
    | some c =>
      match decide (fn.name = "runtime.NumGoroutine") with
      | true => ⟨fun _ _ _ _ => .no⟩
      | false => ⟨fun N S args h => match Nat.ble args.toList.length fn.ntmps with
        | false => .no
        | true => ((codeN P K f c).run none N S ⟨argsEnv args.toList 0 .leaf, fn.ntmps, []⟩ h).bind fun (o, a, h1) =>
          match o with | .normal => .ofO ((doneC P fn).run a h1) | .ret => .ofO ((doneC P fn).run a h1) | _ => .no⟩

noncomputable def evN (P : Program) (O : Oracle) (K : Spl) : Nat → SelfN
  | 0 => { code := fun _ _ _ _ _ => .no, loop := fun _ _ _ _ _ => .no, call := fun f args h => .ofO (O f args h) }
  | k + 1 => {
      code := fun f rd c a h => (codeN P K f c).run rd (evN P O K k) (evC P O k) a h
      loop := fun f rd x a h => ((codeN P K f x).run rd (evN P O K k) (evC P O k) a h).bind fun (o, a', h') =>
        match o with | .normal => (evN P O K k).loop f rd x a' h' | o => .leaf (o, a', h')
      call := fun f args h => match O f args h with | some r => .leaf r | none => (callFN P K f).run (evN P O K k) (evC P O k) args h }

end Go.Ev

/- The evaluator that goes both ways: where it leads, the evaluator leads. -/
namespace Go.Ev
open Tree

section
variable {P : Program} {O : Oracle} {K : Spl} {N : SelfN} {S : Self}

structure LeN (N : SelfN) (S : Self) : Prop where
  code : ∀ f rd c a h r, (N.code f rd c a h).eval = some r → S.code rd c a h = some r
  loop : ∀ f rd c a h r, (N.loop f rd c a h).eval = some r → S.loop rd c a h = some r
  call : ∀ f args h r, (N.call f args h).eval = some r → S.call f args h = some r

theorem roundN_le (hL : LeN N S) {l : Nat} {args : Array Value} {h : AHeap} {r : Value × AHeap} (hr : (roundN N l args h).eval = some r) : roundA S l args h = some r := by
  unfold roundN at hr
  unfold roundA
  simp only [getQ_eq] at hr
  simp only [AHeap.get]
  split at hr
  case h_2 => cases hr
  rename_i L hl
  simp only [hl]
  split at hr
  case h_2 => cases hr
  rename_i e he
  simp only [he]
  obtain ⟨⟨o, a1, h1⟩, e1, hr⟩ := eval_bind _ _ _ hr
  have c1 := hL.code _ _ _ _ _ _ e1
  cases o <;> try (cases hr; done)
  simp only [c1]
  simp only at hr
  split at hr
  case h_2 => cases hr
  rename_i L1 hl1
  simp only [hl1]
  split at hr
  case isFalse => cases hr
  rename_i hc
  rw [if_pos hc]
  obtain ⟨⟨out, a2, h3⟩, e2, hr⟩ := eval_bind _ _ _ hr
  have c2 := hL.code _ _ _ _ _ _ e2
  simp only [c2]
  simp only at hr
  split at hr
  case h_2 => cases hr
  rename_i L3 hl3
  simp only [hl3]
  split at hr
  case isFalse => cases hr
  rename_i hm
  rw [if_pos hm]
  exact hr

theorem callN_le (hL : LeN N S) {f : Value} {args : Array Value} {h : AHeap} {r : Value × AHeap} (hr : (callN N f args h).eval = some r) : callA S f args h = some r := by
  unfold callN at hr
  unfold callA
  split at hr
  · exact hL.call _ _ _ _ hr
  · split at hr
    · rename_i hc; simp only; rw [if_pos hc]; exact roundN_le hL hr
    · cases hr
  · cases hr

def LeT (N : SelfN) (S : Self) (x : TN) (y : CS) : Prop := ∀ base a h r, (x.run N S base a h).eval = some r → y.run S base a h = some r

theorem plainN_le (o : Oper) (i : Nat) : LeT N S (plainN P o i) (runC P o i) := fun _ _ _ _ hr => eval_ofO hr
theorem skipN_le (o : Oper) : LeT N S (skipN o) (skipC o) := fun _ _ _ _ hr => eval_ofO hr
theorem putN_eval {o : Oper} {a : AAct} {x : Value × AHeap} {r : AAct × AHeap} (hr : (putN o a x).eval = some r) : (putC o.dst).run a x.1 = some r.1 ∧ x.2 = r.2 := by
  unfold putN at hr
  split at hr
  · rename_i a' hp; cases hr; exact ⟨hp, rfl⟩
  · cases hr

theorem operA_calm {o : Oper} (he : isEff o.op = false) (id : Nat) (e : Tr Value) (h : AHeap) : operA P S id e h o = opA P h id e o := by
  unfold operA
  split
  · rename_i heq; rw [heq] at he; simp [isEff] at he
  · rfl

theorem sameO_eq {r : Option Value} {v : Value} (h : sameO r v = true) : r = some v := by
  unfold sameO at h
  split at h
  · rw [sameV_eq _ _ _ h]
  · cases h

theorem knownN_le (o : Oper) (i : Nat) (v : Value) : LeT N S (knownN P o v) (runC P o i) := by
  intro base a h r hr
  obtain ⟨e, n, m⟩ := a
  unfold knownN at hr
  split at hr
  · rename_i t x y hop
    simp only at hr
    split at hr
    · rename_i u hu
      split at hr
      · rename_i w hw
        simp only [Tree.eval] at hr
        split at hr
        · rename_i hs
          obtain ⟨p1, p2⟩ := putN_eval hr
          simp only at p1 p2
          simp only [runC, opC, hop, hu, hw, sameO_eq hs, withH, p1]
          rw [p2]
        · cases hr
      · cases hr
    · cases hr
  · rename_i t x hop
    simp only at hr
    split at hr
    · rename_i u hu
      simp only [Tree.eval] at hr
      split at hr
      · rename_i hs
        obtain ⟨p1, p2⟩ := putN_eval hr
        simp only at p1 p2
        simp only [runC, opC, hop, hu, sameO_eq hs, withH, p1]
        rw [p2]
      · cases hr
    · cases hr
  · cases hr

theorem toldN_le (o : Oper) (i : Nat) (v : Value) : LeT N S (toldN P o v) (runC P o i) := by
  intro base a h r hr
  obtain ⟨e, n, m⟩ := a
  unfold toldN at hr
  split at hr
  · rename_i t x y hop
    simp only at hr
    split at hr
    · rename_i u hu
      split at hr
      · rename_i w hw
        simp only [Tree.eval] at hr
        split at hr
        · rename_i hs
          obtain ⟨p1, p2⟩ := putN_eval hr
          simp only at p1 p2
          simp only [runC, opC, hop, hu, hw, isB_true.1 hs, withH, p1]
          rw [p2]
        · cases hr
      · cases hr
    · cases hr
  · rename_i t x hop
    simp only at hr
    split at hr
    · rename_i u hu
      simp only [Tree.eval] at hr
      split at hr
      · rename_i hs
        obtain ⟨p1, p2⟩ := putN_eval hr
        simp only at p1 p2
        simp only [runC, opC, hop, hu, isB_true.1 hs, withH, p1]
        rw [p2]
      · cases hr
    · cases hr
  · cases hr

theorem appendT_eval {h : AHeap} {id : Nat} {ts : Array TypeId} {b sLen sCap : Nat} {x : Value} {r : Value × AHeap} (hr : (appendT P h id ts b sLen sCap x).eval = some r) : appendA P h id ts #[.slice (some ⟨b, 0, none⟩) sLen sCap, x] = some r := by
  unfold appendT at hr
  split at hr
  case h_2 => cases hr
  rename_i st xt h0 h1
  split at hr
  case h_2 => cases hr
  rename_i e xd h2 h3
  split at hr
  · cases hr
  rename_i h4
  split at hr
  case h_2 => cases hr
  rename_i j h5
  split at hr
  case h_2 => cases hr
  rename_i z n h6 h7
  split at hr
  case isFalse => cases hr
  rename_i h8
  split at hr
  case h_2 => cases hr
  rename_i new h9
  split at hr
  case isFalse => cases hr
  rename_i h10
  split at hr
  case h_2 => cases hr
  rename_i c e' h11 h12
  split at hr
  case isFalse => cases hr
  rename_i h13
  subst h13
  simp only [Tree.eval] at hr
  split at hr
  case h_2 => cases hr
  rename_i h14
  simp only [Bool.and_eq_true, Nat.beq_eq, Nat.ble_eq] at h14
  obtain ⟨⟨⟨k1, k2⟩, k3⟩, k4⟩ := h14
  subst k2
  rw [getQ_eq] at h11 h12
  have g11 : h.get b = some (.cells c e' false true) := h11
  have g12 : h.get id = none := h12
  have hne : id ≠ b := fun hc => by rw [hc, g11] at g12; cases g12
  have hload : loadRow c 0 (sLen * j.size) = some c := by
    unfold loadRow
    rw [if_pos (by omega), List.drop_zero, ← k1, List.take_length]
  have hnew : newA P (h.put b .dead) id e' (c ++ new) true (.slice (some ⟨id, 0, none⟩) (sLen + n) (sLen + n)) = some (.slice (some ⟨id, 0, none⟩) (sLen + n) (sLen + n), (h.put b .dead).put id (.cells (c ++ new) e' false true)) := by
    unfold newA AHeap.new
    rw [h5]
    simp only [AHeap.get_put_ne _ _ hne, g12, Option.map_some]
  cases hr
  unfold appendA
  have a0 : (#[Value.slice (some ⟨b, 0, none⟩) sLen sLen, x] : Array Value)[0]? = some (.slice (some ⟨b, 0, none⟩) sLen sLen) := rfl
  have a1 : (#[Value.slice (some ⟨b, 0, none⟩) sLen sLen, x] : Array Value)[1]? = some x := rfl
  simp only [h0, h1, a0, a1, h2, h3]
  rw [if_neg h4]
  simp only [h5, h6, h7]
  rw [if_pos ⟨h8.1, k3, k4, h8.2.1⟩]
  simp only [h9]
  rw [if_pos h10]
  simp only [g11]
  rw [if_pos ⟨trivial, Nat.le_refl _, by omega⟩, if_neg h8.2.2]
  simp only [hload, if_true, Bool.false_eq_true, if_false]
  exact hnew

theorem cloneT_eval {h : AHeap} {id : Nat} {ts : Array TypeId} {b bx n k : Nat} {r : Value × AHeap} (hr : (cloneT P h id ts b bx n k).eval = some r) : appendA P h id ts #[.slice (some ⟨b, 0, none⟩) 0 0, .slice (some ⟨bx, 0, none⟩) n k] = some r := by
  unfold cloneT at hr
  split at hr
  case h_2 => cases hr
  rename_i st xt h0 h1
  split at hr
  case h_2 => cases hr
  rename_i e xd h2 h3
  split at hr
  · cases hr
  rename_i h4
  split at hr
  case h_2 => cases hr
  rename_i j h5
  split at hr
  case h_2 => cases hr
  rename_i z h6
  split at hr
  case isFalse => cases hr
  rename_i h8
  split at hr
  case h_2 => cases hr
  rename_i c0 e' ro c e2 ro2 g2 h11 h12 h13
  split at hr
  case isFalse => cases hr
  rename_i he
  subst he
  simp only [Tree.eval] at hr
  split at hr
  case h_2 => cases hr
  rename_i h14
  simp only [Bool.and_eq_true, Nat.beq_eq, Nat.ble_eq] at h14
  obtain ⟨⟨⟨⟨k1, k2⟩, k3⟩, k4⟩, k5⟩ := h14
  rw [getQ_eq] at h11 h12 h13
  have g11 : h.get b = some (.cells c0 e' ro false) := h11
  have g12 : h.get bx = some (.cells c e2 ro2 g2) := h12
  have g13 : h.get id = none := h13
  have hload : loadRow c 0 (n * j.size) = some c := by
    unfold loadRow
    rw [if_pos (by omega), List.drop_zero, ← k1, List.take_length]
  have hfirst : firstA h j.size n (.slice (some ⟨bx, 0, none⟩) n k) = some c := by
    simp only [firstA, g12]
    rw [if_neg (by omega)]
    exact hload
  have hnew : newA P h id e' ([] ++ c) true (.slice (some ⟨id, 0, none⟩) (0 + n) (0 + n)) = some (.slice (some ⟨id, 0, none⟩) n n, h.put id (.cells c e' false true)) := by
    unfold newA AHeap.new
    rw [h5]
    simp only [g13, Option.map_some, List.nil_append, Nat.zero_add]
  cases hr
  unfold appendA
  have a0 : (#[Value.slice (some ⟨b, 0, none⟩) 0 0, .slice (some ⟨bx, 0, none⟩) n k] : Array Value)[0]? = some (.slice (some ⟨b, 0, none⟩) 0 0) := rfl
  have a1 : (#[Value.slice (some ⟨b, 0, none⟩) 0 0, .slice (some ⟨bx, 0, none⟩) n k] : Array Value)[1]? = some (.slice (some ⟨bx, 0, none⟩) n k) := rfl
  simp only [h0, h1, a0, a1, h2, h3]
  rw [if_neg h4]
  simp only [h5, h6, lenOfA]
  rw [if_pos ⟨h8.1, by rw [Nat.zero_add]; exact k3, by rw [Nat.zero_add]; exact k4, h8.2⟩]
  simp only [hfirst]
  rw [if_pos ⟨k1, k5⟩]
  simp only [g11]
  rw [if_pos ⟨trivial, Nat.le_refl _, by omega⟩, if_neg (by omega)]
  have hl0 : loadRow c0 0 (0 * j.size) = some [] := by
    unfold loadRow
    rw [if_pos (by omega)]; simp
  simp only [hl0, Bool.false_eq_true, if_false]
  rw [if_neg (by omega)]
  exact hnew

theorem cloneN_le (o : Oper) (i : Nat) : LeT N S (cloneN P o i) (runC P o i) := by
  intro base a h r hr
  obtain ⟨e, n, m⟩ := a
  unfold cloneN at hr
  split at hr
  · rename_i args ts hop
    simp only at hr
    split at hr
    · rename_i b bx n k hvs
      obtain ⟨⟨v, h1⟩, e1, hr⟩ := eval_bind _ _ _ hr
      have c1 := cloneT_eval e1
      obtain ⟨p1, p2⟩ := putN_eval hr
      simp only at p1 p2
      have hrun : (opC P o).run S (base + i) e h = some (v, h1) := by
        unfold opC
        simp only [hop, builtinC, hvs, builtinA]
        rw [if_pos (by rfl)]
        exact c1
      simp only [runC, hrun, p1]
      rw [p2]
    · cases hr
  · cases hr

theorem appendN_le (o : Oper) (i : Nat) : LeT N S (appendN P o i) (runC P o i) := by
  intro base a h r hr
  obtain ⟨e, n, m⟩ := a
  unfold appendN at hr
  split at hr
  · rename_i args ts hop
    simp only at hr
    split at hr
    · rename_i b sLen sCap x hvs
      obtain ⟨⟨v, h1⟩, e1, hr⟩ := eval_bind _ _ _ hr
      have c1 := appendT_eval e1
      obtain ⟨p1, p2⟩ := putN_eval hr
      simp only at p1 p2
      have hrun : (opC P o).run S (base + i) e h = some (v, h1) := by
        unfold opC
        simp only [hop, builtinC, hvs, builtinA]
        rw [if_pos (by rfl)]
        exact c1
      simp only [runC, hrun, p1]
      rw [p2]
    · cases hr
  · cases hr

theorem doN_le (hL : LeN N S) (f : Nat) (o : Oper) (i : Nat) : LeT N S (doN P K f o i) (runC P o i) := by
  intro base a h r hr
  obtain ⟨e, n, m⟩ := a
  unfold doN at hr
  split at hr
  · rename_i g args _ hop
    split at hr
    · rename_i k
      split at hr
      · exact plainN_le o i _ _ _ _ hr
      simp only at hr
      split at hr
      · rename_i vs hvs
        obtain ⟨⟨v, h1⟩, e1, hr⟩ := eval_bind _ _ _ hr
        obtain ⟨p1, p2⟩ := putN_eval hr
        have c1 := hL.call _ _ _ _ e1
        simp only [runC, opC, hop, hvs, c1, p1]
        simp only at p2
        rw [p2]
      · cases hr
    · rename_i hnf
      simp only at hr
      split at hr
      · rename_i gv hgv
        split at hr
        · rename_i vs hvs
          obtain ⟨⟨v, h1⟩, e1, hr⟩ := eval_bind _ _ _ hr
          obtain ⟨p1, p2⟩ := putN_eval hr
          have c1 := callN_le hL e1
          have hrun : (opC P o).run S (base + i) e h = some (v, h1) := by
            unfold opC
            simp only [hop]
            cases g with
            | func k => exact (hnf k rfl).elim
            | _ => simp only [hgv, hvs, c1]
          simp only [runC, hrun, p1]
          simp only at p2
          rw [p2]
        · cases hr
      · cases hr
  · split at hr
    · exact plainN_le o i _ _ _ _ hr
    · split at hr
      · exact plainN_le o i _ _ _ _ hr
      · exact knownN_le o i _ _ _ _ _ hr
      · exact appendN_le o i _ _ _ _ hr
      · exact plainN_le o i _ _ _ _ hr
      · exact toldN_le o i _ _ _ _ _ hr
      · exact cloneN_le o i _ _ _ _ hr
      · simp only at hr
        split at hr
        · rename_i v h1 hv
          obtain ⟨u, e1, hr⟩ := eval_bind _ _ _ hr
          obtain ⟨p1, p2⟩ := putN_eval hr
          have := splitV_eval _ _ _ e1
          subst this
          simp only at p1 p2
          simp only [runC, hv, p1, p2]
        · cases hr

theorem doN_fe (hL : LeN N S) (f : Nat) (o : Oper) (i : Nat) : LeT N S (doN P K f o i) (fuseC P o i) := fun base a h r hr => by
  rw [fuseC_eq]
  exact doN_le hL f o i base a h r hr

theorem stepN_le (hL : LeN N S) (f : Nat) (ops : Array Oper) (i : Nat) : LeT N S (stepN P K f ops i) (stepC P ops i) := by
  unfold stepN stepC
  cases ops[i]? with
  | none => intro base a h r hr; cases hr
  | some o =>
    simp only
    cases o.guard with
    | none => exact doN_fe hL f o i
    | some jw =>
      obtain ⟨j, want⟩ := jw
      simp only
      cases (ops[j]?).bind (·.dst) with
      | none => intro base a h r hr; cases hr
      | some d =>
        cases want with
        | true =>
          intro base a h r hr
          obtain ⟨e, n, m⟩ := a
          simp only at hr ⊢
          cases hv : (getC (d + 1) d).run e with
          | none => rw [hv] at hr; cases hr
          | some v =>
            rw [hv] at hr
            cases v <;> try (cases hr; done)
            · rename_i b
              cases b
              · exact skipN_le o _ _ _ _ hr
              · exact doN_fe hL f o i _ _ _ _ hr
            · exact skipN_le o _ _ _ _ hr
        | false =>
          intro base a h r hr
          obtain ⟨e, n, m⟩ := a
          simp only at hr ⊢
          cases hv : (getC (d + 1) d).run e with
          | none => rw [hv] at hr; cases hr
          | some v =>
            rw [hv] at hr
            cases v <;> try (cases hr; done)
            · rename_i b
              cases b
              · exact doN_fe hL f o i _ _ _ _ hr
              · exact skipN_le o _ _ _ _ hr
            · exact skipN_le o _ _ _ _ hr

theorem opsN_le (hL : LeN N S) (f : Nat) (ops : Array Oper) : ∀ l, LeT N S (opsN P K f ops l) (opsC P ops l)
  | [] => fun _ _ _ _ hr => by cases hr; rfl
  | i :: rest => by
    intro base a h r hr
    obtain ⟨⟨a1, h1⟩, e1, hr⟩ := eval_bind _ _ _ hr
    have c1 := stepN_le hL f ops i _ _ _ _ e1
    simp only [opsC, c1]
    exact opsN_le hL f ops rest _ _ _ _ hr

/-! ### Regions whose order is drawn -/
theorem zip_self_all {f : Value → Value → Bool} : ∀ {l : List Value}, (∀ x ∈ l, f x x = true) → ((l.zip l).all fun (x, y) => f x y) = true
  | [], _ => rfl
  | x :: l, h => by
    simp only [List.zip_cons_cons, List.all_cons, Bool.and_eq_true]
    exact ⟨h x (by simp), zip_self_all fun y hy => h y (by simp [hy])⟩

theorem sameV_refl : ∀ (n : Nat) (v : Value), okV n v = true → sameV n v v = true
  | 0, v, h => by
    cases v <;> first | (simp [sameV]; done) | (simp [okV] at h)
  | n + 1, v, h => by
    cases v with
    | agg a =>
      simp only [okV, List.all_eq_true] at h
      simp only [sameV, beq_self_eq_true, Bool.true_and]
      exact zip_self_all fun x hx => sameV_refl n x (h x hx)
    | tuple a =>
      simp only [okV, List.all_eq_true] at h
      simp only [sameV, beq_self_eq_true, Bool.true_and]
      exact zip_self_all fun x hx => sameV_refl n x (h x hx)
    | _ => first | (simp [sameV]; done) | (simp [okV] at h)

theorem stepA_old {base i : Nat} {ops : Array Oper} {o : Oper} (hi : ops[i]? = some o) (he : isEff o.op = false) (hn : isNew o.op = false) {a a' : AAct} {h h' : AHeap} (hs : stepA P S base ops i a h = some (a', h')) : h' = h := by
  unfold stepA at hs
  simp only [hi] at hs
  split at hs
  · rw [operA_calm he] at hs
    obtain ⟨⟨v, h1⟩, hv, hs⟩ := Option.bind_eq_some_iff.1 hs
    obtain ⟨a1, _, hs⟩ := Option.map_eq_some_iff.1 hs
    cases hs
    exact opA_old hn he hv
  · obtain ⟨a1, _, hs⟩ := Option.map_eq_some_iff.1 hs
    cases hs; rfl
  · cases hs

theorem calm_still {base i m : Nat} {ops : Array Oper} {o : Oper} (hi : ops[i]? = some o) {a a' : AAct} {h h' : AHeap} (hs : (stepC P ops i).run S base a h = some (a', h'))
    (hk : wantedA ops a.env o = some true → ∃ v, (o.dst).bind a'.env.get = some v ∧ okV 3 v = true) : (calmC P ops o i m).run S base [h] a a' = true := by
  simp only [calmC]
  cases hw : wantedA ops a.env o with
  | none => rfl
  | some b =>
    cases b with
    | false => rfl
    | true =>
      obtain ⟨v, hv, hok⟩ := hk hw
      simp only
      rw [stepC_run] at hs
      unfold stepA at hs
      simp only [hi, hw] at hs
      obtain ⟨⟨u, h1⟩, hu, hs⟩ := Option.bind_eq_some_iff.1 hs
      obtain ⟨a1, hp, hs⟩ := Option.map_eq_some_iff.1 hs
      cases hs
      obtain ⟨d, hd, hg⟩ := Option.bind_eq_some_iff.1 hv
      rw [hd] at hp
      simp only [AAct.put] at hp
      split at hp
      · cases hp
        simp only [Tr.get_set_self] at hg
        cases hg
        rcases m with _ | m
        · rfl
        · simp only [List.take_succ_cons, List.take_nil, List.all_cons, List.all_nil, opC_run, hu, hv, Bool.and_true]
          rw [sameF_eq]
          exact sameV_refl 3 _ hok
      · cases hp

theorem planN_le (hL : LeN N S) (f : Nat) (ops : Array Oper) : ∀ (pl : List (Nat × Nat)) (cl : Bool) (base : Nat) (sn : List AHeap) (a : AAct) (h : AHeap) (r : AAct × AHeap), (cl = true → sn = [h]) →
    ((planN P K f ops cl pl).run N S base sn a h).eval = some r → (planC P ops pl).run S base sn a h = some r
  | [], cl, base, sn, a, h, r, _, hr => by cases cl <;> (cases hr; rfl)
  | (i, m) :: rest, cl, base, sn, a, h, r, hsn, hr => by
    have ih := planN_le hL f ops rest
    unfold planN at hr
    unfold planC
    cases hi : ops[i]? with
    | none => rw [hi] at hr; cases hr
    | some o =>
      simp only [hi] at hr ⊢
      cases he : isEff o.op with
      | true =>
        simp only [he] at hr ⊢
        obtain ⟨⟨a1, h1⟩, e1, hr⟩ := eval_bind _ _ _ hr
        have c1 := stepN_le hL f ops i _ _ _ _ e1
        simp only at hr
        split at hr
        · rename_i hl
          simp only [c1, hl]
          exact ih false _ _ _ _ _ (by simp) hr
        · cases hr
      | false =>
        simp only [he] at hr ⊢
        have old : ∀ a1 h1, (stepC P ops i).run S base a h = some (a1, h1) → still o = true → h1 = h := fun a1 h1 hr hs => by
          rw [stepC_run] at hr
          exact stepA_old hi he (by simpa [still, he] using hs) hr
        cases hd : readsH o.op with
        | false =>
          simp only [hd] at hr ⊢
          obtain ⟨⟨a1, h1⟩, e1, hr⟩ := eval_bind _ _ _ hr
          have c1 := stepN_le hL f ops i _ _ _ _ e1
          simp only [c1]
          refine ih _ _ _ _ _ _ (fun hc => ?_) hr
          simp only [Bool.and_eq_true] at hc
          rw [hsn hc.1, old a1 h1 c1 hc.2]
        | true =>
          simp only [hd] at hr ⊢
          cases cl with
          | false =>
            simp only at hr
            split at hr
            · obtain ⟨⟨a1, h1⟩, e1, hr⟩ := eval_bind _ _ _ hr
              have c1 := stepN_le hL f ops i _ _ _ _ e1
              simp only [Tree.eval] at hr
              split at hr
              · rename_i hl
                simp only [c1, hl]
                exact ih false _ _ _ _ _ (by simp) hr
              · cases hr
            · obtain ⟨⟨a1, h1⟩, e1, hr⟩ := eval_bind _ _ _ hr
              have c1 := stepN_le hL f ops i _ _ _ _ e1
              simp only at hr
              split at hr
              · rename_i hl
                simp only [c1, hl]
                exact ih false _ _ _ _ _ (by simp) hr
              · cases hr
          | true =>
            simp only at hr
            obtain ⟨⟨a1, h1⟩, e1, hr⟩ := eval_bind _ _ _ hr
            have c1 := stepN_le hL f ops i _ _ _ _ e1
            have hsn' := hsn rfl
            subst hsn'
            simp only at hr
            have go : ((planN P K f ops (still o) rest).run N S base [h] a1 h1).eval = some r → (wantedA ops a.env o = some true → ∃ v, (o.dst).bind a1.env.get = some v ∧ okV 3 v = true) →
                (match (stepC P ops i).run S base a h with | none => none | some (a', h') => (match (calmC P ops o i m).run S base [h] a a' with | true => (planC P ops rest).run S base [h] a' h' | false => none)) = some r := by
              intro hx hk
              simp only [c1, calm_still hi c1 hk]
              exact ih (still o) _ _ _ _ _ (fun hs => by rw [old a1 h1 c1 hs]) hx
            split at hr
            · rename_i hw
              split at hr
              · rename_i v hv
                split at hr
                · rename_i hok
                  exact go hr fun _ => ⟨v, hv, hok⟩
                · cases hr
              · cases hr
            · rename_i hw
              exact go hr fun hc => (hw hc).elim

theorem regionN_le (hL : LeN N S) (f : Nat) (ops : Array Oper) (draw : Bool) (a : AAct) (h : AHeap) (r : AAct × AHeap) (hr : ((regionN P K f ops draw).run N S a h).eval = some r) : (regionC P ops draw).run S a h = some r := by
  obtain ⟨t, nx⟩ := h
  unfold regionN at hr
  unfold regionC
  cases draw with
  | false =>
    have q := opsN_le hL f ops _ _ _ _ _ hr
    simp only at q ⊢
    cases hn : nx + ops.size with
    | zero => rw [hn] at q; exact q
    | succ k => rw [hn] at q; exact q
  | true =>
    simp only at hr ⊢
    cases hp : planOf ops with
    | none => rw [hp] at hr; cases hr
    | some pl =>
      simp only [hp] at hr ⊢
      cases hf : P.follows .mixedOrders with
      | false => rw [hf] at hr; cases hr
      | true =>
        simp only [hf] at hr ⊢
        have q := planN_le hL f ops pl true _ _ _ _ _ (fun _ => rfl) hr
        cases hn : nx + ops.size with
        | zero => rw [hn] at q; exact q
        | succ k => rw [hn] at q; exact q

/-! ### Code -/
theorem rangeN_le (hL : LeN N S) {f : Nat} {rd : Option Nat} {g : Operand} {ps : Array Tmp} {assign body : Code} {a : AAct} {h : AHeap} {r : Out × AAct × AHeap} (hr : (rangeN P N f rd g ps assign body a h).eval = some r) :
    rangeA P S rd g ps assign body a h = some r := by
  unfold rangeN at hr
  unfold rangeA
  split at hr
  case h_2 => cases hr
  rename_i fi first captured hg
  simp only [hg]
  split at hr
  case h_2 => cases hr
  rename_i D h1 marks hen
  simp only [hen]
  split at hr
  · cases hr
  rename_i h2 hnew
  simp only [hnew]
  obtain ⟨⟨v, h3⟩, e1, hr⟩ := eval_bind _ _ _ hr
  have c1 := hL.call _ _ _ _ e1
  simp only [c1]
  simp only [getQ_eq] at hr
  simp only [AHeap.get]
  split at hr
  case h_2 => cases hr
  rename_i L hl
  simp only [hl]
  split at hr
  · cases hr
  rename_i hb
  rw [if_neg hb]
  cases hp : L.pending with
  | none => simp only [hp] at hr ⊢; exact hr
  | some c => simp only [hp] at hr ⊢; exact hL.code _ _ _ _ _ _ hr

def LeK (N : SelfN) (S : Self) (x : KN) (y : CC) : Prop := ∀ rd a h r, (x.run rd N S a h).eval = some r → y.run rd S a h = some r

theorem codeN_le (hL : LeN N S) (f : Nat) (c : Code) : LeK N S (codeN P K f c) (codeC P c) := by
  induction c with
  | seq x y ihx ihy =>
    intro rd a h r hr
    obtain ⟨⟨o, a1, h1⟩, e1, hr⟩ := eval_bind _ _ _ hr
    have c1 := ihx _ _ _ _ e1
    simp only [codeC, c1]
    cases o with
    | normal => exact ihy _ _ _ _ hr
    | _ => exact hr
  | cond o x y ihx ihy =>
    intro rd a h r hr
    obtain ⟨e, n, m⟩ := a
    simp only [codeN] at hr
    simp only [codeC]
    split at hr
    · rename_i b hb
      simp only [hb]
      cases b with
      | true => exact ihx _ _ _ _ hr
      | false => exact ihy _ _ _ _ hr
    · cases hr
  | block id x ihx =>
    intro rd a h r hr
    obtain ⟨⟨o, a1, h1⟩, e1, hr⟩ := eval_bind _ _ _ hr
    have c1 := ihx _ _ _ _ e1
    simp only [codeC, c1]
    cases o with
    | exit id' =>
      simp only at hr ⊢
      cases hb : Nat.beq id' id with
      | true => rw [hb] at hr; exact hr
      | false => rw [hb] at hr; exact hr
    | _ => exact hr
  | region id ops draw =>
    intro rd a h r hr
    obtain ⟨⟨a1, h1⟩, e1, hr⟩ := eval_bind _ _ _ hr
    have c1 := regionN_le hL f ops draw _ _ _ e1
    simp only [codeC, c1]
    exact hr
  | loop x => exact fun rd a h r hr => hL.loop _ _ _ _ _ _ hr
  | rangeFunc g ps assign body => exact fun rd a h r hr => rangeN_le hL hr
  | _ => exact fun rd a h r hr => eval_ofO hr

theorem callFN_le (hL : LeN N S) (f : FuncId) (args : Array Value) (h : AHeap) (r : Value × AHeap) (hr : ((callFN P K f).run N S args h).eval = some r) : (callC P f).run S args h = some r := by
  unfold callFN at hr
  unfold callC
  cases hf : P.funcs[f]? with
  | none => rw [hf] at hr; cases hr
  | some fn =>
    simp only [hf] at hr ⊢
    cases hb : fn.body with
    | none => rw [hb] at hr; cases hr
    | some c =>
      simp only [hb] at hr ⊢
      cases hn : decide (fn.name = "runtime.NumGoroutine") with
      | true => rw [hn] at hr; cases hr
      | false =>
        simp only [hn] at hr ⊢
        cases hs : Nat.ble args.toList.length fn.ntmps with
        | false => rw [hs] at hr; cases hr
        | true =>
          simp only [hs] at hr ⊢
          obtain ⟨⟨o, a1, h1⟩, e1, hr⟩ := eval_bind _ _ _ hr
          have c1 := codeN_le hL f c _ _ _ _ e1
          simp only [c1]
          cases o with
          | normal => exact eval_ofO hr
          | ret => exact eval_ofO hr
          | _ => cases hr

theorem evN_le : ∀ k, LeN (evN P O K k) (evC P O k)
  | 0 => ⟨fun _ _ _ _ _ _ h => (by cases h), fun _ _ _ _ _ _ h => (by cases h), fun _ _ _ _ h => eval_ofO h⟩
  | k + 1 => by
    have ih := evN_le k
    refine ⟨fun f rd c a h r hr => codeN_le ih f c rd a h r hr, fun f rd c a h r hr => ?_, fun f args h r hr => ?_⟩
    · obtain ⟨⟨o, a1, h1⟩, e1, hr⟩ := eval_bind _ _ _ hr
      have c1 := codeN_le ih f c _ _ _ _ e1
      simp only [evC_succ, evS, c1]
      cases o with
      | normal => exact ih.loop _ _ _ _ _ _ hr
      | _ => exact hr
    · simp only [evN] at hr
      simp only [evC_succ, evS]
      split at hr
      · rename_i x hx
        rw [hx]; exact hr
      · rename_i hx
        rw [hx]
        exact callFN_le ih f args h r hr

/-- Wherever the tree leads: an answer. -/
theorem evN_call (hO : OracleOk P O) {k : Nat} {f : FuncId} {args : Array Value} {h : AHeap} {Q : Value → Prop} {t : Tree Value} (ht : ((evN P O K k).call f args h).map (·.1) = t) (hq : t.All Q) :
    ∃ v h', Q v ∧ CallOk P f args h v h' := by
  obtain ⟨v, hv, q⟩ := All.eval _ hq
  rw [← ht, eval_map] at hv
  obtain ⟨⟨v', h'⟩, hx, rfl⟩ := Option.map_eq_some_iff.1 hv
  exact ⟨v', h', q, evC_call hO ((evN_le k).call _ _ _ _ hx)⟩
end
end Go.Ev

/- Answers laid by hand: of numbers to numbers; of numbers to one row; of a new row. -/
namespace Go.Ev

/-- The small heap of a call that takes numbers alone. -/
def bare (G : Nat) : AHeap := { tr := .leaf, next := G }

section
variable {P : Program}

theorem bare_start {args : Array Value} {h : AHeap} (hp : args.toList.all pv1 = true) : ∀ μ w (args' : Array Value), Rel P μ h w → Top μ h → VsRel μ args.toList args'.toList →
    ∃ μ0, Rel P μ0 (bare P.globals.size) w ∧ Top μ0 (bare P.globals.size) ∧ VsRel μ0 args.toList args'.toList := fun μ w args' hR _ hA => by
  refine ⟨fun b => if b < P.globals.size then μ b else none, ⟨fun b o hb => ?_, fun b c o o' i j hb => ?_, fun g hg => ?_⟩, fun b hb => ?_, ?_⟩
  · simp [bare, AHeap.get, Tr.get_leaf] at hb
  · simp [bare, AHeap.get, Tr.get_leaf] at hb
  · obtain ⟨i, hi, h2⟩ := hR.glob g hg
    exact ⟨i, by simp [hg, hi], h2⟩
  · have : ¬ b < P.globals.size := by simp [bare] at hb; omega
    simp [this]
  · rw [hA.eq_of_pv1 hp]
    exact .of_pv1 hp

theorem bare_ro (G : Nat) : ∀ b o, (bare G).get b = some o → mutO o = false := fun b o hb => by simp [bare, AHeap.get, Tr.get_leaf] at hb

/-- An answer of numbers to numbers, in whatever heap. -/
theorem CallOk.numbers {O : Oracle} (hO : OracleOk P O) {k : Nat} {f : FuncId} {args : Array Value} {v : Value} {h : AHeap} (hp : args.toList.all pv1 = true) (hv : pv v = true)
    (hc : ((evC P O k).call f args (bare P.globals.size)).map (·.1) = some v) : CallOk P f args h v h := by
  obtain ⟨⟨v', h'⟩, hx, rfl⟩ := Option.map_eq_some_iff.1 hc
  exact (evC_call hO hx).pure hv (bare_ro _) (bare_start hp)

def oNone : Oracle := fun _ _ _ => none
theorem oNone_ok : OracleOk P oNone := fun _ _ _ _ _ h => by cases h

/-- A row without addresses in it reads alike by every map. -/
theorem ORel.plain {μ ν : Mu} {c : List Value} {e : TypeId} {ro g : Bool} {i : Img} {w : World} (hc : c.all pv1 = true) (h : ORel P μ (.cells c e ro g) i w) : ORel P ν (.cells c e ro g) i w := by
  obtain ⟨C, fz, h1, h2, h3, h4, h5, h6, h7⟩ := h
  refine ⟨C, fz, h1, h2, h3, h4, fun k v hv => ?_, h6, h7⟩
  obtain ⟨v', a, b⟩ := h5 k v hv
  have hp : pv1 v = true := List.all_eq_true.1 hc v (List.mem_of_getElem? hv)
  exact ⟨v', a, by rw [b.eq_of_pv1 hp]; exact .of_pv1 hp⟩

def rowEq : List Value → List Value → Bool
  | [], [] => true
  | x :: xs, y :: ys => match sameF x y with | true => rowEq xs ys | false => false
  | _, _ => false
theorem rowEq_eq : ∀ {a b : List Value}, rowEq a b = true → a = b
  | [], [], _ => rfl
  | x :: xs, y :: ys, h => by
    simp only [rowEq] at h
    split at h
    · rename_i hs
      rw [sameF_eq] at hs
      rw [sameV_eq _ _ _ hs, rowEq_eq h]
    · cases h
  | [], _ :: _, h => by cases h
  | _ :: _, [], h => by cases h

/-- The small heap of a call that takes one row, where there is one package-level variable. -/
def rowHeap (c : List Value) (e : TypeId) (g : Bool) : AHeap := { tr := .node (.node .leaf (some (.cells c e true g)) .leaf) none .leaf, next := 2 }

theorem rowHeap_get (c : List Value) (e : TypeId) (g : Bool) (b : Nat) : (rowHeap c e g).get b = if b = 1 then some (.cells c e true g) else none := by
  rcases b with _ | _ | b
  · rfl
  · rfl
  · rw [if_neg (by omega)]
    simp only [rowHeap, AHeap.get, Tr.get]
    split
    · rcases hb : (b + 1) / 2 with _ | k
      · omega
      · simp only [Tr.get, ite_self]
    · rfl
theorem rowHeap_ro (c : List Value) (e : TypeId) (g : Bool) : ∀ b o, (rowHeap c e g).get b = some o → mutO o = false := fun b o h => by
  rw [rowHeap_get] at h; split at h <;> cases h; rfl

theorem row_start (hG : P.globals.size = 1) {c : List Value} {e : TypeId} {ro g : Bool} {b : Nat} {h : AHeap} {n k : Nat} {more : List Value} (hm : more.all pv1 = true) (hb : h.get b = some (.cells c e ro g)) (hp : c.all pv1 = true) :
    ∀ μ w (args' : Array Value), Rel P μ h w → Top μ h → VsRel μ (.slice (some ⟨b, 0, none⟩) n k :: more) args'.toList →
    ∃ μ0, Rel P μ0 (rowHeap c e g) w ∧ Top μ0 (rowHeap c e g) ∧ VsRel μ0 (.slice (some ⟨1, 0, none⟩) n k :: more) args'.toList := fun μ w args' hR _ hA => by
  obtain ⟨i, hi, ho⟩ := hR.obj b _ hb
  have ho' : ORel P μ (.cells c e true g) i w := by
    cases ro with
    | true => exact ho
    | false => exact ho.froze
  refine ⟨fun x => if x = 0 then μ 0 else if x = 1 then some i else none, Rel.ro (fun x o hx => ?_) (fun x hx => ?_), fun x hx => ?_, ?_⟩
  · rw [rowHeap_get] at hx
    split at hx <;> cases hx
    rename_i hx1; subst hx1
    exact ⟨rfl, i, rfl, ho'.plain hp⟩
  · have hx0 : x = 0 := by omega
    subst hx0
    obtain ⟨j, hj, h2⟩ := hR.glob 0 hx
    exact ⟨j, by simpa using hj, h2⟩
  · have : 2 ≤ x := hx
    simp only
    rw [if_neg (by omega), if_neg (by omega)]
  · revert hA
    generalize args'.toList = l
    intro hA
    cases hA with
    | cons hv hs =>
      refine .cons ?_ (by rw [hs.eq_of_pv1 hm]; exact .of_pv1 hm)
      cases hv with
      | slice hμ hc he hv =>
        rw [hi] at hμ; cases hμ
        exact .slice rfl hc he hv

/-- An answer of numbers to a row that is only read. -/
theorem CallOk.ofRow {O : Oracle} (hO : OracleOk P O) (hG : P.globals.size = 1) {fu : Nat} {f : FuncId} {c : List Value} {e : TypeId} {ro g : Bool} {b : Nat} {h : AHeap} {n k : Nat} {more : List Value} {v : Value} (hm : more.all pv1 = true)
    (hb : h.get b = some (.cells c e ro g)) (hp : c.all pv1 = true) (hv : pv v = true) (hc : ((evC P O fu).call f (Value.slice (some ⟨1, 0, none⟩) n k :: more).toArray (rowHeap c e g)).map (·.1) = some v) :
    CallOk P f (Value.slice (some ⟨b, 0, none⟩) n k :: more).toArray h v h := by
  obtain ⟨⟨v', h'⟩, hx, rfl⟩ := Option.map_eq_some_iff.1 hc
  exact (evC_call hO hx).pure hv (rowHeap_ro _ _ _) (fun μ w args' hR hT hA => row_start hG hm hb hp μ w args' hR hT (by simpa using hA))

/-! Any argument that leads to one row that is only read. -/
def rowV1 (b : Nat) : Value → Bool
  | .slice (some ⟨x, _, none⟩) _ _ => Nat.beq x b
  | v => pv1 v
def renV1 : Value → Value
  | .slice (some ⟨_, o, none⟩) l c => .slice (some ⟨1, o, none⟩) l c
  | v => v
def rowV (b : Nat) : Value → Bool
  | .agg cs => cs.toList.all (rowV1 b)
  | v => rowV1 b v
def renV : Value → Value
  | .agg cs => .agg (cs.toList.map renV1).toArray
  | v => renV1 v

theorem renV1_rel {μ ν : Mu} {b : Nat} {i : Img} (hb : μ b = some i) (h1 : ν 1 = some i) {v v' : Value} (hv : rowV1 b v = true) (h : VRel μ v v') : VRel ν (renV1 v) v' := by
  unfold rowV1 at hv
  split at hv
  · rename_i x o l c
    rw [Nat.beq_eq] at hv
    subst hv
    cases h with
    | slice hμ hc he hv =>
      rw [hb] at hμ; cases hμ
      exact .slice h1 hc he hv
  · rename_i hne
    have e : renV1 v = v := by
      unfold renV1
      split
      · rename_i x o l c; exact (hne _ _ _ _ rfl).elim
      · rfl
    rw [e, h.eq_of_pv1 hv]
    exact .of_pv1 hv

theorem renV1s_rel {μ ν : Mu} {b : Nat} {i : Img} (hb : μ b = some i) (h1 : ν 1 = some i) : ∀ {l l' : List Value}, l.all (rowV1 b) = true → VsRel μ l l' → VsRel ν (l.map renV1) l'
  | _, _, _, .nil => .nil
  | _, _, hl, .cons h hs => by
    simp only [List.all_cons, Bool.and_eq_true] at hl
    exact .cons (renV1_rel hb h1 hl.1 h) (renV1s_rel hb h1 hl.2 hs)

theorem renV_rel {μ ν : Mu} {b : Nat} {i : Img} (hb : μ b = some i) (h1 : ν 1 = some i) {v v' : Value} (hv : rowV b v = true) (h : VRel μ v v') : VRel ν (renV v) v' := by
  by_cases ha : ∃ cs, v = .agg cs
  · obtain ⟨cs, rfl⟩ := ha
    cases h with
    | agg h => exact .agg (by simpa using renV1s_rel hb h1 hv h)
  · have e1 : rowV b v = rowV1 b v := by
      unfold rowV; split
      · rename_i cs; exact (ha ⟨cs, rfl⟩).elim
      · rfl
    have e2 : renV v = renV1 v := by
      unfold renV; split
      · rename_i cs; exact (ha ⟨cs, rfl⟩).elim
      · rfl
    rw [e1] at hv
    rw [e2]
    exact renV1_rel hb h1 hv h

theorem renVs_rel {μ ν : Mu} {b : Nat} {i : Img} (hb : μ b = some i) (h1 : ν 1 = some i) : ∀ {l l' : List Value}, l.all (rowV b) = true → VsRel μ l l' → VsRel ν (l.map renV) l'
  | _, _, _, .nil => .nil
  | _, _, hl, .cons h hs => by
    simp only [List.all_cons, Bool.and_eq_true] at hl
    exact .cons (renV_rel hb h1 hl.1 h) (renVs_rel hb h1 hl.2 hs)

theorem row_starts (hG : P.globals.size = 1) {c : List Value} {e : TypeId} {ro g : Bool} {b : Nat} {h : AHeap} {args : List Value} (hm : args.all (rowV b) = true) (hb : h.get b = some (.cells c e ro g)) (hp : c.all pv1 = true) :
    ∀ μ w (args' : Array Value), Rel P μ h w → Top μ h → VsRel μ args args'.toList →
    ∃ μ0, Rel P μ0 (rowHeap c e g) w ∧ Top μ0 (rowHeap c e g) ∧ VsRel μ0 (args.map renV) args'.toList := fun μ w args' hR _ hA => by
  obtain ⟨i, hi, ho⟩ := hR.obj b _ hb
  have ho' : ORel P μ (.cells c e true g) i w := by
    cases ro with
    | true => exact ho
    | false => exact ho.froze
  refine ⟨fun x => if x = 0 then μ 0 else if x = 1 then some i else none, Rel.ro (fun x o hx => ?_) (fun x hx => ?_), fun x hx => ?_, renVs_rel hi rfl hm hA⟩
  · rw [rowHeap_get] at hx
    split at hx <;> cases hx
    rename_i hx1; subst hx1
    exact ⟨rfl, i, rfl, ho'.plain hp⟩
  · have hx0 : x = 0 := by omega
    subst hx0
    obtain ⟨j, hj, h2⟩ := hR.glob 0 hx
    exact ⟨j, by simpa using hj, h2⟩
  · have : 2 ≤ x := hx
    simp only
    rw [if_neg (by omega), if_neg (by omega)]

/-- An answer of numbers to whatever leads to one row that is only read. -/
theorem CallOk.ofRows {O : Oracle} (hO : OracleOk P O) (hG : P.globals.size = 1) {fu : Nat} {f : FuncId} {c : List Value} {e : TypeId} {ro g : Bool} {b : Nat} {h : AHeap} {args : Array Value} {v : Value} (hm : args.toList.all (rowV b) = true)
    (hb : h.get b = some (.cells c e ro g)) (hp : c.all pv1 = true) (hv : pv v = true) (hc : ((evC P O fu).call f (args.toList.map renV).toArray (rowHeap c e g)).map (·.1) = some v) :
    CallOk P f args h v h := by
  obtain ⟨⟨v', h'⟩, hx, rfl⟩ := Option.map_eq_some_iff.1 hc
  exact (evC_call hO hx).pure hv (rowHeap_ro _ _ _) (fun μ w args' hR hT hA => by simpa using row_starts hG hm hb hp μ w args' hR hT hA)

/-- A new row: laid under the next number. -/
theorem CallOk.fresh {f : FuncId} {args0 args : Array Value} {h0 h0' h : AHeap} {b0 n k : Nat} {c : List Value} {e : TypeId} {g : Bool} (hc : CallOk P f args0 h0 (.slice (some ⟨b0, 0, none⟩) n k) h0')
    (hb : h0'.get b0 = some (.cells c e false g)) (hp : c.all pv1 = true) (hro : ∀ b o, h0.get b = some o → mutO o = false)
    (hs : ∀ μ w (args' : Array Value), Rel P μ h w → Top μ h → VsRel μ args.toList args'.toList → ∃ μ0, Rel P μ0 h0 w ∧ Top μ0 h0 ∧ VsRel μ0 args0.toList args'.toList) :
    CallOk P f args h (.slice (some ⟨h.next, 0, none⟩) n k) ⟨h.tr.set h.next (.cells c e false g), h.next + 1⟩ := by
  refine ⟨hc.1, fun μ w args' R hR hT hA hK => ?_⟩
  obtain ⟨μ0, r0, t0, a0⟩ := hs μ w args' hR hT hA
  refine hc.2 μ0 w args' R r0 t0 a0 fun μ' w' v' fi hv => ?_
  have hold := hR.kept hT fi.ste hro
  obtain ⟨i, hi, ho⟩ := fi.rel.obj b0 _ hb
  have hnew : w.heap.size ≤ i.blk := Nat.le_of_not_lt fun hlt => by
    obtain ⟨x, o', j, hx, _, hm, _⟩ := fi.ste.own b0 _ i hb rfl hi hlt
    have := hm rfl
    rw [hro x o' hx] at this; cases this
  have hμn : μ h.next = none := hT _ (Nat.le_refl _)
  have hfree : h.get h.next = none := by
    cases hg : h.get h.next with
    | none => rfl
    | some o => obtain ⟨j, hj, _⟩ := hR.obj _ _ hg; rw [hμn] at hj; cases hj
  have hn : h.new h.next (.cells c e false g) = some (h.put h.next (.cells c e false g)) := by simp [AHeap.new, hfree]
  obtain ⟨r1, s1⟩ := hR.grow hμn hn hnew (ho.plain hp) fi.ste.size fi.ste.tape fi.ste.os fi.ste.output (fi.ste.below hro).block
  have r2 := r1.next (h.next + 1)
  have fin : Fin P μ h w (μ.add h.next i) ⟨h.tr.set h.next (.cells c e false g), h.next + 1⟩ w' := by
    refine ⟨r2, s1.trans (Ste.next _ _ _ (h.next + 1)), fun b hb => ?_, fun b hb h0 => ?_, Nat.le_succ _⟩
    · have : h.next + 1 ≤ b := hb
      unfold Mu.add
      rw [if_neg (by omega)]
      exact hT b (by omega)
    · unfold Mu.add
      rw [if_neg (by omega)]
      exact h0
  refine hK _ w' v' fin ?_
  cases hv with
  | slice hμ hc he hv =>
    rw [hi] at hμ; cases hμ
    exact .slice (Mu.add_self _ _ _) hc he hv

end
end Go.Ev

/- A function's code at the model's level, by states that the evaluator knows: steps of code, and loops of unknown length. -/
namespace Go.Ev
open Tree Go.RowKit

section
variable {P : Program}

/-- The world stands as the evaluator's state says; whatever may be written is newer than B; below B all is as it was in W. -/
structure At (P : Program) (B : Nat) (W : World) (a : AAct) (h : AHeap) (act : Act) (w : World) : Prop where
  map : ∃ μ, Rel P μ h w ∧ Top μ h ∧ ARel μ a act ∧ ∀ b o i, h.get b = some o → mutO o = true → μ b = some i → B ≤ i.blk
  below : Below B W w

theorem At.of_fin {B : Nat} {W w w' : World} {μ μ' : Mu} {h h' : AHeap} {a' : AAct} {act' : Act} (hB : B ≤ W.heap.size) (hm : ∀ b o i, h.get b = some o → mutO o = true → μ b = some i → B ≤ i.blk) (hb : Below B W w)
    (fi : Fin P μ h w μ' h' w') (ha : ARel μ' a' act') : At P B W a' h' act' w' := by
  have hsz : B ≤ w.heap.size := Nat.le_trans hB hb.size
  refine ⟨⟨μ', fi.rel, fi.top, ha, fun b o i hg ho hi => ?_⟩, hb.trans ⟨fi.ste.os, fi.ste.tape, fi.ste.output, fi.ste.size, fun k hk => fi.ste.kept k (by omega) fun b o i hg ho hi => ?_⟩⟩
  · by_cases hlt : i.blk < w.heap.size
    · obtain ⟨c, o', j, hc, _, hmm, hj, he⟩ := fi.ste.own b o i hg (liveO_of_mutO ho) hi hlt
      have := hm c o' j hc (hmm ho) hj
      omega
    · omega
  · have := hm b o i hg ho hi
    omega

/-- Code, by the tree of its ends. -/
theorem At.code {O : Oracle} (hO : OracleOk P O) {K : Spl} {k f : Nat} {c : Code} {a : AAct} {h : AHeap} {act : Act} {w W : World} {B : Nat} {Q : Exit → Act → World → Prop} {t : Tree (Out × AAct × AHeap)} (hB : B ≤ W.heap.size)
    (ht : (evN P O K k).code f none c a h = t) (hall : t.All fun x => ∀ act' w', At P B W x.2.1 x.2.2 act' w' → Q (exitOf x.1) act' w') (hat : At P B W a h act w) : c.wpIn Fence.wide 0 P Q act w := by
  obtain ⟨⟨μ, hR, hT, hA, hm⟩, hb⟩ := hat
  obtain ⟨⟨out, a', h'⟩, hx, hq⟩ := All.eval _ hall
  rw [← ht] at hx
  exact (evC_ok hO k).code none c a h out a' h' ((evN_le k).code _ _ _ _ _ _ hx) Fence.wide μ w act Q rfl hR hT hA fun μ' w' act' fi ha => hq act' w' (At.of_fin hB hm hb fi ha)

/-- A loop, by a measure that falls from round to round. -/
theorem loop_rule {St : Type} (m : St → Nat) (I : St → Act → World → Prop) {x : Code} {Q : Exit → Act → World → Prop}
    (step : ∀ s act w, I s act w → x.wpIn Fence.wide 0 P (fun e act' w' => (e = .normal ∧ ∃ s', m s' < m s ∧ I s' act' w') ∨ (e ≠ .normal ∧ Q e act' w')) act w) :
    ∀ s act w, I s act w → (Code.loop x).wpIn Fence.wide 0 P Q act w := by
  have key : ∀ n s act w, m s = n → I s act w → runs P [.code x, .inLoop x] Fence.wide Q act w := by
    intro n
    induction n using Nat.strongRecOn with
    | ind n ih =>
      intro s act w hn hi b k cs hb
      obtain ⟨e, act1, w1, hq, arr⟩ := step s act w hi b (.inLoop x :: k) cs hb trivial (room_wide _)
      rcases hq with ⟨rfl, s', hlt, hi'⟩ | ⟨hne, hq⟩
      · obtain ⟨e2, act2, w2, q2, arr2⟩ := ih (m s') (by omega) s' act1 w1 rfl hi' b k cs hb
        exact ⟨e2, act2, w2, q2, .of_steps arr (.of_steps (.one (fenced_calm (n := 0) trivial (room_wide _) rfl) stepR_inLoop) arr2)⟩
      · refine ⟨e, act1, w1, hq, .pass (x := .inLoop x) rfl (fun _ _ => .inl ?_) arr⟩
        cases e <;> first | exact (hne rfl).elim | simp
  intro s act w hi
  exact runs_wp (runs_step (its' := [.code x, .inLoop x]) (fun _ => trivial) (fun n => room_wide n) (fun b k => rfl) (fun b k cs => stepR_loop) (key _ s act w rfl hi))

/-! ### Another name for a state: blocks under other numbers, some forgotten -/
def ren1 (ρ : Nat → Nat) : Value → Value
  | .pointer (some ⟨b, o, none⟩) => .pointer (some ⟨ρ b, o, none⟩)
  | .slice (some ⟨b, o, none⟩) l c => .slice (some ⟨ρ b, o, none⟩) l c
  | .map (some r) => .map (some (ρ r))
  | v => v
def ren (ρ : Nat → Nat) : Value → Value
  | .agg cs => .agg (cs.toList.map (ren1 ρ)).toArray
  | v => ren1 ρ v
/-- Which blocks a value leads to, as far as it may be renamed. -/
def okR1 (dom : List Nat) : Value → Bool
  | .pointer (some ⟨b, _, none⟩) => dom.contains b
  | .slice (some ⟨b, _, none⟩) _ _ => dom.contains b
  | .slice (some ⟨_, _, some _⟩) 0 0 => true
  | .map (some r) => dom.contains r
  | v => pv1 v
def okR (dom : List Nat) : Value → Bool
  | .agg cs => cs.toList.all (okR1 dom)
  | v => okR1 dom v

theorem ren1_rel {μ ν : Mu} {ρ : Nat → Nat} {dom : List Nat} (hν : ∀ b ∈ dom, ν b = μ (ρ b)) {v v' : Value} (ho : okR1 dom v = true) (h : VRel μ (ren1 ρ v) v') : VRel ν v v' := by
  unfold okR1 at ho
  split at ho
  · rename_i b o
    have hb : b ∈ dom := by simpa using ho
    cases h with
    | ptr hi => exact .ptr (by rw [hν b hb]; exact hi)
  · rename_i b o l c
    have hb : b ∈ dom := by simpa using ho
    cases h with
    | slice hi hc he hv => exact .slice (by rw [hν b hb]; exact hi) hc he hv
  · cases h with
    | empty => exact .empty
  · rename_i r
    have hb : r ∈ dom := by simpa using ho
    cases h with
    | map hi => exact .map (by rw [hν r hb]; exact hi)
  · have e : ren1 ρ v = v := by
      unfold ren1
      split
      · simp [pv1] at ho
      · simp [pv1] at ho
      · simp [pv1] at ho
      · rfl
    rw [e] at h
    rw [h.eq_of_pv1 ho]
    exact .of_pv1 ho
theorem ren1s_rel {μ ν : Mu} {ρ : Nat → Nat} {dom : List Nat} (hν : ∀ b ∈ dom, ν b = μ (ρ b)) : ∀ {l l' : List Value}, l.all (okR1 dom) = true → VsRel μ (l.map (ren1 ρ)) l' → VsRel ν l l'
  | [], _, _, h => by cases h; exact .nil
  | v :: l, _, ho, h => by
    simp only [List.all_cons, Bool.and_eq_true] at ho
    cases h with
    | cons h hs => exact .cons (ren1_rel hν ho.1 h) (ren1s_rel hν ho.2 hs)

theorem ren_rel {μ ν : Mu} {ρ : Nat → Nat} {dom : List Nat} (hν : ∀ b ∈ dom, ν b = μ (ρ b)) {v v' : Value} (ho : okR dom v = true) (h : VRel μ (ren ρ v) v') : VRel ν v v' := by
  by_cases ha : ∃ cs, v = .agg cs
  · obtain ⟨cs, rfl⟩ := ha
    cases h with
    | agg h => exact .agg (ren1s_rel hν ho (by simpa using h))
  · have e1 : okR dom v = okR1 dom v := by
      unfold okR; split
      · rename_i cs; exact (ha ⟨cs, rfl⟩).elim
      · rfl
    have e2 : ren ρ v = ren1 ρ v := by
      unfold ren; split
      · rename_i cs; exact (ha ⟨cs, rfl⟩).elim
      · rfl
    rw [e1] at ho
    rw [e2] at h
    exact ren1_rel hν ho h

/-- A cell under its other name: the same, or junk. -/
def jr (ρ : Nat → Nat) (dom : List Nat) (v u : Value) : Prop := (v = .chan (some 0) ∧ oneCell u = true) ∨ (okR1 dom v = true ∧ u = ren1 ρ v)
def jrs (ρ : Nat → Nat) (dom : List Nat) : List Value → List Value → Prop
  | [], [] => True
  | v :: c, u :: d => jr ρ dom v u ∧ jrs ρ dom c d
  | _, _ => False
theorem jrs_length {ρ : Nat → Nat} {dom : List Nat} : ∀ {c d : List Value}, jrs ρ dom c d → d.length = c.length
  | [], [], _ => rfl
  | _ :: _, _ :: _, h => by simp [jrs_length h.2]
  | [], _ :: _, h => h.elim
  | _ :: _, [], h => h.elim
theorem jrs_get {ρ : Nat → Nat} {dom : List Nat} : ∀ {c d : List Value}, jrs ρ dom c d → ∀ (k : Nat) (v : Value), c[k]? = some v → ∃ u, d[k]? = some u ∧ jr ρ dom v u
  | [], [], _, k, v, h => by simp at h
  | a :: c, b :: d, h, 0, v, hk => by simp at hk; subst hk; exact ⟨b, rfl, h.1⟩
  | a :: c, b :: d, h, k + 1, v, hk => by simpa using jrs_get h.2 k v (by simpa using hk)
  | [], _ :: _, h, _, _, _ => h.elim
  | _ :: _, [], h, _, _, _ => h.elim
theorem jrs_same {ρ : Nat → Nat} {dom : List Nat} : ∀ {c : List Value}, c.all (okR1 dom) = true → jrs ρ dom c (c.map (ren1 ρ))
  | [], _ => trivial
  | v :: c, h => by
    simp only [List.all_cons, Bool.and_eq_true] at h
    exact ⟨.inr ⟨h.1, rfl⟩, jrs_same h.2⟩
theorem jrs_append {ρ : Nat → Nat} {dom : List Nat} : ∀ {a b c d : List Value}, jrs ρ dom a b → jrs ρ dom c d → jrs ρ dom (a ++ c) (b ++ d)
  | [], [], _, _, _, h => h
  | _ :: _, _ :: _, _, _, h, k => ⟨h.1, jrs_append h.2 k⟩
  | [], _ :: _, _, _, h, _ => h.elim
  | _ :: _, [], _, _, h, _ => h.elim

def envOf (l : List (Nat × Value)) : Tr Value := l.foldr (fun p t => t.set p.1 p.2) .leaf
def heapOf (n : Nat) (l : List (Nat × AObj)) : AHeap := ⟨l.foldr (fun p t => t.set p.1 p.2) .leaf, n⟩

theorem foldr_get {α : Type} : ∀ (l : List (Nat × α)) (b : Nat) (o : α), (l.foldr (fun p t => t.set p.1 p.2) (.leaf : Tr α)).get b = some o → (b, o) ∈ l
  | [], b, o, h => by rw [List.foldr_nil, Tr.get_leaf] at h; cases h
  | p :: l, b, o, h => by
    rw [List.foldr_cons, Tr.get_set] at h
    split at h
    · rename_i hb; cases h; subst hb; simp
    · exact List.mem_cons_of_mem _ (foldr_get l b o h)

/-- An object under its other name. -/
def objR (ρ : Nat → Nat) (dom : List Nat) : AObj → AObj → Prop
  | .cells c e ro g, .cells d e' ro' g' => e = e' ∧ ro = ro' ∧ g = g' ∧ jrs ρ dom c d
  | .map es k, .map es' k' => es = es' ∧ k = k' ∧ es.all (fun x => pv x.val) = true
  | _, _ => False
theorem objR_mut {ρ : Nat → Nat} {dom : List Nat} {o o' : AObj} (h : objR ρ dom o o') : mutO o' = mutO o ∧ liveO o' = liveO o := by
  cases o <;> cases o' <;> simp [objR] at h <;> simp [mutO, liveO, h]
theorem EntsRel.plain {μ ν : Mu} : ∀ {a b : List MapEntry}, a.all (fun x => pv x.val) = true → EntsRel μ a b → EntsRel ν a b
  | _, _, _, .nil => .nil
  | _, _, hp, .cons h hs => by
    simp only [List.all_cons, Bool.and_eq_true] at hp
    exact .cons ⟨h.key, h.qv, by rw [h.val.eq_of_pv hp.1]; exact .of_pv hp.1, h.born⟩ (EntsRel.plain hp.2 hs)
theorem objR_rel {μ ν : Mu} {ρ : Nat → Nat} {dom : List Nat} (hν : ∀ b ∈ dom, ν b = μ (ρ b)) {o o' : AObj} {i : Img} {w : World} (hr : objR ρ dom o o') (h : ORel P μ o' i w) : ORel P ν o i w := by
  cases o with
  | cells c e ro g =>
    cases o' with
    | cells d e' ro' g' =>
      obtain ⟨rfl, rfl, rfl, hok⟩ := hr
      obtain ⟨C, fz, k1, k2, k3, k4, k5, k6, k7⟩ := h
      refine ⟨C, fz, k1, k2, k3, by rw [← jrs_length hok]; exact k4, fun k v hk => ?_, k6, k7⟩
      obtain ⟨u, hu, hj⟩ := jrs_get hok k v hk
      obtain ⟨v', a1, a2⟩ := k5 k u hu
      refine ⟨v', a1, ?_⟩
      rcases hj with ⟨rfl, ho⟩ | ⟨ho, rfl⟩
      · exact .junk (a2.oneCell.trans ho)
      · exact ren1_rel hν ho a2
    | _ => exact hr.elim
  | map es k =>
    cases o' with
    | map es' k' =>
      obtain ⟨rfl, rfl, hp⟩ := hr
      obtain ⟨E, h1, h2⟩ := h
      exact ⟨E, h1, h2.plain hp⟩
    | _ => exact hr.elim
  | _ => exact hr.elim

/-- The state (a, h) under other names: what stands in E and H is what it holds, through ρ. -/
structure Red (P : Program) (a : AAct) (h : AHeap) (n : Nat) (E : List (Nat × Value)) (next : Nat) (H : List (Nat × AObj)) (ρ : Nat → Nat) : Prop where
  size : a.n = n
  marks : a.marks = []
  env : ∀ p ∈ E, okR (H.map (·.1)) p.2 = true ∧ a.env.get p.1 = some (ren ρ p.2)
  obj : ∀ p ∈ H, p.1 < next ∧ ∃ o', h.get (ρ p.1) = some o' ∧ objR ρ (H.map (·.1)) p.2 o'
  inj : ∀ b ∈ H.map (·.1), ∀ c ∈ H.map (·.1), ρ b = ρ c → b = c
  glob : ∀ g, g < P.globals.size → g ∈ H.map (·.1) ∧ ρ g = g

theorem At.red {B : Nat} {W : World} {a : AAct} {h : AHeap} {act : Act} {w : World} (hat : At P B W a h act w) {n : Nat} {E : List (Nat × Value)} {next : Nat} {H : List (Nat × AObj)} {ρ : Nat → Nat} (r : Red P a h n E next H ρ) :
    At P B W ⟨envOf E, n, []⟩ (heapOf next H) act w := by
  obtain ⟨⟨μ, hR, hT, hA, hm⟩, hb⟩ := hat
  obtain ⟨ν, hν, hν0⟩ : ∃ ν : Mu, (∀ b ∈ H.map (·.1), ν b = μ (ρ b)) ∧ ∀ b, b ∉ H.map (·.1) → ν b = none :=
    ⟨fun b => if b ∈ H.map (·.1) then μ (ρ b) else none, fun b hb => by simp only [hb, if_true], fun b hb => by simp only [hb, if_false]⟩
  have get : ∀ b o, (heapOf next H).get b = some o → (b, o) ∈ H ∧ b ∈ H.map (·.1) := fun b o hg => by
    have := foldr_get H b o hg
    exact ⟨this, List.mem_map.2 ⟨(b, o), this, rfl⟩⟩
  have old : ∀ b o, (heapOf next H).get b = some o → ∃ o', h.get (ρ b) = some o' ∧ mutO o' = mutO o ∧ liveO o' = liveO o := fun b o hg => by
    obtain ⟨_, o', h1, h2⟩ := r.obj _ (get b o hg).1
    exact ⟨_, h1, (objR_mut h2).1, (objR_mut h2).2⟩
  refine ⟨⟨ν, ⟨fun b o hg => ?_, fun b c o o' i j hg hg' hmo hlo hi hj he => ?_, fun g hg => ?_⟩, fun b hb => ?_, ⟨⟨?_, fun t v ht => ?_⟩, ?_⟩, fun b o i hg ho hi => ?_⟩, hb⟩
  · obtain ⟨_, o', h1, hok⟩ := r.obj _ (get b o hg).1
    obtain ⟨i, hi, ho⟩ := hR.obj _ _ h1
    exact ⟨i, by rw [hν b (get b _ hg).2]; exact hi, objR_rel hν hok ho⟩
  · obtain ⟨o1, h1, m1, l1⟩ := old b o hg
    obtain ⟨o2, h2, m2, l2⟩ := old c o' hg'
    rw [hν b (get b _ hg).2] at hi
    rw [hν c (get c _ hg').2] at hj
    exact r.inj b (get b _ hg).2 c (get c _ hg').2 (hR.inj _ _ _ _ _ _ h1 h2 (m1.trans hmo) (l2.trans hlo) hi hj he)
  · obtain ⟨hd, he⟩ := r.glob g hg
    obtain ⟨i, hi, h2⟩ := hR.glob g hg
    exact ⟨i, by rw [hν g hd, he]; exact hi, h2⟩
  · have hnb : next ≤ b := hb
    refine hν0 b fun hc => ?_
    obtain ⟨p, hp, rfl⟩ := List.mem_map.1 hc
    have := (r.obj p hp).1
    omega
  · rw [← r.size]; exact hA.tmps.size
  · obtain ⟨hok, hg⟩ := r.env _ (foldr_get E t v ht)
    obtain ⟨v', h1, h2⟩ := hA.tmps.get t _ hg
    exact ⟨v', h1, ren_rel hν hok h2⟩
  · have := hA.defs
    rw [r.marks] at this
    exact match act.defers, this with
      | _, .nil => .nil
  · obtain ⟨o1, h1, m1, _⟩ := old b o hg
    rw [hν b (get b _ hg).2] at hi
    exact hm _ _ _ h1 (m1.trans ho) hi
end
end Go.Ev

/- Answers laid by hand that ask conditions: trees. -/
namespace Go.Ev
open Tree

/-- Answers as trees. -/
abbrev OTree := FuncId → Array Value → AHeap → Tree (Value × AHeap)
def otO (OT : OTree) : Oracle := fun f args h => (OT f args h).eval
def toT (O : Oracle) : OTree := fun f args h => .ofO (O f args h)
theorem otO_toT (O : Oracle) : otO (toT O) = O := by
  funext f args h
  simp only [otO, toT]
  cases O f args h <;> rfl

noncomputable def evM (P : Program) (OT : OTree) (K : Spl) : Nat → SelfN
  | 0 => { code := fun _ _ _ _ _ => .no, loop := fun _ _ _ _ _ => .no, call := OT }
  | k + 1 => {
      code := fun f rd c a h => (codeN P K f c).run rd (evM P OT K k) (evC P (otO OT) k) a h
      loop := fun f rd x a h => ((codeN P K f x).run rd (evM P OT K k) (evC P (otO OT) k) a h).bind fun (o, a', h') =>
        match o with | .normal => (evM P OT K k).loop f rd x a' h' | o => .leaf (o, a', h')
      call := fun f args h => match OT f args h with | .no => (callFN P K f).run (evM P OT K k) (evC P (otO OT) k) args h | t => t }

section
variable {P : Program} {OT : OTree} {K : Spl}

theorem evM_le : ∀ k, LeN (evM P OT K k) (evC P (otO OT) k)
  | 0 => ⟨fun _ _ _ _ _ _ h => (by cases h), fun _ _ _ _ _ _ h => (by cases h), fun _ _ _ _ h => h⟩
  | k + 1 => by
    have ih := evM_le k
    refine ⟨fun f rd c a h r hr => codeN_le ih f c rd a h r hr, fun f rd c a h r hr => ?_, fun f args h r hr => ?_⟩
    · obtain ⟨⟨o, a1, h1⟩, e1, hr⟩ := eval_bind _ _ _ hr
      have c1 := codeN_le ih f c _ _ _ _ e1
      simp only [evC_succ, evS, c1]
      cases o with
      | normal => exact ih.loop _ _ _ _ _ _ hr
      | _ => exact hr
    · simp only [evM] at hr
      simp only [evC_succ, evS, otO]
      cases ht : OT f args h with
      | no =>
        rw [ht] at hr
        exact callFN_le ih f args h r hr
      | leaf x => rw [ht] at hr; simp only [Tree.eval] at hr ⊢; cases hr; rfl
      | fork b t s =>
        rw [ht] at hr
        simp only at hr
        rw [hr]

/-- Wherever the tree leads: an answer. -/
theorem evM_call (hO : OracleOk P (otO OT)) {k : Nat} {f : FuncId} {args : Array Value} {h : AHeap} {Q : Value × AHeap → Prop} {t : Tree (Value × AHeap)} (ht : (evM P OT K k).call f args h = t) (hq : t.All Q) :
    ∃ v h', Q (v, h') ∧ CallOk P f args h v h' := by
  obtain ⟨⟨v, h'⟩, hv, q⟩ := All.eval _ hq
  rw [← ht] at hv
  exact ⟨v, h', q, evC_call hO ((evM_le k).call _ _ _ _ hv)⟩

theorem At.codeM (hO : OracleOk P (otO OT)) {k f : Nat} {c : Code} {a : AAct} {h : AHeap} {act : Act} {w W : World} {B : Nat} {Q : Exit → Act → World → Prop} {t : Tree (Out × AAct × AHeap)} (hB : B ≤ W.heap.size)
    (ht : (evM P OT K k).code f none c a h = t) (hall : t.All fun x => ∀ act' w', At P B W x.2.1 x.2.2 act' w' → Q (exitOf x.1) act' w') (hat : At P B W a h act w) : c.wpIn Fence.wide 0 P Q act w := by
  obtain ⟨⟨μ, hR, hT, hA, hm⟩, hb⟩ := hat
  obtain ⟨⟨out, a', h'⟩, hx, hq⟩ := All.eval _ hall
  rw [← ht] at hx
  exact (evC_ok hO k).code none c a h out a' h' ((evM_le k).code _ _ _ _ _ _ hx) Fence.wide μ w act Q rfl hR hT hA fun μ' w' act' fi ha => hq act' w' (At.of_fin hB hm hb fi ha)
end
end Go.Ev

/- Triples over the evaluator's states: code leads from one state to some of a set; loops; functions whose answer is a value, or a value and new objects. -/
namespace Go.Ev
open Tree Go.RowKit

theorem Tree.All.mono {α : Type} {p q : α → Prop} (h : ∀ x, p x → q x) : ∀ t : Tree α, All p t → All q t
  | .no, k => k
  | .leaf a, k => h a k
  | .fork _ t f, k => ⟨fun hb => All.mono h t (k.1 hb), fun hb => All.mono h f (k.2 hb)⟩

section
variable {P : Program}

/-- Code leads from (a, h) to what Q says. -/
def Tri (P : Program) (c : Code) (a : AAct) (h : AHeap) (Q : Out → AAct → AHeap → Prop) : Prop :=
  ∀ B W act w, B ≤ W.heap.size → At P B W a h act w → c.wpIn Fence.wide 0 P (fun e act' w' => ∃ o a' h', e = exitOf o ∧ Q o a' h' ∧ At P B W a' h' act' w') act w

/-- What is known of (a, h) is known of (a', h') too. -/
def Sub (P : Program) (a : AAct) (h : AHeap) (a' : AAct) (h' : AHeap) : Prop := ∀ B W act w, At P B W a h act w → At P B W a' h' act w
theorem Sub.refl (a : AAct) (h : AHeap) : Sub P a h a h := fun _ _ _ _ h => h
theorem Sub.trans {a b c : AAct} {x y z : AHeap} (h : Sub P a x b y) (k : Sub P b y c z) : Sub P a x c z := fun B W act w q => k B W act w (h B W act w q)
theorem Sub.red {a : AAct} {h : AHeap} {n : Nat} {E : List (Nat × Value)} {next : Nat} {H : List (Nat × AObj)} {ρ : Nat → Nat} (r : Red P a h n E next H ρ) : Sub P a h ⟨envOf E, n, []⟩ (heapOf next H) := fun _ _ _ _ hat => hat.red r

theorem Tri.mono {c : Code} {a : AAct} {h : AHeap} {Q Q' : Out → AAct → AHeap → Prop} (ht : Tri P c a h Q) (hq : ∀ o a h, Q o a h → ∃ a' h', Sub P a h a' h' ∧ Q' o a' h') : Tri P c a h Q' := fun B W act w hB hat =>
  wpIn_mono (ht B W act w hB hat) fun e act' w' ⟨o, a1, h1, he, q, k⟩ => let ⟨a2, h2, s, q2⟩ := hq o a1 h1 q; ⟨o, a2, h2, he, q2, s _ _ _ _ k⟩
theorem Tri.conseq {c : Code} {a : AAct} {h : AHeap} {Q Q' : Out → AAct → AHeap → Prop} (ht : Tri P c a h Q) (hq : ∀ o a h, Q o a h → Q' o a h) : Tri P c a h Q' := ht.mono fun o a h q => ⟨a, h, .refl a h, hq o a h q⟩
theorem Tri.sub {c : Code} {a a' : AAct} {h h' : AHeap} {Q : Out → AAct → AHeap → Prop} (s : Sub P a h a' h') (ht : Tri P c a' h' Q) : Tri P c a h Q := fun B W act w hB hat => ht B W act w hB (s _ _ _ _ hat)

/-- Code without loops of unknown length, by the tree of its ends. -/
theorem Tri.run {OT : OTree} (hO : OracleOk P (otO OT)) {K : Spl} {k f : Nat} {c : Code} {a : AAct} {h : AHeap} {Q : Out → AAct → AHeap → Prop} {t : Tree (Out × AAct × AHeap)}
    (ht : (evM P OT K k).code f none c a h = t) (hall : t.All fun x => Q x.1 x.2.1 x.2.2) : Tri P c a h Q := fun B W act w hB hat =>
  At.codeM hO hB ht (All.mono (fun x hx act' w' hat' => ⟨x.1, x.2.1, x.2.2, rfl, hx, hat'⟩) t hall) hat

theorem Tri.seq {x y : Code} {a : AAct} {h : AHeap} {Q : Out → AAct → AHeap → Prop} (hx : Tri P x a h fun o a' h' => match o with | .normal => Tri P y a' h' Q | o => Q o a' h') : Tri P (.seq x y) a h Q := fun B W act w hB hat =>
  wpIn_seq (wpIn_mono (hx B W act w hB hat) fun e act' w' ⟨o, a1, h1, he, q, k⟩ => by
    subst he
    cases o with
    | normal => exact q B W act' w' hB k
    | ret => exact ⟨.ret, a1, h1, rfl, q, k⟩
    | exit id => exact ⟨.exit id, a1, h1, rfl, q, k⟩
    | goto l => exact ⟨.goto l, a1, h1, rfl, q, k⟩)

theorem Tri.block {id : Nat} {x : Code} {a : AAct} {h : AHeap} {Q : Out → AAct → AHeap → Prop} (hx : Tri P x a h fun o a' h' => match o with | .exit id' => (if id' = id then Q .normal a' h' else Q (.exit id') a' h') | o => Q o a' h') : Tri P (.block id x) a h Q := fun B W act w hB hat =>
  wpIn_block (wpIn_mono (hx B W act w hB hat) fun e act' w' ⟨o, a1, h1, he, q, k⟩ => by
    subst he
    cases o with
    | normal => exact ⟨.normal, a1, h1, rfl, q, k⟩
    | ret => exact ⟨.ret, a1, h1, rfl, q, k⟩
    | goto l => exact ⟨.goto l, a1, h1, rfl, q, k⟩
    | exit id' =>
      simp only [exitOf, Exit.inBlock]
      simp only at q
      split at q
      · rename_i e; rw [if_pos e]; exact ⟨.normal, a1, h1, rfl, q, k⟩
      · rename_i e; rw [if_neg e]; exact ⟨.exit id', a1, h1, rfl, q, k⟩)

theorem Tri.cond {o : Operand} {x y : Code} {a : AAct} {h : AHeap} {Q : Out → AAct → AHeap → Prop} {b : Bool} (ho : evalO P.globals.size a.env o = some (.bool b)) (hx : b = true → Tri P x a h Q) (hy : b = false → Tri P y a h Q) : Tri P (.cond o x y) a h Q := fun B W act w hB hat => by
  obtain ⟨⟨μ, hR, hT, hA, hm⟩, hb⟩ := hat
  have ho' := evalO_ok hR hA.tmps ho
  generalize hge : act.eval o = g' at ho'
  cases ho'
  cases b with
  | true => exact wpIn_cond_true hge (hx rfl B W act w hB ⟨⟨μ, hR, hT, hA, hm⟩, hb⟩)
  | false => exact wpIn_cond_false hge (hy rfl B W act w hB ⟨⟨μ, hR, hT, hA, hm⟩, hb⟩)

/-- A loop: I holds ahead of each round, and a measure falls. -/
theorem Tri.loop {St : Type} (m : St → Nat) (I : St → AAct → AHeap → Prop) {x : Code} {Q : Out → AAct → AHeap → Prop}
    (step : ∀ s a h, I s a h → Tri P x a h fun o a' h' => match o with | .normal => ∃ s' a'' h'', m s' < m s ∧ I s' a'' h'' ∧ Sub P a' h' a'' h'' | o => Q o a' h') :
    ∀ s a h, I s a h → Tri P (.loop x) a h Q := fun s a h hi B W act w hB hat => by
  refine loop_rule (P := P) (St := St) m (fun s act w => ∃ a h, I s a h ∧ At P B W a h act w) (fun s act w ⟨a, h, hi, hat⟩ => ?_) s act w ⟨a, h, hi, hat⟩
  refine wpIn_mono (step s a h hi B W act w hB hat) fun e act' w' ⟨o, a1, h1, he, q, k⟩ => ?_
  subst he
  cases o with
  | normal =>
    obtain ⟨s', a2, h2, hlt, hi', sb⟩ := q
    exact .inl ⟨rfl, s', hlt, a2, h2, hi', sb _ _ _ _ k⟩
  | ret => exact .inr ⟨by simp [exitOf], .ret, a1, h1, rfl, q, k⟩
  | exit id => exact .inr ⟨by simp [exitOf], .exit id, a1, h1, rfl, q, k⟩
  | goto l => exact .inr ⟨by simp [exitOf], .goto l, a1, h1, rfl, q, k⟩

/-- A scope of labels, by a measure: C is the code that stands ahead. -/
theorem Tri.scope {St : Type} (m : St → Nat) (I : St → Code → AAct → AHeap → Prop) {body : Code} {Q : Out → AAct → AHeap → Prop}
    (step : ∀ s c a h, I s c a h → Tri P c a h fun o a' h' => match o with | .goto l => (match findLabel body l with | some rest => ∃ s' a'' h'', m s' < m s ∧ I s' rest a'' h'' ∧ Sub P a' h' a'' h'' | none => Q (.goto l) a' h') | o => Q o a' h') :
    ∀ s a h, I s body a h → Tri P (.scope body) a h Q := fun s a h hi B W act w hB hat => by
  have key : ∀ n s c act w, m s = n → (∃ a h, I s c a h ∧ At P B W a h act w) → runs P [.code c, .inScope body] Fence.wide (fun e act' w' => ∃ o a' h', e = exitOf o ∧ Q o a' h' ∧ At P B W a' h' act' w') act w := by
    intro n
    induction n using Nat.strongRecOn with
    | ind n ih =>
      intro s c act w hn ⟨a, h, hi, hat⟩ b k cs hb
      obtain ⟨e, act1, w1, ⟨o, a1, h1, rfl, q, hat1⟩, arr⟩ := step s c a h hi B W act w hB hat b (.inScope body :: k) cs hb trivial (room_wide _)
      cases o with
      | goto l =>
        simp only at q
        split at q
        · rename_i rest hl
          obtain ⟨s', a2, h2, hlt, hi', sb⟩ := q
          obtain ⟨e2, act2, w2, q2, arr2⟩ := ih (m s') (by omega) s' rest act1 w1 rfl ⟨a2, h2, hi', sb _ _ _ _ hat1⟩ b k cs hb
          exact ⟨e2, act2, w2, q2, .of_steps (arr.1 _ (by simp [gotoIn, hl])) arr2⟩
        · rename_i hl
          have hx : gotoIn l (.inScope body :: k) = gotoIn l k := by simp [gotoIn, hl]
          exact ⟨.goto l, act1, w1, ⟨_, a1, h1, rfl, q, hat1⟩, fun k' hk => arr.1 k' (by rw [hx]; exact hk), fun hr' hk => arr.2 hr' (by rw [hx]; exact hk)⟩
      | normal => exact ⟨.normal, act1, w1, ⟨.normal, a1, h1, rfl, q, hat1⟩, StepsIn.trans arr (.one (fenced_calm (n := 0) trivial (room_wide _) rfl) stepR_inScope)⟩
      | exit id => exact ⟨.exit id, act1, w1, ⟨.exit id, a1, h1, rfl, q, hat1⟩, fun k' hk => arr.1 k' (by simp [exitTo, hk]), fun hr' hk => arr.2 hr' (by simp [exitTo, hk])⟩
      | ret => exact ⟨.ret, act1, w1, ⟨.ret, a1, h1, rfl, q, hat1⟩, arr⟩
  exact runs_wp (runs_step (its' := [.code body, .inScope body]) (fun _ => trivial) (fun n => room_wide n) (fun b k => rfl) (fun b k cs => stepR_scope) (key _ s body act w rfl ⟨a, h, hi, hat⟩))

/-! ### Functions -/

/-- Values of several results. -/
def renT (ρ : Nat → Nat) : Value → Value
  | .tuple cs => .tuple (cs.toList.map (ren ρ)).toArray
  | v => ren ρ v
def okT (dom : List Nat) : Value → Bool
  | .tuple cs => cs.toList.all (okR dom)
  | v => okR dom v
theorem rens_rel {μ ν : Mu} {ρ : Nat → Nat} {dom : List Nat} (hν : ∀ b ∈ dom, ν b = μ (ρ b)) : ∀ {l l' : List Value}, l.all (okR dom) = true → VsRel μ (l.map (ren ρ)) l' → VsRel ν l l'
  | [], _, _, h => by cases h; exact .nil
  | v :: l, _, ho, h => by
    simp only [List.all_cons, Bool.and_eq_true] at ho
    cases h with
    | cons h hs => exact .cons (ren_rel hν ho.1 h) (rens_rel hν ho.2 hs)
theorem renT_rel {μ ν : Mu} {ρ : Nat → Nat} {dom : List Nat} (hν : ∀ b ∈ dom, ν b = μ (ρ b)) {v v' : Value} (ho : okT dom v = true) (h : VRel μ (renT ρ v) v') : VRel ν v v' := by
  by_cases ha : ∃ cs, v = .tuple cs
  · obtain ⟨cs, rfl⟩ := ha
    cases h with
    | tuple h => exact .tuple (rens_rel hν ho (by simpa using h))
  · have e1 : okT dom v = okR dom v := by
      unfold okT; split
      · rename_i cs; exact (ha ⟨cs, rfl⟩).elim
      · rfl
    have e2 : renT ρ v = ren ρ v := by
      unfold renT; split
      · rename_i cs; exact (ha ⟨cs, rfl⟩).elim
      · rfl
    rw [e1] at ho
    rw [e2] at h
    exact ren_rel hν ho h

/-- The heap with new objects in it. -/
def withNew (h : AHeap) (H : List (Nat × AObj)) (next : Nat) : AHeap := ⟨H.foldr (fun p t => t.set p.1 p.2) h.tr, next⟩
theorem foldr_get_mem {α : Type} (t : Tr α) : ∀ (l : List (Nat × α)) (b : Nat) (o : α), (l.foldr (fun p t => t.set p.1 p.2) t).get b = some o → (b, o) ∈ l ∨ (b ∉ l.map (·.1) ∧ t.get b = some o)
  | [], b, o, h => .inr ⟨by simp, h⟩
  | p :: l, b, o, h => by
    rw [List.foldr_cons, Tr.get_set] at h
    split at h
    · rename_i hb; cases h; subst hb; exact .inl (by simp)
    · rename_i hb
      rcases foldr_get_mem t l b o h with h' | ⟨h1, h2⟩
      · exact .inl (List.mem_cons_of_mem _ h')
      · exact .inr ⟨by simpa [hb] using h1, h2⟩

/-- What a function must come to: a value, and new objects of its own, under the names base + 0, base + 1, ..; nothing that was there has changed. -/
structure Ends (P : Program) (fn : Func) (a' : AAct) (h' : AHeap) (v : Value) (H : List (Nat × AObj)) (ρ : Nat → Nat) : Prop where
  ex : ∃ h2, (doneC P fn).run a' h' = some (renT ρ v, h2) ∧ (∀ p ∈ H, ∃ o', h2.get (ρ p.1) = some o' ∧ objR ρ (H.map (·.1)) p.2 o')
  ok : okT (H.map (·.1)) v = true
  own : ∀ p ∈ H, mutO p.2 = true
  inj : ∀ b ∈ H.map (·.1), ∀ c ∈ H.map (·.1), ρ b = ρ c → b = c

/-- A function, by its body: what it is given is only read; it gives a value, and new objects. -/
theorem CallOk.ofTri {f : FuncId} {fn : Func} {c : Code} {args0 args : Array Value} {h0 h : AHeap} {v : Value} {H : List (Nat × AObj)} {next : Nat} (hf : P.funcs[f]? = some fn) (hb : fn.body = some c) (hn : fn.name ≠ "runtime.NumGoroutine") (hsz : args0.size ≤ fn.ntmps)
    (ht : Tri P c ⟨argsEnv args0.toList 0 .leaf, fn.ntmps, []⟩ h0 (fun o a' h' => (o = .normal ∨ o = .ret) ∧ ∃ ρ, Ends P fn a' h' v H ρ))
    (hnx : h.next ≤ next) (hnm : ∀ p ∈ H, h.next ≤ p.1 ∧ p.1 < next)
    (hro : ∀ b o, h0.get b = some o → mutO o = false)
    (hs : ∀ μ w (args' : Array Value), Rel P μ h w → Top μ h → VsRel μ args.toList args'.toList → ∃ μ0, Rel P μ0 h0 w ∧ Top μ0 h0 ∧ VsRel μ0 args0.toList args'.toList) :
    CallOk P f args h v (withNew h H next) := by
  refine ⟨⟨fn, c, hf, hb, hn⟩, fun μ w args' R hR hT hA hK => ?_⟩
  obtain ⟨μ0, r0, t0, a0⟩ := hs μ w args' hR hT hA
  refine callsIn_of_wp_marks hf hb trivial ?_
  have hat : At P w.heap.size w ⟨argsEnv args0.toList 0 .leaf, fn.ntmps, []⟩ h0 { tmps := args' ++ Array.replicate (fn.ntmps - args'.size) undef, defers := [] } w :=
    ⟨⟨μ0, r0, t0, ⟨args_tmps a0 hsz, .nil⟩, fun b o i hg ho _ => by rw [hro b o hg] at ho; cases ho⟩, Below.refl _ _⟩
  refine wpIn_mono (ht w.heap.size w _ w (Nat.le_refl _) hat) fun e act1 w1 ⟨o, a1, h1, he, ⟨ho, ρ, en⟩, hat1⟩ => ?_
  obtain ⟨⟨μ1, r1, t1, e1, m1⟩, b1⟩ := hat1
  obtain ⟨⟨h2, hd, hobj⟩, hok, hmut, hinj⟩ := en
  rw [doneC_run] at hd
  obtain ⟨h2', hsh, hd⟩ := Option.bind_eq_some_iff.1 hd
  simp only [Option.map_eq_some_iff, Prod.mk.injEq] at hd
  obtain ⟨v1, hv1, rfl, rfl⟩ := hd
  have hL := shut_leaves (R := R) (fn := fn) (a := a1) a1.marks act1.defers μ1 h1 h2' w1 r1 t1 e1.tmps e1.defs hsh hv1 fun w' v' f2 hvr => by
    have hat2 : At P w.heap.size w ⟨.leaf, 0, []⟩ h2' { tmps := #[], defers := [] } w' :=
      At.of_fin (Nat.le_refl _) m1 b1 f2 ⟨⟨rfl, fun t v hv => by rw [Tr.get_leaf] at hv; cases hv⟩, .nil⟩
    obtain ⟨⟨μ2, r2', t2', _, _⟩, b2⟩ := hat2
    have r2 := f2.rel
    have m2 : ∀ b o i, h2'.get b = some o → mutO o = true → μ1 b = some i → w.heap.size ≤ i.blk := fun b o i hg ho hi => by
      by_cases hlt : i.blk < w1.heap.size
      · obtain ⟨c, o', j, hc, _, hmm, hj, he⟩ := f2.ste.own b o i hg (liveO_of_mutO ho) hi hlt
        have := m1 c o' j hc (hmm ho) hj
        omega
      · have := b1.size; omega
    obtain ⟨ν, hν, hν0⟩ : ∃ ν : Mu, (∀ b ∈ H.map (·.1), ν b = μ1 (ρ b)) ∧ ∀ b, b ∉ H.map (·.1) → ν b = μ b :=
      ⟨fun b => if b ∈ H.map (·.1) then μ1 (ρ b) else μ b, fun b hb => by simp only [hb, if_true], fun b hb => by simp only [hb, if_false]⟩
    have hname : ∀ b ∈ H.map (·.1), h.next ≤ b ∧ b < next := fun b hb => by
      obtain ⟨p, hp, rfl⟩ := List.mem_map.1 hb
      exact hnm p hp
    have hold : ∀ b i, μ b = some i → b ∉ H.map (·.1) := fun b i hi hb => by
      rw [hT b (hname b hb).1] at hi; cases hi
    have hle : μ.le ν := fun b i hi => by rw [hν0 b (hold b i hi)]; exact hi
    have new : ∀ b o, (b, o) ∈ H → mutO o = true ∧ ∃ o' i, h2'.get (ρ b) = some o' ∧ objR ρ (H.map (·.1)) o o' ∧ μ1 (ρ b) = some i ∧ ν b = some i ∧ ORel P μ1 o' i w' ∧ w.heap.size ≤ i.blk := fun b o hb => by
      have hm := hmut _ hb
      obtain ⟨o', h1', h2''⟩ := hobj _ hb
      obtain ⟨i, hi, ho'⟩ := r2.obj _ _ h1'
      refine ⟨hm, o', i, h1', h2'', hi, ?_, ho', m2 _ _ _ h1' ((objR_mut h2'').1.trans hm) hi⟩
      rw [hν b (List.mem_map.2 ⟨_, hb, rfl⟩)]; exact hi
    have oldg : ∀ b o, h.get b = some o → ∃ i, μ b = some i ∧ ν b = some i ∧ ORel P μ o i w ∧ (liveO o = true → i.blk < w.heap.size) := fun b o hb => by
      obtain ⟨i, hi, ho⟩ := hR.obj b o hb
      exact ⟨i, hi, hle _ _ hi, ho, fun hl => ho.lt hl⟩
    refine hK ν w' v' ⟨⟨fun b o hg => ?_, fun b c o o' i j hg hg' hmo hlo hi hj he => ?_, fun g hg => ?_⟩, ⟨hle, b2.size, b2.tape, b2.os, b2.output, fun k hk _ => b2.block k hk, fun b o i hg hl hi hlt => ?_⟩, fun b hb => ?_, fun b hb h0 => ?_, hnx⟩ (renT_rel hν hok hvr)
    · rcases foldr_get_mem _ _ _ _ hg with hb | ⟨hb, hg⟩
      · obtain ⟨_, o', i, _, hr, hi, hi', ho', _⟩ := new b o hb
        exact ⟨i, hi', objR_rel hν hr ho'⟩
      · obtain ⟨i, hi, hi', ho, hlt⟩ := oldg b o hg
        refine ⟨i, hi', ?_⟩
        by_cases hl : liveO o = true
        · exact (ho.mono hle).congr (b2.block _ (hlt hl))
        · cases o <;> simp [liveO] at hl; trivial
    · rcases foldr_get_mem _ _ _ _ hg with hb | ⟨hb, hg⟩
      · obtain ⟨m1', o1, i1, g1, q1, k1, l1, _, s1⟩ := new b o hb
        rw [l1] at hi; cases hi
        rcases foldr_get_mem _ _ _ _ hg' with hc | ⟨hc, hg'⟩
        · obtain ⟨_, o2, i2, g2, q2, k2, l2, _, s2⟩ := new c o' hc
          rw [l2] at hj; cases hj
          exact hinj b (List.mem_map.2 ⟨_, hb, rfl⟩) c (List.mem_map.2 ⟨_, hc, rfl⟩) (r2.inj _ _ _ _ _ _ g1 g2 ((objR_mut q1).1.trans m1') ((objR_mut q2).2.trans hlo) k1 k2 he)
        · obtain ⟨i2, k2, l2, _, lt2⟩ := oldg c o' hg'
          rw [l2] at hj; cases hj
          have := lt2 hlo
          omega
      · obtain ⟨i1, k1, l1, _, lt1⟩ := oldg b o hg
        rw [l1] at hi; cases hi
        have := lt1 (liveO_of_mutO hmo)
        rcases foldr_get_mem _ _ _ _ hg' with hc | ⟨hc, hg'⟩
        · obtain ⟨_, o2, i2, g2, q2, k2, l2, _, s2⟩ := new c o' hc
          rw [l2] at hj; cases hj
          omega
        · obtain ⟨i2, k2, l2, _, _⟩ := oldg c o' hg'
          rw [l2] at hj; cases hj
          exact hR.inj _ _ _ _ _ _ hg hg' hmo hlo k1 k2 he
    · obtain ⟨i, hi, h2⟩ := hR.glob g hg
      exact ⟨i, hle _ _ hi, h2⟩
    · rcases foldr_get_mem _ _ _ _ hg with hb | ⟨hb, hg⟩
      · obtain ⟨_, o2, i2, _, _, _, l2, _, s2⟩ := new b o hb
        rw [l2] at hi; cases hi
        omega
      · obtain ⟨i2, k2, l2, _, _⟩ := oldg b o hg
        rw [l2] at hi; cases hi
        exact ⟨b, o, i, hg, hl, id, k2, rfl⟩
    · have hb' : next ≤ b := hb
      have hnot : b ∉ H.map (·.1) := fun hc => by have := (hname b hc).2; omega
      rw [hν0 b hnot]
      exact hT b (by omega)
    · have hnot : b ∉ H.map (·.1) := fun hc => by have := (hname b hc).1; omega
      rw [hν0 b hnot]
      exact h0
  subst he
  rcases ho with rfl | rfl
  · exact hL
  · exact hL

end
end Go.Ev

/- An answer to whatever leads to one row that is only read: the answer may lead to that row too. -/
namespace Go.Ev
open Tree Go.RowKit

section
variable {P : Program}

theorem row_starts_at (hG : P.globals.size = 1) {c : List Value} {e : TypeId} {ro g : Bool} {b : Nat} {h : AHeap} {args : List Value} (hm : args.all (rowV b) = true) (hb : h.get b = some (.cells c e ro g)) (hp : c.all pv1 = true) :
    ∀ μ w (args' : Array Value), Rel P μ h w → Top μ h → VsRel μ args args'.toList →
    ∃ μ0, Rel P μ0 (rowHeap c e g) w ∧ Top μ0 (rowHeap c e g) ∧ VsRel μ0 (args.map renV) args'.toList ∧ ∃ i, μ b = some i ∧ μ0 1 = some i := fun μ w args' hR _ hA => by
  obtain ⟨i, hi, ho⟩ := hR.obj b _ hb
  have ho' : ORel P μ (.cells c e true g) i w := by
    cases ro with
    | true => exact ho
    | false => exact ho.froze
  refine ⟨fun x => if x = 0 then μ 0 else if x = 1 then some i else none, Rel.ro (fun x o hx => ?_) (fun x hx => ?_), fun x hx => ?_, renVs_rel hi rfl hm hA, i, hi, rfl⟩
  · rw [rowHeap_get] at hx
    split at hx <;> cases hx
    rename_i hx1; subst hx1
    exact ⟨rfl, i, rfl, ho'.plain hp⟩
  · have hx0 : x = 0 := by omega
    subst hx0
    obtain ⟨j, hj, h2⟩ := hR.glob 0 hx
    exact ⟨j, by simpa using hj, h2⟩
  · have : 2 ≤ x := hx
    simp only
    rw [if_neg (by omega), if_neg (by omega)]

theorem CallOk.ofRowsR {O : Oracle} (hO : OracleOk P O) (hG : P.globals.size = 1) {fu : Nat} {f : FuncId} {c : List Value} {e : TypeId} {ro g : Bool} {b : Nat} {h : AHeap} {args : Array Value} {v : Value} (hm : args.toList.all (rowV b) = true)
    (hb : h.get b = some (.cells c e ro g)) (hp : c.all pv1 = true) (hok : okT [b] v = true) (hc : ((evC P O fu).call f (args.toList.map renV).toArray (rowHeap c e g)).map (·.1) = some (renT (fun _ => 1) v)) :
    CallOk P f args h v h := by
  obtain ⟨⟨v', h'⟩, hx, rfl⟩ := Option.map_eq_some_iff.1 hc
  have hcall := evC_call hO hx
  refine ⟨hcall.1, fun μ w args' R hR hT hA hK => ?_⟩
  obtain ⟨μ0, r0, t0, a0, i, hi, hi0⟩ := row_starts_at hG hm hb hp μ w args' hR hT hA
  refine hcall.2 μ0 w args' R r0 t0 (by simpa using a0) fun μ' w' v' fi hv => ?_
  exact hK μ w' v' (hR.kept hT fi.ste (rowHeap_ro _ _ _)) (renT_rel (dom := [b]) (fun x hx => by
    obtain rfl := List.mem_singleton.1 hx
    rw [hi]; exact (fi.ste.le _ _ hi0).symm) hok hv)
end
end Go.Ev

/- A state by what stands in some slots and blocks; another name for it. -/
namespace Go.Ev
open Tree

structure ViewG where
  out : Out
  n : Nat
  marks : List Nat
  slots : List (Option Value)
  objs : List (Option AObj)
def viewG (ek hk : List Nat) (x : Out × AAct × AHeap) : ViewG :=
  match x with
  | (o, a, h) => ⟨o, a.n, a.marks, ek.map a.env.get, hk.map h.get⟩
def renO (ρ : Nat → Nat) : AObj → AObj
  | .cells c e ro g => .cells (c.map (ren1 ρ)) e ro g
  | o => o
/-- The view of the state E, H through ρ. -/
def viewE (ρ : Nat → Nat) (o : Out) (n : Nat) (E : List (Nat × Value)) (H : List (Nat × AObj)) : ViewG :=
  ⟨o, n, [], E.map fun p => some (ren ρ p.2), H.map fun p => some (renO ρ p.2)⟩
def okO (dom : List Nat) : AObj → Bool
  | .cells c _ _ _ => c.all (okR1 dom)
  | .map es _ => es.all fun x => pv x.val
  | _ => false
def okH (next : Nat) (E : List (Nat × Value)) (H : List (Nat × AObj)) : Bool :=
  (E.all fun p => okR (H.map (·.1)) p.2) && (H.all fun p => Nat.blt p.1 next && okO (H.map (·.1)) p.2)
def injL (ρ : Nat → Nat) (dom : List Nat) : Bool := dom.all fun b => dom.all fun c => !(Nat.beq (ρ b) (ρ c)) || Nat.beq b c

theorem map_mem {α β γ : Type} {f : α → β} {g : γ → β} : ∀ {l : List α} {m : List γ}, l.map f = m.map g → ∀ {k : α → γ}, m = l.map k → ∀ p ∈ l, f p = g (k p)
  | [], _, _, _, _, p, hp => by cases hp
  | a :: l, m, h, k, hm, p, hp => by
    subst hm
    simp only [List.map_cons, List.cons.injEq, List.map_map] at h
    rcases List.mem_cons.1 hp with rfl | hp
    · exact h.1
    · exact map_mem (l := l) (m := l.map k) (by simpa using h.2) rfl p hp

/-- Slot by slot: under its other name. -/
def asE (ρ : Nat → Nat) (dom : List Nat) : List (Nat × Value) → List Value → Prop
  | [], [] => True
  | p :: E, v :: vs => (okR dom p.2 = true ∧ v = ren ρ p.2) ∧ asE ρ dom E vs
  | _, _ => False
/-- Block by block. -/
def asH (ρ : Nat → Nat) (dom : List Nat) (next : Nat) : List (Nat × AObj) → List AObj → Prop
  | [], [] => True
  | p :: H, o :: os => (p.1 < next ∧ objR ρ dom p.2 o) ∧ asH ρ dom next H os
  | _, _ => False
theorem asE_get {ρ : Nat → Nat} {dom : List Nat} {e : Nat → Option Value} : ∀ {E : List (Nat × Value)} {vs : List Value}, asE ρ dom E vs → (E.map fun p => e p.1) = vs.map some → ∀ p ∈ E, okR dom p.2 = true ∧ e p.1 = some (ren ρ p.2)
  | [], _, _, _, _, hp => by cases hp
  | q :: E, [], h, _, _, _ => h.elim
  | q :: E, v :: vs, h, he, p, hp => by
    simp only [List.map_cons, List.cons.injEq] at he
    rcases List.mem_cons.1 hp with rfl | hp
    · exact ⟨h.1.1, by rw [he.1, h.1.2]⟩
    · exact asE_get h.2 he.2 p hp
theorem asH_get {ρ : Nat → Nat} {dom : List Nat} {next : Nat} {g : Nat → Option AObj} : ∀ {H : List (Nat × AObj)} {os : List AObj}, asH ρ dom next H os → (H.map fun p => g (ρ p.1)) = os.map some → ∀ p ∈ H, p.1 < next ∧ ∃ o', g (ρ p.1) = some o' ∧ objR ρ dom p.2 o'
  | [], _, _, _, _, hp => by cases hp
  | q :: H, [], h, _, _, _ => h.elim
  | q :: H, o :: os, h, he, p, hp => by
    simp only [List.map_cons, List.cons.injEq] at he
    rcases List.mem_cons.1 hp with rfl | hp
    · exact ⟨h.1.1, o, he.1, h.1.2⟩
    · exact asH_get h.2 he.2 p hp

section
variable {P : Program}
theorem Red.ofG {a : AAct} {h : AHeap} {o out : Out} {n next : Nat} {E : List (Nat × Value)} {H : List (Nat × AObj)} {ρ : Nat → Nat}
    (hv : viewG (E.map (·.1)) (H.map fun p => ρ p.1) (o, a, h) = viewE ρ out n E H) (hok : okH next E H = true) (hi : injL ρ (H.map (·.1)) = true) (hg : ∀ g, g < P.globals.size → g ∈ H.map (·.1) ∧ ρ g = g) :
    o = out ∧ Red P a h n E next H ρ := by
  unfold viewG viewE at hv
  simp only [ViewG.mk.injEq, List.map_map] at hv
  obtain ⟨ho, hn, hm, he, hh⟩ := hv
  simp only [okH, Bool.and_eq_true, List.all_eq_true, Nat.blt_eq] at hok
  refine ⟨ho, hn, hm, fun p hp => ⟨hok.1 p hp, ?_⟩, fun p hp => ⟨(hok.2 p hp).1, ?_⟩, fun b hb c hc hbc => ?_, hg⟩
  · exact List.map_inj_left.1 he p hp
  · have h1 : h.get (ρ p.1) = some (renO ρ p.2) := List.map_inj_left.1 hh p hp
    refine ⟨_, h1, ?_⟩
    have h2 := (hok.2 p hp).2
    cases hp2 : p.2 with
    | cells c e ro g =>
      rw [hp2] at h2
      exact ⟨rfl, rfl, rfl, jrs_same h2⟩
    | map es k =>
      rw [hp2] at h2
      exact ⟨rfl, rfl, h2⟩
    | _ => rw [hp2] at h2; cases h2
  · have := List.all_eq_true.1 (List.all_eq_true.1 hi b hb) c hc
    simp only [Bool.or_eq_true, Bool.not_eq_true', Nat.beq_eq] at this
    rcases this with h | h
    · rw [hbc, Nat.beq_refl] at h; cases h
    · exact h

theorem Red.ofH {a : AAct} {h : AHeap} {o out : Out} {n next : Nat} {E : List (Nat × Value)} {H : List (Nat × AObj)} {ρ : Nat → Nat} {vs : List Value} {os : List AObj}
    (hv : viewG (E.map (·.1)) (H.map fun p => ρ p.1) (o, a, h) = ⟨out, n, [], vs.map some, os.map some⟩) (hE : asE ρ (H.map (·.1)) E vs) (hH : asH ρ (H.map (·.1)) next H os) (hi : injL ρ (H.map (·.1)) = true) (hg : ∀ g, g < P.globals.size → g ∈ H.map (·.1) ∧ ρ g = g) :
    o = out ∧ Red P a h n E next H ρ := by
  unfold viewG at hv
  simp only [ViewG.mk.injEq, List.map_map] at hv
  obtain ⟨ho, hn, hm, he, hh⟩ := hv
  refine ⟨ho, hn, hm, asE_get hE he, asH_get hH hh, fun b hb c hc hbc => ?_, hg⟩
  have := List.all_eq_true.1 (List.all_eq_true.1 hi b hb) c hc
  simp only [Bool.or_eq_true, Bool.not_eq_true', Nat.beq_eq] at this
  rcases this with h | h
  · rw [hbc, Nat.beq_refl] at h; cases h
  · exact h

theorem All_bind {α β : Type} {k : α → Tree β} {Q : β → Prop} : ∀ t : Tree α, (t.bind k).All Q → t.All fun a => (k a).All Q := by
  intro t
  rw [bind_bind0]
  induction t with
  | no => exact fun h => h
  | leaf a => exact fun h => h
  | fork b t f iht ihf => exact fun h => ⟨fun hb => iht (h.1 hb), fun hb => ihf (h.2 hb)⟩

/-- Code whose begin is run as a tree, and goes on otherwise. -/
theorem Tri.run_seq {OT : OTree} (hO : OracleOk P (otO OT)) {K : Spl} {k f : Nat} {x y Y : Code} {a : AAct} {h : AHeap} {Q : Out × AAct × AHeap → Prop} {R : Out → AAct → AHeap → Prop}
    (ht : ((evM P OT K (k + 1)).code f none (.seq x y) a h).All Q) (hY : ∀ a' h', ((evM P OT K (k + 1)).code f none y a' h').All Q → Tri P Y a' h' R) (hR : ∀ o a' h', o ≠ .normal → Q (o, a', h') → R o a' h') : Tri P (.seq x Y) a h R := by
  have h1 := All_bind (α := Out × AAct × AHeap) ((evM P OT K (k + 1)).code f none x a h) ht
  refine Tri.seq (Tri.run hO rfl (Tree.All.mono (fun z hz => ?_) _ h1))
  obtain ⟨o, a', h'⟩ := z
  cases o with
  | normal => exact hY a' h' hz
  | ret => exact hR .ret a' h' (by simp) hz
  | exit id => exact hR (.exit id) a' h' (by simp) hz
  | goto l => exact hR (.goto l) a' h' (by simp) hz
end
end Go.Ev
