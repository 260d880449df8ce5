/- The evaluator that goes both ways where a result is not known: a tree of what may come, by the tests that were not known. The definitions. -/
import Derived.Test.YtfickkmgbecamaaDoorEvZh
namespace Go.Ev

inductive Tree (α : Type) where
  | no
  | leaf (a : α)
  | fork (b : Bool) (t f : Tree α)

namespace Tree
variable {α β : Type}
def bind0 : Tree α → (α → Tree β) → Tree β
  | .no, _ => .no
  | .leaf a, k => k a
  | .fork b t f, k => .fork b (bind0 t k) (bind0 f k)
/-- The common case first. -/
def bind (t : Tree α) (k : α → Tree β) : Tree β :=
  match t with
  | .leaf a => k a
  | t => bind0 t k
def eval : Tree α → Option α
  | .no => none
  | .leaf a => some a
  | .fork b t f => match b with | true => eval t | false => eval f
def ofO : Option α → Tree α
  | none => .no
  | some a => .leaf a
def map (g : α → β) : Tree α → Tree β
  | .no => .no
  | .leaf a => .leaf (g a)
  | .fork b t f => .fork b (map g t) (map g f)
/-- Wherever it may lead, P holds. -/
def All (P : α → Prop) : Tree α → Prop
  | .no => False
  | .leaf a => P a
  | .fork b t f => (b = true → All P t) ∧ (b = false → All P f)

theorem bind_bind0 (t : Tree α) (k : α → Tree β) : bind t k = bind0 t k := by cases t <;> rfl
theorem eval_bind (k : α → Tree β) (r : β) : ∀ t : Tree α, (bind t k).eval = some r → ∃ a, t.eval = some a ∧ (k a).eval = some r := by
  intro t
  rw [bind_bind0]
  induction t with
  | no => intro h; cases h
  | leaf a => intro h; exact ⟨a, rfl, h⟩
  | fork b t f iht ihf =>
    intro h
    cases b with
    | true => exact iht h
    | false => exact ihf h
theorem eval_ofO {o : Option α} {r : α} (h : (ofO o).eval = some r) : o = some r := by cases o <;> simp_all [ofO, eval]
theorem All.eval {P : α → Prop} : ∀ (t : Tree α), All P t → ∃ a, Tree.eval t = some a ∧ P a := by
  intro t
  induction t with
  | no => intro h; exact h.elim
  | leaf a => intro h; exact ⟨a, rfl, h⟩
  | fork b t f iht ihf =>
    intro h
    cases b with
    | true => exact iht (h.1 rfl)
    | false => exact ihf (h.2 rfl)
theorem eval_map (g : α → β) : ∀ t : Tree α, (map g t).eval = t.eval.map g
  | .no => rfl
  | .leaf _ => rfl
  | .fork b t f => by cases b <;> simp only [map, eval, eval_map g]
end Tree

/-- What is done with a result that may not be known: a test is taken both ways; a number is held against those that are named. -/
inductive Split where
  | bool
  | ints (l : List Int)

def forkInts (k : IntKind) (x : Int) : List Int → Tree Value
  | [] => .no
  | y :: l => .fork (eqI x y) (.leaf (.int k y)) (forkInts k x l)
def splitV (s : Split) (v : Value) : Tree Value :=
  match s with
  | .bool => (match v with | .bool b => .fork b (.leaf (.bool true)) (.leaf (.bool false)) | _ => .no)
  | .ints l => (match v with | .int k x => forkInts k x l | _ => .no)

theorem forkInts_eval (k : IntKind) (x : Int) (u : Value) : ∀ l, (forkInts k x l).eval = some u → u = .int k x
  | [], h => by cases h
  | y :: l, h => by
    simp only [forkInts, Tree.eval] at h
    split at h
    · rename_i he
      rw [eqI_eq] at he
      simp only [beq_iff_eq] at he
      rw [he]; cases h; rfl
    · exact forkInts_eval k x u l h
theorem splitV_eval (s : Split) (v u : Value) (h : (splitV s v).eval = some u) : u = v := by
  unfold splitV at h
  split at h
  · split at h
    · rename_i b; cases b <;> (simp only [Tree.eval] at h; cases h; rfl)
    · cases h
  · split at h
    · exact forkInts_eval _ _ _ _ h
    · cases h

abbrev Spl := Nat → Nat → Option Split
/-- The name under which a loop's body over a function stands in a Spl. -/
def inBody : Nat := 1000000

structure SelfN where
  code : Nat → Option Nat → Code → AAct → AHeap → Tree (Out × AAct × AHeap)
  loop : Nat → Option Nat → Code → AAct → AHeap → Tree (Out × AAct × AHeap)
  call : FuncId → Array Value → AHeap → Tree (Value × AHeap)

/-! ### A round of a loop over a function, and a call of a function value -/
def roundN (N : SelfN) (l : Nat) (args : Array Value) (h : AHeap) : Tree (Value × AHeap) :=
  match getQ h.tr l with
  | some (.loop L) =>
    match setParams L.env L.n L.params.toList args.toList with
    | some e => (N.code inBody (some l) L.assign ⟨e, L.n, []⟩ h).bind fun (o, a1, h1) =>
      match o with
      | .normal =>
        (match getQ h1.tr l with
        | some (.loop L1) =>
          if L1.state = .ready ∧ a1.marks = [] then
            (N.code inBody (some l) L.body a1 (h1.put l (.loop { L1 with state := .busy }))).bind fun (out, a2, h3) =>
              match getQ h3.tr l with
              | some (.loop L3) =>
                if a2.marks = [] then
                  .leaf (.bool (jumpOf out).isNone, h3.put l (.loop { L3 with state := if (jumpOf out).isNone then .ready else .done, pending := jumpOf out }))
                else .no
              | _ => .no
          else .no
        | _ => .no)
      | _ => .no
    | none => .no
  | _ => .no

def callN (N : SelfN) (f : Value) (args : Array Value) (h : AHeap) : Tree (Value × AHeap) :=
  match f with
  | .func (.func k) first captured => N.call k (first ++ args ++ captured) h
  | .func (.yield l) first captured => if first.size = 0 ∧ captured.size = 0 then roundN N l args h else .no
  | _ => .no

/-! ### Steps -/
structure TN where run : SelfN → Self → Nat → AAct → AHeap → Tree (AAct × AHeap)
def putN (o : Oper) (a : AAct) (r : Value × AHeap) : Tree (AAct × AHeap) := match (putC o.dst).run a r.1 with | some a' => .leaf (a', r.2) | none => .no
def plainN (P : Program) (o : Oper) (i : Nat) : TN := ⟨fun _ S base a h => .ofO ((runC P o i).run S base a h)⟩

def doN (P : Program) (K : Spl) (f : Nat) (o : Oper) (i : Nat) : TN :=
  match o.op with
  | .call { callee := .value g, args, .. } =>
    (match g with
    | .func k => ⟨fun N _ _ a h => match (evalsC P args.toList).run a.env with
      | some vs => (N.call k vs.toArray h).bind (putN o a)
      | none => .no⟩
    | g => ⟨fun N _ _ a h => match (evalC P g).run a.env with
      | some gv => (match (evalsC P args.toList).run a.env with
        | some vs => (callN N gv vs.toArray h).bind (putN o a)
        | none => .no)
      | none => .no⟩)
  | _ =>
    match o.dst with
    | none => plainN P o i
    | some d =>
      match K f d with
      | none => plainN P o i
      | some sp => ⟨fun _ S base a h => match (opC P o).run S (base + i) a.env h with
        | some (v, h') => (splitV sp v).bind fun u => putN o a (u, h')
        | none => .no⟩

def skipN (o : Oper) : TN := ⟨fun _ S base a h => .ofO ((skipC o).run S base a h)⟩

def stepN (P : Program) (K : Spl) (f : Nat) (ops : Array Oper) (i : Nat) : TN :=
  match ops[i]? with
  | none => ⟨fun _ _ _ _ _ => .no⟩
  | some o =>
    match o.guard with
    | none => doN P K f o i
    | some (j, want) =>
      match (ops[j]?).bind (·.dst) with
      | none => ⟨fun _ _ _ _ _ => .no⟩
      | some d =>
        match want with
        | true => ⟨fun N S base a h => match (getC (d + 1) d).run a.env with
          | some (.bool b) => (match b with | true => (doN P K f o i).run N S base a h | false => (skipN o).run N S base a h)
          | some (.tuple _) => (skipN o).run N S base a h
          | _ => .no⟩
        | false => ⟨fun N S base a h => match (getC (d + 1) d).run a.env with
          | some (.bool b) => (match b with | false => (doN P K f o i).run N S base a h | true => (skipN o).run N S base a h)
          | some (.tuple _) => (skipN o).run N S base a h
          | _ => .no⟩

def opsN (P : Program) (K : Spl) (f : Nat) (ops : Array Oper) : List Nat → TN
  | [] => ⟨fun _ _ _ a h => .leaf (a, h)⟩
  | i :: rest => ⟨fun N S base a h => ((stepN P K f ops i).run N S base a h).bind fun (a', h') => (opsN P K f ops rest).run N S base a' h'⟩

/-! ### Regions whose order is drawn -/
/-- Outer forms that are the same if all in them is. -/
def okV : Nat → Value → Bool
  | _, .bool _ | _, .int _ _ | _, .string _ | _, .pointer _ | _, .slice _ _ _ | _, .map _ | _, .nilFunc | _, .nilIface => true
  | n + 1, .agg a => a.toList.all (okV n)
  | n + 1, .tuple a => a.toList.all (okV n)
  | _, _ => false

/-- Has the heap not turned by it? -/
def still (o : Oper) : Bool := !isEff o.op && !isNew o.op

structure RN where run : SelfN → Self → Nat → List AHeap → AAct → AHeap → Tree (AAct × AHeap)
/-- cl: the heap is still the one of the region's start. -/
def planN (P : Program) (K : Spl) (f : Nat) (ops : Array Oper) : Bool → List (Nat × Nat) → RN
  | _, [] => ⟨fun _ _ _ _ a h => .leaf (a, h)⟩
  | cl, (i, m) :: rest =>
    match ops[i]? with
    | none => ⟨fun _ _ _ _ _ _ => .no⟩
    | some o =>
      match isEff o.op with
      | true => ⟨fun N S base sn a h => ((stepN P K f ops i).run N S base a h).bind fun (a', h') =>
        match (lateC (lateL ops rest)).run base h' with
        | true => (planN P K f ops false rest).run N S base (h' :: sn) a' h'
        | false => .no⟩
      | false =>
        match readsH o.op with
        | false => ⟨fun N S base sn a h => ((stepN P K f ops i).run N S base a h).bind fun (a', h') => (planN P K f ops (cl && still o) rest).run N S base sn a' h'⟩
        | true =>
          match cl with
          | false => ⟨fun N S base sn a h => ((stepN P K f ops i).run N S base a h).bind fun (a', h') =>
            match (calmC P ops o i m).run S base sn a a' with
            | true => (planN P K f ops false rest).run N S base sn a' h'
            | false => .no⟩
          | true => ⟨fun N S base sn a h => ((stepN P K f ops i).run N S base a h).bind fun (a', h') =>
            match wantedA ops a.env o with
            | some true => (match (o.dst).bind a'.env.get with
              | some v => (match okV 3 v with
                | true => (planN P K f ops (still o) rest).run N S base sn a' h'
                | false => .no)
              | none => .no)
            | _ => (planN P K f ops (still o) rest).run N S base sn a' h'⟩

structure ZN where run : SelfN → Self → AAct → AHeap → Tree (AAct × AHeap)
def regionN (P : Program) (K : Spl) (f : Nat) (ops : Array Oper) (draw : Bool) : ZN :=
  match draw with
  | false => ⟨fun N S a h => (opsN P K f ops (List.range ops.size)).run N S h.next a ⟨h.tr, h.next + ops.size⟩⟩
  | true =>
    match planOf ops with
    | none => ⟨fun _ _ _ _ => .no⟩
    | some pl =>
      match P.follows .mixedOrders with
      | false => ⟨fun _ _ _ _ => .no⟩
      | true => ⟨fun N S a h => (planN P K f ops true pl).run N S h.next [⟨h.tr, h.next + ops.size⟩] a ⟨h.tr, h.next + ops.size⟩⟩

/-! ### Code -/
def rangeN (P : Program) (N : SelfN) (f : Nat) (rd : Option Nat) (g : Operand) (ps : Array Tmp) (assign body : Code) (a : AAct) (h : AHeap) : Tree (Out × AAct × AHeap) :=
  match evalO P.globals.size a.env g with
  | some (.func (.func fi) first captured) =>
    match enterA rd h a.marks with
    | some (D, h1, marks) =>
      match h1.new h.next (.loop { state := .ready, pending := none, env := a.env, n := a.n, params := ps, assign, body, defers := D }) with
      | none => .no
      | some h2 => (N.call fi (first ++ #[.func (.yield h.next) #[] #[]] ++ captured) h2).bind fun (_, h3) =>
        match getQ h3.tr h.next with
        | some (.loop L) =>
          if L.state = .busy then .no else
          (match L.pending with
          | none => .leaf (.normal, { a with marks }, h3.put h.next (.loop { L with state := .exhausted }))
          | some c => N.code f rd c { a with marks } (h3.put h.next (.loop { L with state := .exhausted })))
        | _ => .no
    | none => .no
  | _ => .no

structure KN where run : Option Nat → SelfN → Self → AAct → AHeap → Tree (Out × AAct × AHeap)
def plainKN (P : Program) (c : Code) : KN := ⟨fun rd _ S a h => .ofO ((codeC P c).run rd S a h)⟩
def codeN (P : Program) (K : Spl) (f : Nat) : Code → KN
  | .seq x y => ⟨fun rd N S a h => ((codeN P K f x).run rd N S a h).bind fun (o, a', h') =>
    match o with | .normal => (codeN P K f y).run rd N S a' h' | o => .leaf (o, a', h')⟩
  | .cond o x y => ⟨fun rd N S a h => match (evalC P o).run a.env with
    | some (.bool b) => (match b with | true => (codeN P K f x).run rd N S a h | false => (codeN P K f y).run rd N S a h)
    | _ => .no⟩
  | .block id x => ⟨fun rd N S a h => ((codeN P K f x).run rd N S a h).bind fun (o, a', h') =>
    match o with | .exit id' => (match Nat.beq id' id with | true => .leaf (.normal, a', h') | false => .leaf (.exit id', a', h')) | o => .leaf (o, a', h')⟩
  | .region _ ops draw => ⟨fun _ N S a h => ((regionN P K f ops draw).run N S a h).bind fun (a', h') => .leaf (.normal, a', h')⟩
  | .loop x => ⟨fun rd N _ a h => N.loop f rd x a h⟩
  | .rangeFunc g ps assign body => ⟨fun rd N _ a h => rangeN P N f rd g ps assign body a h⟩
  | c => plainKN P c

structure FN where run : SelfN → Self → Array Value → AHeap → Tree (Value × AHeap)
def callFN (P : Program) (K : Spl) (f : FuncId) : FN :=
  match P.funcs[f]? with
  | none => ⟨fun _ _ _ _ => .no⟩
  | some fn =>
    match fn.body with
    | none => ⟨fun _ _ _ _ => .no⟩
    | some c =>
      match decide (fn.name = "runtime.NumGoroutine") with
      | true => ⟨fun _ _ _ _ => .no⟩
      | false => ⟨fun N S args h => match Nat.ble args.toList.length fn.ntmps with
        | false => .no
        | true => ((codeN P K f c).run none N S ⟨argsEnv args.toList 0 .leaf, fn.ntmps, []⟩ h).bind fun (o, a, h1) =>
          match o with | .normal => .ofO ((doneC P fn).run a h1) | .ret => .ofO ((doneC P fn).run a h1) | _ => .no⟩

def evN (P : Program) (O : Oracle) (K : Spl) : Nat → SelfN
  | 0 => { code := fun _ _ _ _ _ => .no, loop := fun _ _ _ _ _ => .no, call := fun f args h => .ofO (O f args h) }
  | k + 1 => {
      code := fun f rd c a h => (codeN P K f c).run rd (evN P O K k) (evC P O k) a h
      loop := fun f rd x a h => ((codeN P K f x).run rd (evN P O K k) (evC P O k) a h).bind fun (o, a', h') =>
        match o with | .normal => (evN P O K k).loop f rd x a' h' | o => .leaf (o, a', h')
      call := fun f args h => match O f args h with | some r => .leaf r | none => (callFN P K f).run (evN P O K k) (evC P O k) args h }

end Go.Ev
