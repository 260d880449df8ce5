/- The evaluator: code, regions in every order at once, rounds of loops over functions, calls. -/
import Derived.Test.YtfickkmgbecamaaDoorEvA
namespace Go.Ev

structure Self where
  code : Option Nat → Code → AAct → AHeap → Option (Out × AAct × AHeap)
  scope : Option Nat → Code → Code → AAct → AHeap → Option (Out × AAct × AHeap)
  loop : Option Nat → Code → AAct → AHeap → Option (Out × AAct × AHeap)
  call : FuncId → Array Value → AHeap → Option (Value × AHeap)

def AAct.put (a : AAct) (dst : Option Tmp) (v : Value) : Option AAct :=
  match dst with
  | none => some a
  | some d => if d < a.n then some { a with env := a.env.set d v } else none

/-! ### A round of a loop over a function -/

def setParams (e : Tr Value) (n : Nat) : List Tmp → List Value → Option (Tr Value)
  | [], [] => some e
  | t :: ts, v :: vs => if t < n then setParams (e.set t v) n ts vs else none
  | _, _ => none

def jumpOf : Out → Option Code
  | .normal => none
  | .ret => some .ret
  | .exit id => some (.exit id)
  | .goto l => some (.goto l)

def roundA (S : Self) (l : Nat) (args : Array Value) (h : AHeap) : Option (Value × AHeap) :=
  match h.get l with
  | some (.loop L) =>
    match setParams L.env L.n L.params.toList args.toList with
    | some e =>
      match S.code (some l) L.assign ⟨e, L.n, []⟩ h with
      | some (.normal, a1, h1) =>
        match h1.get l with
        | some (.loop L1) =>
          if L1.state = .ready ∧ a1.marks = [] then
            match S.code (some l) L.body a1 (h1.put l (.loop { L1 with state := .busy })) with
            | some (out, a2, h3) =>
              match h3.get l with
              | some (.loop L3) =>
                if a2.marks = [] then
                  some (.bool (jumpOf out).isNone, h3.put l (.loop { L3 with state := if (jumpOf out).isNone then .ready else .done, pending := jumpOf out }))
                else none
              | _ => none
            | none => none
          else none
        | _ => none
      | _ => none
    | none => none
  | _ => none

/-- A call of a function value. -/
def callA (S : Self) (f : Value) (args : Array Value) (h : AHeap) : Option (Value × AHeap) :=
  match f with
  | .func (.func k) first captured => S.call k (first ++ args ++ captured) h
  | .func (.yield l) first captured => if first.size = 0 ∧ captured.size = 0 then roundA S l args h else none
  | _ => none

/-! ### Operations -/

def isCall : Op → Bool
  | .call { callee := .value _, .. } => true
  | _ => false

def operA (P : Program) (S : Self) (id : Nat) (e : Tr Value) (h : AHeap) (o : Oper) : Option (Value × AHeap) :=
  match o.op with
  | .call { callee := .value f, args, .. } => (evalO P.globals.size e f).bind fun g => (mapO P.globals.size e args).bind fun vs => callA S g vs h
  | _ => opA P h id e o

/-- Is an operation wanted? none: that isn't known. -/
def wantedA (ops : Array Oper) (e : Tr Value) (o : Oper) : Option Bool :=
  match o.guard with
  | none => some true
  | some (j, want) =>
    match (ops[j]?).bind (·.dst) with
    | some d =>
      match e.get d with
      | some (.bool b) => some (b == want)
      | some (.tuple _) => some false
      | _ => none
    | none => none

def stepA (P : Program) (S : Self) (base : Nat) (ops : Array Oper) (i : Nat) (a : AAct) (h : AHeap) : Option (AAct × AHeap) :=
  match ops[i]? with
  | none => none
  | some o =>
    match wantedA ops a.env o with
    | some true => (operA P S (base + i) a.env h o).bind fun (v, h') => (a.put o.dst v).map (·, h')
    | some false => (a.put o.dst undef).map (·, h)
    | none => none

def opsA (P : Program) (S : Self) (base : Nat) (ops : Array Oper) : List Nat → AAct → AHeap → Option (AAct × AHeap)
  | [], a, h => some (a, h)
  | i :: rest, a, h =>
    match stepA P S base ops i a h with
    | some (a', h') => opsA P S base ops rest a' h'
    | none => none

/-! ### A region whose order is drawn -/

def isEff : Op → Bool
  | .store .. | .mapUpdate .. | .insert .. | .mapEntry .. | .entryStore .. => true
  | .call { callee := .builtin b, .. } => match b with | .len | .min | .max => false | _ => true
  | .call _ => true
  | _ => false

def readsH : Op → Bool
  | .load .. | .lookup .. | .slice .. => true
  | .binOp .eql .. | .binOp .neq .. => true
  | .call { callee := .builtin .len, .. } => true
  | _ => false

/-- The operations that lay a block. -/
def isNew : Op → Bool
  | .alloc _ | .box .. | .buildSlice .. | .makeMap .. | .makeSlice .. => true
  | _ => false

/-- The slots that an operation looks at. -/
def readsT (ops : Array Oper) (o : Oper) : List Tmp :=
  (o.op.operands.toList.filterMap fun | .tmp t => some t | _ => none) ++ (match o.guard with | some (j, _) => (((ops[j]?).bind (·.dst)).toList) | none => [])

/-- Who must have been done before whom: a number for each operation, whose digits are the others. -/
def maskOf (ms : List Nat) (o : Oper) : Nat := o.after.toList.foldl (fun acc e => if Region.binds .any e then acc ||| (2 ^ e.on ||| ms.getD e.on 0) else acc) 0
def masksGo : List Oper → List Nat → List Nat
  | [], ms => ms
  | o :: os, ms => masksGo os (ms ++ [maskOf ms o])
def masks (ops : Array Oper) : List Nat := masksGo ops.toList []
def bit (ms : List Nat) (i k : Nat) : Bool := (ms.getD i 0).testBit k

/-- How many of the first effects an operation stands behind. -/
def leads (ms : List Nat) (i : Nat) : List Nat → Nat
  | [] => 0
  | e :: es => if bit ms i e then leads ms i es + 1 else 0

/-- The order in which the evaluator goes: each operation that only computes as late as may be; beside it, how many of the last heaps it must be looked at in. -/
def planGo (ms : List Nat) : List Nat → List Nat → List Nat → List (Nat × Nat)
  | [], calm, es => calm.map fun i => (i, es.length + 1 - leads ms i es)
  | k :: ks, calm, es => ((calm.filter fun i => bit ms k i).map fun i => (i, es.length + 1 - leads ms i es)) ++ (k, 0) :: planGo ms ks (calm.filter fun i => !bit ms k i) (es ++ [k])

def prefOk (ops : Array Oper) (ms : List Nat) : List Nat → List Nat → List (Nat × Nat) → Bool
  | _, _, [] => true
  | pre, es, (i, m) :: rest =>
    match ops[i]? with
    | none => false
    | some o =>
      !pre.contains i && o.after.toList.all (fun e => !Region.binds .any e || pre.contains e.on) &&
      (if isEff o.op then pre.all (bit ms i) else Nat.ble 1 m && (es.take (es.length + 1 - m)).all (bit ms i)) &&
      prefOk ops ms (i :: pre) (if isEff o.op then es ++ [i] else es) rest

def slotsOk (ops : Array Oper) (ms : List Nat) : Bool :=
  (List.range ops.size).all fun i => (List.range ops.size).all fun k => i == k ||
    match ops[i]?, ops[k]? with
    | some oi, some ok =>
      match ok.dst with
      | none => true
      | some d => oi.dst != some d && (!(readsT ops oi).contains d || bit ms i k || bit ms k i)
    | _, _ => false

def planOk (ops : Array Oper) (ms : List Nat) (pl : List (Nat × Nat)) : Bool :=
  prefOk ops ms [] [] pl && slotsOk ops ms && (List.range ops.size).all fun i => (pl.map (·.1)).contains i

def planOf (ops : Array Oper) : Option (List (Nat × Nat)) :=
  let ms := masks ops
  let effs := (List.range ops.size).filter fun i => isEff (ops.getD i default).op
  let calm := (List.range ops.size).filter fun i => !isEff (ops.getD i default).op
  let pl := planGo ms effs calm []
  if planOk ops ms pl then some pl else none

def sameV : Nat → Value → Value → Bool
  | _, .bool a, .bool b => a == b
  | _, .int j a, .int k b => j == k && a == b
  | _, .string a, .string b => a.data == b.data
  | _, .pointer a, .pointer b => a == b
  | _, .slice a l c, .slice b m d => a == b && l == m && c == d
  | _, .map a, .map b => a == b
  | _, .nilFunc, .nilFunc => true
  | _, .nilIface, .nilIface => true
  | n + 1, .func f a c, .func g b d => f == g && a.size == b.size && c.size == d.size
      && (a.toList.zip b.toList).all (fun (x, y) => sameV n x y) && (c.toList.zip d.toList).all (fun (x, y) => sameV n x y)
  | n + 1, .agg a, .agg b => a.size == b.size && (a.toList.zip b.toList).all fun (x, y) => sameV n x y
  | n + 1, .tuple a, .tuple b => a.size == b.size && (a.toList.zip b.toList).all fun (x, y) => sameV n x y
  | _, _, _ => false

/-- May an operation that looks at memory have been done earlier? -/
def calmOk (P : Program) (base : Nat) (ops : Array Oper) (o : Oper) (i m : Nat) (snaps : List AHeap) (a a' : AAct) : Bool :=
  !readsH o.op ||
  match wantedA ops a.env o with
  | some true => (snaps.take m).all fun H =>
    match opA P H (base + i) a.env o, (o.dst).bind a'.env.get with
    | some (u, _), some v => sameV 3 u v
    | _, _ => false
  | _ => true

/-- No number of an operation behind has been given away. -/
def lateOk (base : Nat) (ops : Array Oper) (rest : List (Nat × Nat)) (h : AHeap) : Bool :=
  rest.all fun p => isEff (ops.getD p.1 default).op || !isNew (ops.getD p.1 default).op || (h.get (base + p.1)).isNone

def planA (P : Program) (S : Self) (base : Nat) (ops : Array Oper) : List (Nat × Nat) → List AHeap → AAct → AHeap → Option (AAct × AHeap)
  | [], _, a, h => some (a, h)
  | (i, m) :: rest, snaps, a, h =>
    match ops[i]? with
    | none => none
    | some o =>
      match stepA P S base ops i a h with
      | none => none
      | some (a', h') =>
        if isEff o.op then
          if lateOk base ops rest h' then planA P S base ops rest (h' :: snaps) a' h' else none
        else if calmOk P base ops o i m snaps a a' then planA P S base ops rest snaps a' h' else none

def regionA (P : Program) (S : Self) (ops : Array Oper) (draw : Bool) (a : AAct) (h : AHeap) : Option (AAct × AHeap) :=
  let h0 : AHeap := { h with next := h.next + ops.size }
  if draw then
    match planOf ops with
    | some pl => if P.follows .mixedOrders then planA P S h.next ops pl [h0] a h0 else none
    | none => none
  else opsA P S h.next ops (List.range ops.size) a h0

/-! ### Code -/

def thenA (r : Option (Out × AAct × AHeap)) (k : AAct → AHeap → Option (Out × AAct × AHeap)) : Option (Out × AAct × AHeap) :=
  match r with
  | some (.normal, a, h) => k a h
  | r => r

/-- The block for a loop's deferred calls: its number, the heap with it, the marks with it. -/
def enterA (rd : Option Nat) (h : AHeap) (marks : List Nat) : Option (Nat × AHeap × List Nat) :=
  match rd with
  | none => (h.new (h.next + 1) .marks).map fun h1 => (h.next + 1, { h1 with next := h.next + 2 }, (h.next + 1) :: marks)
  | some l0 =>
    match h.get l0 with
    | some (.loop L0) => some (L0.defers, { h with next := h.next + 1 }, marks)
    | _ => none

/-- The loop over a function: the record (and, at an outermost one, the block of its mark) is laid, the function called, the pending jump taken up. -/
def rangeA (P : Program) (S : Self) (rd : Option Nat) (g : Operand) (ps : Array Tmp) (assign body : Code) (a : AAct) (h : AHeap) : Option (Out × AAct × AHeap) :=
  match evalO P.globals.size a.env g with
  | some (.func (.func f) first captured) =>
    match enterA rd h a.marks with
    | some (D, h1, marks) =>
      match h1.new h.next (.loop { state := .ready, pending := none, env := a.env, n := a.n, params := ps, assign, body, defers := D }) with
      | none => none
      | some h2 =>
      match S.call f (first ++ #[.func (.yield h.next) #[] #[]] ++ captured) h2 with
      | some (_, h3) =>
        match h3.get h.next with
        | some (.loop L) =>
          if L.state = .busy then none else
          let h4 := h3.put h.next (.loop { L with state := .exhausted })
          match L.pending with
          | none => some (.normal, { a with marks }, h4)
          | some c => S.code rd c { a with marks } h4
        | _ => none
      | none => none
    | none => none
  | _ => none

def codeA (P : Program) (S : Self) (rd : Option Nat) (c : Code) (a : AAct) (h : AHeap) : Option (Out × AAct × AHeap) :=
  match c with
  | .skip => some (.normal, a, h)
  | .label _ => some (.normal, a, h)
  | .ret => some (.ret, a, h)
  | .exit id => some (.exit id, a, h)
  | .goto l => some (.goto l, a, h)
  | .seq x y => thenA (S.code rd x a h) (S.code rd y)
  | .cond o x y =>
    match evalO P.globals.size a.env o with
    | some (.bool true) => S.code rd x a h
    | some (.bool false) => S.code rd y a h
    | _ => none
  | .block id x =>
    match S.code rd x a h with
    | some (.exit id', a', h') => if id' = id then some (.normal, a', h') else some (.exit id', a', h')
    | r => r
  | .loop x => S.loop rd x a h
  | .scope x => S.scope rd x x a h
  | .region _ ops draw => (regionA P S ops draw a h).map fun (a', h') => (.normal, a', h')
  | .rangeFunc g ps assign body => rangeA P S rd g ps assign body a h
  | .refuse _ => none

/-- A loop's round, and all behind it. -/
def loopA (S : Self) (rd : Option Nat) (x : Code) (a : AAct) (h : AHeap) : Option (Out × AAct × AHeap) := thenA (S.code rd x a h) (S.loop rd x)

/-- A scope of labels, from one place in it on. -/
def scopeA (S : Self) (rd : Option Nat) (body c : Code) (a : AAct) (h : AHeap) : Option (Out × AAct × AHeap) :=
  match S.code rd c a h with
  | some (.goto l, a', h') =>
    match findLabel body l with
    | some rest => S.scope rd body rest a' h'
    | none => some (.goto l, a', h')
  | r => r

def argsEnv : List Value → Nat → Tr Value → Tr Value
  | [], _, e => e
  | v :: vs, i, e => argsEnv vs (i + 1) (e.set i v)

def resultA (P : Program) (e : Tr Value) (h : AHeap) : ResultVar → Option Value
  | .tmp t => e.get t
  | .cell a t => (e.get a).bind fun v => loadA P h t v

def resultsA (P : Program) (fn : Func) (e : Tr Value) (h : AHeap) : Option Value :=
  match fn.results.toList.mapM (resultA P e h) with
  | some [v] => some v
  | some vs => some (.tuple vs.toArray)
  | none => none

def shutA : List Nat → AHeap → Option AHeap
  | [], h => some h
  | D :: ds, h =>
    match h.get D with
    | some .marks => shutA ds (h.put D .dead)
    | _ => none

def callFA (P : Program) (S : Self) (f : FuncId) (args : Array Value) (h : AHeap) : Option (Value × AHeap) :=
  match P.funcs[f]? with
  | some fn =>
    match fn.body with
    | some c =>
      if fn.name = "runtime.NumGoroutine" then none
      else if args.size ≤ fn.ntmps then
        match S.code none c ⟨argsEnv args.toList 0 .leaf, fn.ntmps, []⟩ h with
        | some (.normal, a, h1) => (shutA a.marks h1).bind fun h2 => (resultsA P fn a.env h2).map (·, h2)
        | some (.ret, a, h1) => (shutA a.marks h1).bind fun h2 => (resultsA P fn a.env h2).map (·, h2)
        | _ => none
      else none
    | none => none
  | none => none

def stepS (P : Program) (S : Self) : Self := { code := codeA P S, scope := scopeA S, loop := loopA S, call := callFA P S }

def ev (P : Program) : Nat → Self
  | 0 => { code := fun _ _ _ _ => none, scope := fun _ _ _ _ _ => none, loop := fun _ _ _ _ => none, call := fun _ _ _ => none }
  | k + 1 => stepS P (ev P k)

end Go.Ev
