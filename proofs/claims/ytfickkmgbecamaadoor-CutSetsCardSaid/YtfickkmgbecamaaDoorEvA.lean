/- An evaluator of the model's code over a heap of its own, in which what a call does hangs on no draw: the definitions. -/
import GoSem.Machine.Frame
namespace Go.Ev

/-! ### Finite maps from numbers, of one shape for one content -/

inductive Tr (α : Type) where
  | leaf
  | node (l : Tr α) (v : Option α) (r : Tr α)

namespace Tr
variable {α : Type}

def get : Tr α → Nat → Option α
  | .leaf, _ => none
  | .node _ v _, 0 => v
  | .node l _ r, m + 1 => if m % 2 = 0 then l.get (m / 2) else r.get (m / 2)

def setF : Nat → Tr α → Nat → α → Tr α
  | 0, t, _, _ => t
  | _ + 1, .leaf, 0, x => .node .leaf (some x) .leaf
  | k + 1, .leaf, m + 1, x => if m % 2 = 0 then .node (setF k .leaf (m / 2) x) none .leaf else .node .leaf none (setF k .leaf (m / 2) x)
  | _ + 1, .node l _ r, 0, x => .node l (some x) r
  | k + 1, .node l u r, m + 1, x => if m % 2 = 0 then .node (setF k l (m / 2) x) u r else .node l u (setF k r (m / 2) x)

def set (t : Tr α) (n : Nat) (x : α) : Tr α := setF (n + 1) t n x

end Tr

/-! ### The heap -/

structure ALoop where
  state : LoopState
  pending : Option Code
  env : Tr Value
  n : Nat
  params : Array Tmp
  assign : Code
  body : Code
  defers : Nat

/-- ro: nobody writes it; grown: an append made it, so its capacity is not known. -/
inductive AObj where
  | cells (c : List Value) (elem : TypeId) (ro grown : Bool)
  | map (es : List MapEntry) (clock : Nat)
  | loop (l : ALoop)
  | marks
  | dead

structure AHeap where
  tr : Tr AObj
  next : Nat

def AHeap.get (h : AHeap) (b : Nat) : Option AObj := h.tr.get b
def AHeap.put (h : AHeap) (b : Nat) (o : AObj) : AHeap := { h with tr := h.tr.set b o }
/-- A new block, under a number that is free. -/
def AHeap.new (h : AHeap) (b : Nat) (o : AObj) : Option AHeap :=
  match h.get b with
  | none => some (h.put b o)
  | some _ => none

structure AAct where
  env : Tr Value
  n : Nat
  marks : List Nat

inductive Out where
  | normal
  | ret
  | exit (id : Nat)
  | goto (l : Nat)
  deriving DecidableEq

/-! ### Values -/

/-- A cell without an address in it. -/
def pv1 : Value → Bool
  | .bool _ | .int _ _ | .string _ | .nilFunc | .nilIface => true
  | .pointer none => true
  | .slice none 0 0 => true
  | .map none => true
  | _ => false

def pv : Value → Bool
  | .agg cs => cs.toList.all pv1
  | .tuple cs => cs.toList.all pv1
  | v => pv1 v

/-- A cell whose '==' asks no memory. -/
def qv1 : Value → Bool
  | .bool _ | .int _ _ | .string _ => true
  | _ => false

def qv : Value → Bool
  | .agg cs => cs.toList.all qv1
  | v => qv1 v

def oneCell : Value → Bool
  | .agg _ | .tuple _ => false
  | _ => true

/-- Is a number less than another one? So that it is told also of numbers with variables in them: 0 is less than any n + 1. -/
def ltI : Int → Int → Bool
  | .ofNat m, .ofNat n => Nat.blt m n
  | .ofNat _, .negSucc _ => false
  | .negSucc _, .ofNat _ => true
  | .negSucc m, .negSucc n => Nat.blt n m
theorem ltI_iff (a b : Int) : ltI a b = true ↔ a < b := by
  cases a <;> cases b <;> simp [ltI, Nat.blt_eq] <;> omega
instance ltDec (a b : Int) : Decidable (a < b) := decidable_of_iff (ltI a b = true) (ltI_iff a b)
/-- At most: the same. -/
def leI : Int → Int → Bool
  | .ofNat m, .ofNat n => Nat.ble m n
  | .ofNat _, .negSucc _ => false
  | .negSucc _, .ofNat _ => true
  | .negSucc m, .negSucc n => Nat.ble n m
theorem leI_iff (a b : Int) : leI a b = true ↔ a ≤ b := by
  cases a <;> cases b <;> simp [leI] <;> omega
instance leDec (a b : Int) : Decidable (a ≤ b) := decidable_of_iff (leI a b = true) (leI_iff a b)

def evalO (G : Nat) (e : Tr Value) : Operand → Option Value
  | .tmp t => e.get t
  | .const v => if pv v then some v else none
  | .global g => if g < G then some (.pointer (some ⟨g, 0, none⟩)) else none
  | .func f => some (.func (.func f) #[] #[])

/-- What is appended by 'x...' is a slice, or a string. -/
def isIntD : TypeDesc → Bool
  | .slice _ => false
  | .string => false
  | _ => true

def isAggD : TypeDesc → Bool
  | .struct _ => true
  | .array _ _ => true
  | _ => false

/-! ### Memory -/

def loadRow (c : List Value) (off size : Nat) : Option (List Value) :=
  if off + size ≤ c.length then some ((c.drop off).take size) else none

def setRow (c : List Value) (off : Nat) (xs : List Value) : List Value := c.take off ++ xs ++ c.drop (off + xs.length)

def loadA (P : Program) (h : AHeap) (t : TypeId) : Value → Option Value
  | .pointer (some ⟨b, off, none⟩) =>
    match h.get b, P.underlying t with
    | some (.cells c _ _ _), some d =>
      if isAggD d then
        match P.info? t with
        | some i => (loadRow c off i.size).map fun xs => .agg xs.toArray
        | none => none
      else c[off]?
    | _, _ => none
  | _ => none

def storeA (P : Program) (h : AHeap) (t : TypeId) (a x : Value) : Option AHeap :=
  match a with
  | .pointer (some ⟨b, off, none⟩) =>
    match h.get b, P.info? t with
    | some (.cells c e false g), some i =>
      if i.size = x.cells.size ∧ off + i.size ≤ c.length ∧ x.cells.toList.all oneCell = true then
        some (h.put b (.cells (setRow c off x.cells.toList) e false g))
      else none
    | _, _ => none
  | _ => none

def newA (P : Program) (h : AHeap) (id : Nat) (elem : TypeId) (cs : List Value) (grown : Bool) (v : Value) : Option (Value × AHeap) :=
  match P.info? elem with
  | some _ => (h.new id (.cells cs elem false grown)).map (v, ·)
  | none => none

/-! ### Operations on values alone -/

def intBin (op : BinOp) (k : IntKind) (a b : Int) : Option Value :=
  match op with
  | .add => some (.int k (k.wrap (a + b)))
  | .sub => some (.int k (k.wrap (a - b)))
  | .mul => some (.int k (k.wrap (a * b)))
  | .quo => if b = 0 then none else some (.int k (k.wrap (a.tdiv b)))
  | .rem => if b = 0 then none else some (.int k (a.tmod b))
  | .and => some (.int k (k.wrap ((BitVec.ofInt k.bits a &&& BitVec.ofInt k.bits b).toNat : Int)))
  | .or => some (.int k (k.wrap ((BitVec.ofInt k.bits a ||| BitVec.ofInt k.bits b).toNat : Int)))
  | .xor => some (.int k (k.wrap ((BitVec.ofInt k.bits a ^^^ BitVec.ofInt k.bits b).toNat : Int)))
  | .andNot => some (.int k (k.wrap ((BitVec.ofInt k.bits a &&& ~~~ BitVec.ofInt k.bits b).toNat : Int)))
  | .eql => some (.bool (a == b))
  | .neq => some (.bool (a != b))
  | .lss => some (.bool (a < b))
  | .leq => some (.bool (a ≤ b))
  | .gtr => some (.bool (a > b))
  | .geq => some (.bool (a ≥ b))
  | _ => none

def shiftA (op : BinOp) (k : IntKind) (x y : Int) : Option Value :=
  if y < 0 then none
  else
    match op with
    | .shl => some (.int k (k.wrap (x * 2 ^ (min y.toNat k.bits))))
    | .shr => some (.int k (x.fdiv (2 ^ (min y.toNat k.bits))))
    | _ => none

def strBin (op : BinOp) (x y : ByteArray) : Option Value :=
  match op with
  | .add => if ((x.size + y.size : Nat) : Int) > IntKind.i64.max then none else some (.string (x ++ y))
  | .eql => some (.bool (x.toList == y.toList))
  | .neq => some (.bool !(x.toList == y.toList))
  | .lss => some (.bool (Op.bytesLess x.toList y.toList))
  | .leq => some (.bool (Op.bytesLess x.toList y.toList || x.toList == y.toList))
  | .gtr => some (.bool !(Op.bytesLess x.toList y.toList || x.toList == y.toList))
  | .geq => some (.bool !(Op.bytesLess x.toList y.toList))
  | _ => none

/-- '==' of two values that ask no memory, as the model has it. -/
def eqP (P : Program) (t : TypeId) (x y : Value) : Option Bool :=
  if qv x && qv y then
    match (Op.equal t x y).run P default with
    | .ok b _ => some b
    | .halt _ _ => none
  else none

/-- Is a block a row of cells of the call's own? -/
def isOwnA (h : AHeap) (b : Nat) : Bool :=
  match h.get b with
  | some (.cells _ _ false _) => true
  | _ => false

def eqA (P : Program) (h : AHeap) (t : TypeId) (x y : Value) : Option Bool :=
  match P.underlying t, x, y with
  | some (.bool), .bool a, .bool b => some (a == b)
  | some (.pointer _), .pointer none, .pointer b => some b.isNone
  | some (.pointer _), .pointer (some _), .pointer none => some false
  | some (.pointer e), .pointer (some ⟨a, i, none⟩), .pointer (some ⟨b, j, none⟩) =>
    match P.info? e with
    | some inf =>
      if inf.size = 0 then none else if a = b then some (i == j) else if isOwnA h a && isOwnA h b then some false else none
    | none => none
  | some (.slice _), .slice none _ _, .slice b _ _ => some b.isNone
  | some (.slice _), .slice _ _ _, .slice none _ _ => some false
  | some (.map _ _), .map none, .map b => some b.isNone
  | some (.map _ _), .map _, .map none => some false
  | some (.func _ _ _), .nilFunc, .nilFunc => some true
  | some (.func _ _ _), .nilFunc, .func _ _ _ => some false
  | some (.func _ _ _), .func _ _ _, .nilFunc => some false
  | some (.struct _), .agg _, .agg _ => if P.eqGuardType P.depth t then none else eqP P t x y
  | some (.array _ _), .agg _, .agg _ => if P.eqGuardType P.depth t then none else eqP P t x y
  | _, _, _ => none

def binA (P : Program) (h : AHeap) (op : BinOp) (t : TypeId) (x y : Value) : Option Value :=
  match x, y with
  | .int k a, .int k' b =>
    match op with
    | .shl => shiftA .shl k a b
    | .shr => shiftA .shr k a b
    | op => if k = k' then intBin op k a b else none
  | .string a, .string b => strBin op a b
  | x, y =>
    match op with
    | .eql => (eqA P h t x y).map .bool
    | .neq => (eqA P h t x y).map fun b => .bool !b
    | _ => none

def unA (op : UnOp) (x : Value) : Option Value :=
  match op, x with
  | .neg, .int k n => some (.int k (k.wrap (0 - n)))
  | .xor, .int k n => intBin .xor k (if k.signed then -1 else k.max) n
  | .not, .bool b => some (.bool !b)
  | _, _ => none

/-! ### Operations, but calls: the value, and the heap behind -/

def fillPlaces (P : Program) (fs : Array Field) (i : Nat) : Option (Nat × Nat) :=
  match fs[i]? with
  | some f => (P.info? f.type).map fun j => (f.offset, j.size)
  | none => none

def buildA (P : Program) (t : TypeId) (parts : List (Nat × Value)) : Option Value :=
  match P.info? t, P.underlying t with
  | some i, some d =>
    match i.zero, d with
    | some z, .struct fs =>
      if fs.all (fun f => (P.info? f.type).isSome) && z.cells.toList.all pv1 then (Instr.fill (fillPlaces P fs) z.cells parts).map .agg else none
    | some z, .array _ e =>
      match P.info? e with
      | some j => if z.cells.toList.all pv1 then (Instr.fill (fun i => some (i * j.size, j.size)) z.cells parts).map .agg else none
      | none => none
    | _, _ => none
  | _, _ => none

def zeroRow (zero : Array Value) (n : Nat) : Array Value := (Array.range n).map (zero[· % zero.size]!)

def buildSliceA (P : Program) (h : AHeap) (id : Nat) (t : TypeId) (len : Nat) (parts : List (Nat × Value)) : Option (Value × AHeap) :=
  match P.underlying t with
  | some (.slice e) =>
    match P.info? e with
    | some j =>
      match j.zero with
      | some z =>
        if len * j.size ≤ 2 ^ 24 ∧ z.cells.toList.all pv1 = true ∧ z.cells.size = j.size ∧ 0 < j.size then
          match Instr.fill (fun i => some (i * j.size, j.size)) (zeroRow z.cells (len * j.size)) parts with
          | some cs => newA P h id e cs.toList false (.slice (some ⟨id, 0, none⟩) len len)
          | none => none
        else none
      | none => none
    | none => none
  | _ => none

/-- The bound below which no allocation asks for more room than there is. -/
def room : Nat := 2 ^ 40

def makeSliceA (P : Program) (h : AHeap) (id : Nat) (t : TypeId) (len cap : Value) : Option (Value × AHeap) :=
  match P.underlying t, len, cap with
  | some (.slice e), .int _ l, .int _ c =>
    match P.info? e with
    | some j =>
      match j.zero with
      | some z =>
        if 0 ≤ l ∧ l ≤ c ∧ c ≤ room ∧ c.toNat * j.bytes ≤ room ∧ z.cells.toList.all pv1 = true ∧ z.cells.size = j.size ∧ 0 < j.size then
          newA P h id e (zeroRow z.cells (c.toNat * j.size)).toList false (.slice (some ⟨id, 0, none⟩) l.toNat c.toNat)
        else none
      | none => none
    | none => none
  | _, _, _ => none

def boundA (y : Nat) : Option Value → Nat → Option Nat
  | none, d => some d
  | some (.int _ i), _ => if 0 ≤ i ∧ i ≤ y then some i.toNat else none
  | some _, _ => none

/-- The bounds of a slice expression: low, high, max. -/
def boundsA (len cap : Nat) (lo hi mx : Option Value) : Option (Nat × Nat × Nat) :=
  match boundA cap mx cap with
  | some m =>
    if hi.isNone && mx.isSome then none else
    match boundA m hi len with
    | some u =>
      match boundA u lo 0 with
      | some l => some (l, u, m)
      | none => none
    | none => none
  | none => none

def sliceA (P : Program) (h : AHeap) (t : TypeId) (x : Value) (lo hi mx : Option Value) : Option Value :=
  match P.underlying t, x with
  | some .string, .string s =>
    if mx.isSome then none else (boundsA s.size s.size lo hi none).map fun (l, u, _) => .string (s.extract l u)
  | some (.slice e), .slice a len cap =>
    match P.info? e, boundsA len cap lo hi mx with
    | some j, some (l, u, m) =>
      match a with
      | some ⟨b, o, none⟩ =>
        match h.get b with
        | some (.cells _ e' _ grown) =>
          if (grown = true ∧ e' ≠ e) ∨ m < u then none
          else if m = l ∧ l ≠ 0 ∧ mx.isNone = true then (if u = l then some (.slice (some ⟨b, o, some 0⟩) 0 0) else none)
          else some (.slice (some ⟨b, if m = l then o else o + l * j.size, none⟩) (u - l) (m - l))
        | _ => none
      | some ⟨b, o, some s⟩ => if len = 0 ∧ u = 0 ∧ l = 0 ∧ mx.isNone = true then some (.slice (some ⟨b, o, some s⟩) 0 0) else none
      | none => if m = 0 ∧ u = 0 ∧ l = 0 then some (.slice none 0 0) else none
    | _, _ => none
  | some (.array n e), .pointer (some ⟨b, o, none⟩) =>
    match P.info? e, boundsA n n lo hi mx with
    | some j, some (l, u, m) => some (.slice (some ⟨b, if m = l then o else o + l * j.size, none⟩) (u - l) (m - l))
    | _, _ => none
  | _, _ => none

def fieldAddrA (P : Program) (s : TypeId) (x : Value) (f : Nat) : Option Value :=
  match P.underlying s, x with
  | some (.struct fs), .pointer (some ⟨b, o, none⟩) =>
    match fs[f]? with
    | some fd =>
      match P.info? fd.type with
      | some j => if j.size = 0 then none else some (.pointer (some ⟨b, o + fd.offset, none⟩))
      | none => none
    | none => none
  | _, _ => none

def partA (P : Program) (t : TypeId) (cs : Array Value) (off : Nat) : Option Value :=
  match P.underlying t with
  | some d =>
    if isAggD d then (P.info? t).map fun i => .agg (cs.extract off (off + i.size))
    else cs[off]?
  | none => none

def fieldA (P : Program) (t : TypeId) (x : Value) (f : Nat) : Option Value :=
  match P.underlying t, x with
  | some (.struct fs), .agg cs =>
    match fs[f]? with
    | some fd => partA P fd.type cs fd.offset
    | none => none
  | _, _ => none

def indexAddrA (P : Program) (t : TypeId) (x ix : Value) : Option Value :=
  match P.underlying t, x, ix with
  | some (.array len e), .pointer (some ⟨b, o, none⟩), .int _ i =>
    match P.info? e with
    | some j => if 0 ≤ i ∧ i < len then some (.pointer (some ⟨b, o + i.toNat * j.size, none⟩)) else none
    | none => none
  | some (.slice e), .slice (some ⟨b, o, none⟩) len _, .int _ i =>
    match P.info? e with
    | some j => if 0 ≤ i ∧ i < len then some (.pointer (some ⟨b, o + i.toNat * j.size, none⟩)) else none
    | none => none
  | _, _, _ => none

def indexA (P : Program) (t : TypeId) (x ix : Value) : Option Value :=
  match P.underlying t, x, ix with
  | some (.array len e), .agg cs, .int _ i =>
    match P.info? e with
    | some j => if 0 ≤ i ∧ i < len then partA P e cs (i.toNat * j.size) else none
    | none => none
  | some .string, .string s, .int _ i =>
    if 0 ≤ i then (s[i.toNat]?).map fun b => .int .u8 b.toNat else none
  | _, _, _ => none

/-! ### Maps: keys that ask no memory -/

def findA (P : Program) (kt : TypeId) (k : Value) : List MapEntry → Nat → Option (Option (Nat × Value))
  | [], _ => some none
  | e :: es, i =>
    match eqP P kt k e.key with
    | some true => some (some (i, e.val))
    | some false => findA P kt k es (i + 1)
    | none => none

/-- May a value be a key: the model's own look at it comes to nothing. -/
def keyOk (P : Program) (kt : TypeId) (k : Value) : Bool :=
  qv k && (match (Instr.checkKey true 10000 kt k).run P default with | .ok _ _ => true | .halt _ _ => false)
    && (match (Instr.checkKey false 10000 kt k).run P default with | .ok _ _ => true | .halt _ _ => false)

def lookupA (P : Program) (h : AHeap) (t : TypeId) (m k : Value) (ok : Bool) : Option Value :=
  match P.underlying t with
  | some (.map kt et) =>
    if keyOk P kt k then
      match m with
      | .map none =>
        match (P.info? et).bind (·.zero) with
        | some z => if pv z then some (if ok then .tuple #[z, .bool false] else z) else none
        | none => none
      | .map (some r) =>
        match h.get r with
        | some (.map es _) =>
          match findA P kt k es 0 with
          | some (some (_, v)) => some (if ok then .tuple #[v, .bool true] else v)
          | some none =>
            match (P.info? et).bind (·.zero) with
            | some z => if pv z then some (if ok then .tuple #[z, .bool false] else z) else none
            | none => none
          | none => none
        | _ => none
      | _ => none
    else none
  | _ => none

/-- Is the key that stands there the very one that comes? -/
def sameAt (es : List MapEntry) (i : Nat) (k : Value) : Bool :=
  match es[i]? with
  | some e => Instr.sameBits 10000 e.key k
  | none => false

def mapUpdateA (P : Program) (h : AHeap) (t : TypeId) (m k x : Value) : Option AHeap :=
  match P.underlying t, m with
  | some (.map kt _), .map (some r) =>
    match h.get r with
    | some (.map es clock) =>
      if keyOk P kt k then
        match findA P kt k es 0 with
        | some (some (i, _)) => if sameAt es i k then some (h.put r (.map (es.modify i fun e => { e with key := k, val := x }) clock)) else none
        | some none => some (h.put r (.map (es ++ [{ key := k, val := x, born := clock }]) (clock + 1)))
        | none => none
      else none
    | _ => none
  | _, _ => none

def mapEntryA (P : Program) (h : AHeap) (t : TypeId) (m k : Value) : Option (Value × AHeap) :=
  match P.underlying t, m with
  | some (.map kt et), .map (some r) =>
    match h.get r with
    | some (.map es clock) =>
      if keyOk P kt k then
        match findA P kt k es 0 with
        | some (some (i, v)) =>
          if sameAt es i k then some (.tuple #[v, goInt (((es[i]?).map (·.born)).getD 0)], h.put r (.map (es.modify i fun e => { e with key := k }) clock)) else none
        | some none =>
          match (P.info? et).bind (·.zero) with
          | some z => if pv z then some (.tuple #[z, goInt clock], h.put r (.map (es ++ [{ key := k, val := z, born := clock }]) (clock + 1))) else none
          | none => none
        | none => none
      else none
    | _ => none
  | _, _ => none

def entryStoreA (h : AHeap) (m stamp x : Value) : Option AHeap :=
  match m, stamp with
  | .map (some r), .int _ born =>
    match h.get r with
    | some (.map es clock) =>
      match es.findIdx? (fun e => (e.born : Int) == born) with
      | some i => some (h.put r (.map (es.modify i fun e => { e with val := x }) clock))
      | none => none
    | _ => none
  | _, _ => none

def deleteA (P : Program) (h : AHeap) (t : TypeId) (m k : Value) : Option AHeap :=
  match P.underlying t with
  | some (.map kt _) =>
    if keyOk P kt k then
      match m with
      | .map none => some h
      | .map (some r) =>
        match h.get r with
        | some (.map es clock) =>
          match findA P kt k es 0 with
          | some (some (i, _)) => some (h.put r (.map (es.eraseIdx i) clock))
          | some none => some (h.put r (.map es clock))
          | none => none
        | _ => none
      | _ => none
    else none
  | _ => none

/-! ### Builtins -/

def lenA (P : Program) (h : AHeap) (t : TypeId) (x : Value) : Option Value :=
  match P.underlying t, x with
  | some .string, .string s => some (goInt s.size)
  | some (.array n _), _ => some (goInt n)
  | some (.slice _), .slice _ n _ => some (goInt n)
  | some (.map _ _), .map none => some (goInt 0)
  | some (.map _ _), .map (some r) =>
    match h.get r with
    | some (.map es _) => some (goInt es.length)
    | _ => none
  | _, _ => none

/-- The first n elements of what is appended, or copied. -/
def firstA (h : AHeap) (size n : Nat) : Value → Option (List Value)
  | .slice (some ⟨b, o, none⟩) _ _ =>
    if n = 0 then some [] else
    match h.get b with
    | some (.cells c _ _ _) => loadRow c o (n * size)
    | _ => none
  | .slice (some ⟨_, _, some _⟩) _ _ => if n = 0 then some [] else none
  | .slice none _ _ => if n = 0 then some [] else none
  | .string s => some ((s.extract 0 n).data.toList.map fun b => .int .u8 b.toNat)
  | _ => none

def lenOfA : Value → Option Nat
  | .slice _ n _ => some n
  | .string s => some s.size
  | _ => none

def appendA (P : Program) (h : AHeap) (id : Nat) (argTypes : Array TypeId) (args : Array Value) : Option (Value × AHeap) :=
  match argTypes[0]?, argTypes[1]?, (args[0]? : Option Value), (args[1]? : Option Value) with
  | some st, some xt, some (.slice base sLen sCap), some x =>
    match P.underlying st, P.underlying xt with
    | some (.slice e), some xd =>
      if isIntD xd then none else
      match P.info? e with
      | some j =>
        match j.zero, lenOfA x with
        | some z, some n =>
          if 0 < j.size ∧ (sLen + n) * j.bytes ≤ room ∧ sLen + n ≤ room ∧ z.cells.size = j.size then
            match firstA h j.size n x with
            | some new =>
              if new.length = n * j.size ∧ new.all oneCell = true then
              match base with
              | none =>
                if sLen = 0 ∧ sCap = 0 then
                  if n = 0 then some (.slice none 0 0, h)
                  else newA P h id e new true (.slice (some ⟨id, 0, none⟩) n n)
                else none
              | some ⟨b, o, none⟩ =>
                match h.get b with
                | some (.cells c e' ro grown) =>
                  if e' = e ∧ sLen ≤ sCap ∧ o + sCap * j.size ≤ c.length then
                    if n = 0 then some (.slice (some ⟨b, o, none⟩) sLen sCap, h)
                    else
                    match loadRow c o (sLen * j.size) with
                    | some old =>
                      if grown = true then
                        if ro = true then none
                        else newA P (h.put b .dead) id e (old ++ new) true (.slice (some ⟨id, 0, none⟩) (sLen + n) (sLen + n))
                      else if sLen + n ≤ sCap then
                        if ro = true then none
                        else some (.slice (some ⟨b, o, none⟩) (sLen + n) sCap, h.put b (.cells (setRow c (o + sLen * j.size) new) e' false false))
                      else newA P h id e (old ++ new) true (.slice (some ⟨id, 0, none⟩) (sLen + n) (sLen + n))
                    | none => none
                  else none
                | _ => none
              | _ => none
              else none
            | none => none
          else none
        | _, _ => none
      | none => none
    | _, _ => none
  | _, _, _, _ => none

def copyA (P : Program) (h : AHeap) (argTypes : Array TypeId) (args : Array Value) : Option (Value × AHeap) :=
  match argTypes[0]?, (args[0]? : Option Value), (args[1]? : Option Value) with
  | some dt, some (.slice base dLen _), some x =>
    match P.underlying dt with
    | some (.slice e) =>
      match P.info? e, lenOfA x with
      | some j, some xn =>
        match firstA h j.size (Nat.min xn dLen) x with
        | some new =>
          if Nat.min xn dLen = 0 then (if new.isEmpty then some (goInt 0, h) else none) else
          match base with
          | some ⟨b, o, none⟩ =>
            match h.get b with
            | some (.cells c e' false g) =>
              if o + new.length ≤ c.length ∧ new.all oneCell = true then some (goInt (Nat.min xn dLen : Nat), h.put b (.cells (setRow c o new) e' false g)) else none
            | _ => none
          | _ => none
        | none => none
      | _, _ => none
    | _ => none
  | _, _, _ => none

def minA : List Value → Option Value
  | [.int k x, .int _ y] => some (.int k (if y < x then y else x))
  | _ => none

def maxA : List Value → Option Value
  | [.int k x, .int _ y] => some (.int k (if y > x then y else x))
  | _ => none

def builtinA (P : Program) (h : AHeap) (id : Nat) (b : Builtin) (argTypes : Array TypeId) (args : Array Value) : Option (Value × AHeap) :=
  match b with
  | .len => match argTypes[0]?, args[0]? with | some t, some x => (lenA P h t x).map (·, h) | _, _ => none
  | .append => if args.size = 2 then appendA P h id argTypes args else none
  | .copy => if args.size = 2 then copyA P h argTypes args else none
  | .min => (minA args.toList).map (·, h)
  | .max => (maxA args.toList).map (·, h)
  | .delete => match argTypes[0]?, (args[0]? : Option Value), (args[1]? : Option Value) with | some t, some m, some k => if args.size = 2 then (deleteA P h t m k).map (.tuple #[], ·) else none | _, _, _ => none
  | _ => none

def evalsO (G : Nat) (e : Tr Value) : List Operand → Option (List Value)
  | [] => some []
  | x :: xs =>
    match evalO G e x with
    | some v => (evalsO G e xs).map (v :: ·)
    | none => none

def mapO (G : Nat) (e : Tr Value) (xs : Array Operand) : Option (Array Value) := (evalsO G e xs.toList).map List.toArray

def partsO (G : Nat) (e : Tr Value) : List (Nat × Operand) → Option (List (Nat × Value))
  | [] => some []
  | (i, x) :: xs =>
    match evalO G e x with
    | some v => (partsO G e xs).map ((i, v) :: ·)
    | none => none

def mapParts (G : Nat) (e : Tr Value) (xs : Array (Nat × Operand)) : Option (List (Nat × Value)) := partsO G e xs.toList

def optO (G : Nat) (e : Tr Value) : Option Operand → Option (Option Value)
  | none => some none
  | some x => (evalO G e x).map some

def convA (P : Program) (src dst : TypeId) (x : Value) : Option Value :=
  match P.underlying src, P.underlying dst, x with
  | some _, some (.int k), .int _ n => some (.int k (k.wrap n))
  | some _, some .string, .string s => some (.string s)
  | _, _, _ => none

/-- An operation that calls no function. -/
def opA (P : Program) (h : AHeap) (id : Nat) (e : Tr Value) (o : Oper) : Option (Value × AHeap) :=
  match o.op with
  | .move x => (evalO P.globals.size e x).map (·, h)
  | .assign x => (evalO P.globals.size e x).map (·, h)
  | .pick c a b =>
    match evalO P.globals.size e c with
    | some (.bool true) => (evalO P.globals.size e a).map (·, h)
    | some (.bool false) => (evalO P.globals.size e b).map (·, h)
    | _ => none
  | .alloc t =>
    match (P.info? t).bind (·.zero) with
    | some z => if z.cells.toList.all pv1 then newA P h id t z.cells.toList false (.pointer (some ⟨id, 0, none⟩)) else none
    | none => none
  | .box t x => (evalO P.globals.size e x).bind fun v => newA P h id t v.cells.toList false (.pointer (some ⟨id, 0, none⟩))
  | .build t parts => (mapParts P.globals.size e parts).bind fun ps => (buildA P t ps).map (·, h)
  | .buildSlice t len parts => (mapParts P.globals.size e parts).bind fun ps => buildSliceA P h id t len ps
  | .load t a => (evalO P.globals.size e a).bind fun v => (loadA P h t v).map (·, h)
  | .store t a x => (evalO P.globals.size e a).bind fun v => (evalO P.globals.size e x).bind fun u => (storeA P h t v u).map (undef, ·)
  | .nilCheck x =>
    match evalO P.globals.size e x with
    | some (.pointer (some a)) => some (.pointer (some a), h)
    | some (.func (.func f) a b) => some (.func (.func f) a b, h)
    | some (.func (.yield f) a b) => some (.func (.yield f) a b, h)
    | _ => none
  | .binOp op t x y _ => (evalO P.globals.size e x).bind fun u => (evalO P.globals.size e y).bind fun v => (binA P h op t u v).map (·, h)
  | .unOp op _ x => (evalO P.globals.size e x).bind fun u => (unA op u).map (·, h)
  | .convert s d x => (evalO P.globals.size e x).bind fun u => (convA P s d u).map (·, h)
  | .makeFunc (.func f) first captured => (mapO P.globals.size e first).bind fun a => (mapO P.globals.size e captured).map fun b => (.func (.func f) a b, h)
  | .makeMap _ none => (h.new id (.map [] 0)).map (.map (some id), ·)
  | .makeSlice t l c => (evalO P.globals.size e l).bind fun u => (evalO P.globals.size e c).bind fun v => makeSliceA P h id t u v
  | .slice t x lo hi mx => (evalO P.globals.size e x).bind fun u => (optO P.globals.size e lo).bind fun a => (optO P.globals.size e hi).bind fun b => (optO P.globals.size e mx).bind fun c => (sliceA P h t u a b c).map (·, h)
  | .fieldAddr s x f => (evalO P.globals.size e x).bind fun u => (fieldAddrA P s u f).map (·, h)
  | .field t x f => (evalO P.globals.size e x).bind fun u => (fieldA P t u f).map (·, h)
  | .indexAddr t x ix => (evalO P.globals.size e x).bind fun u => (evalO P.globals.size e ix).bind fun v => (indexAddrA P t u v).map (·, h)
  | .index t x ix => (evalO P.globals.size e x).bind fun u => (evalO P.globals.size e ix).bind fun v => (indexA P t u v).map (·, h)
  | .lookup t x ix ok => (evalO P.globals.size e x).bind fun u => (evalO P.globals.size e ix).bind fun v => (lookupA P h t u v ok).map (·, h)
  | .mapUpdate t m k x => (evalO P.globals.size e m).bind fun u => (evalO P.globals.size e k).bind fun v => (evalO P.globals.size e x).bind fun z => (mapUpdateA P h t u v z).map (undef, ·)
  | .insert t m k x => (evalO P.globals.size e m).bind fun u => (evalO P.globals.size e k).bind fun v => (evalO P.globals.size e x).bind fun z => (mapUpdateA P h t u v z).map (undef, ·)
  | .mapEntry t m k => (evalO P.globals.size e m).bind fun u => (evalO P.globals.size e k).bind fun v => mapEntryA P h t u v
  | .entryStore _ m s x => (evalO P.globals.size e m).bind fun u => (evalO P.globals.size e s).bind fun v => (evalO P.globals.size e x).bind fun z => (entryStoreA h u v z).map (undef, ·)
  | .extract t i =>
    match evalO P.globals.size e t with
    | some (.tuple vs) => (vs[i]?).map (·, h)
    | _ => none
  | .call { callee := .builtin b, args, argTypes } => (mapO P.globals.size e args).bind fun vs => builtinA P h id b argTypes vs
  | _ => none

end Go.Ev
