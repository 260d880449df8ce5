/- An evaluator of the model's code over a heap of its own, in which what a call does hangs on no draw: the definitions. -/
import GoSem.Machine.Frame
import Derived.Below
import Derived.Laws.AppendOwn
import Derived.Laws.Build
import Derived.Laws.MakeOwn
namespace Go.Ev

/-! ### Finite maps from numbers, of one shape for one content -/

inductive Tr (α : Type) where
  | leaf
  | node (l : Tr α) (v : Option α) (r : Tr α)

namespace Tr
variable {α : Type}

def get : Tr α → Nat → Option α
  | .leaf, _ => none
  | .node _ v _, 0 => v
  | .node l _ r, m + 1 => if m % 2 = 0 then l.get (m / 2) else r.get (m / 2)

def setF : Nat → Tr α → Nat → α → Tr α
  | 0, t, _, _ => t
  | _ + 1, .leaf, 0, x => .node .leaf (some x) .leaf
  | k + 1, .leaf, m + 1, x => if m % 2 = 0 then .node (setF k .leaf (m / 2) x) none .leaf else .node .leaf none (setF k .leaf (m / 2) x)
  | _ + 1, .node l _ r, 0, x => .node l (some x) r
  | k + 1, .node l u r, m + 1, x => if m % 2 = 0 then .node (setF k l (m / 2) x) u r else .node l u (setF k r (m / 2) x)

def set (t : Tr α) (n : Nat) (x : α) : Tr α := setF (n + 1) t n x

end Tr

/-! ### The heap -/

structure ALoop where
  state : LoopState
  pending : Option Code
  env : Tr Value
  n : Nat
  params : Array Tmp
  assign : Code
  body : Code
  defers : Nat

/-- ro: nobody writes it; grown: an append made it, so its capacity is not known. -/
inductive AObj where
  | cells (c : List Value) (elem : TypeId) (ro grown : Bool)
  | map (es : List MapEntry) (clock : Nat)
  | loop (l : ALoop)
  | marks
  | dead

structure AHeap where
  tr : Tr AObj
  next : Nat

def AHeap.get (h : AHeap) (b : Nat) : Option AObj := h.tr.get b
def AHeap.put (h : AHeap) (b : Nat) (o : AObj) : AHeap := { h with tr := h.tr.set b o }
/-- A new block, under a number that is free. -/
def AHeap.new (h : AHeap) (b : Nat) (o : AObj) : Option AHeap :=
  match h.get b with
  | none => some (h.put b o)
  | some _ => none

structure AAct where
  env : Tr Value
  n : Nat
  marks : List Nat

inductive Out where
  | normal
  | ret
  | exit (id : Nat)
  | goto (l : Nat)
  deriving DecidableEq

/-! ### Values -/

/-- A cell without an address in it. -/
def pv1 : Value → Bool
  | .bool _ | .int _ _ | .string _ | .nilFunc | .nilIface => true
  | .pointer none => true
  | .slice none 0 0 => true
  | .map none => true
  | _ => false

def pv : Value → Bool
  | .agg cs => cs.toList.all pv1
  | .tuple cs => cs.toList.all pv1
  | v => pv1 v

/-- A cell whose '==' asks no memory. -/
def qv1 : Value → Bool
  | .bool _ | .int _ _ | .string _ => true
  | _ => false

def qv : Value → Bool
  | .agg cs => cs.toList.all qv1
  | v => qv1 v

def oneCell : Value → Bool
  | .agg _ | .tuple _ => false
  | _ => true

/-- Is a number less than another one? So that it is told also of numbers with variables in them: 0 is less than any n + 1. -/
def ltI : Int → Int → Bool
  | .ofNat m, .ofNat n => Nat.blt m n
  | .ofNat _, .negSucc _ => false
  | .negSucc _, .ofNat _ => true
  | .negSucc m, .negSucc n => Nat.blt n m
theorem ltI_iff (a b : Int) : ltI a b = true ↔ a < b := by
  cases a <;> cases b <;> simp [ltI, Nat.blt_eq] <;> omega
instance ltDec (a b : Int) : Decidable (a < b) := decidable_of_iff (ltI a b = true) (ltI_iff a b)
/-- At most: the same. -/
def leI : Int → Int → Bool
  | .ofNat m, .ofNat n => Nat.ble m n
  | .ofNat _, .negSucc _ => false
  | .negSucc _, .ofNat _ => true
  | .negSucc m, .negSucc n => Nat.ble n m
theorem leI_iff (a b : Int) : leI a b = true ↔ a ≤ b := by
  cases a <;> cases b <;> simp [leI] <;> omega
instance leDec (a b : Int) : Decidable (a ≤ b) := decidable_of_iff (leI a b = true) (leI_iff a b)

def evalO (G : Nat) (e : Tr Value) : Operand → Option Value
  | .tmp t => e.get t
  | .const v => if pv v then some v else none
  | .global g => if g < G then some (.pointer (some ⟨g, 0, none⟩)) else none
  | .func f => some (.func (.func f) #[] #[])

/-- What is appended by 'x...' is a slice, or a string. -/
def isIntD : TypeDesc → Bool
  | .slice _ => false
  | .string => false
  | _ => true

def isAggD : TypeDesc → Bool
  | .struct _ => true
  | .array _ _ => true
  | _ => false

/-! ### Memory -/

def loadRow (c : List Value) (off size : Nat) : Option (List Value) :=
  if off + size ≤ c.length then some ((c.drop off).take size) else none

def setRow (c : List Value) (off : Nat) (xs : List Value) : List Value := c.take off ++ xs ++ c.drop (off + xs.length)

def loadA (P : Program) (h : AHeap) (t : TypeId) : Value → Option Value
  | .pointer (some ⟨b, off, none⟩) =>
    match h.get b, P.underlying t with
    | some (.cells c _ _ _), some d =>
      if isAggD d then
        match P.info? t with
        | some i => (loadRow c off i.size).map fun xs => .agg xs.toArray
        | none => none
      else c[off]?
    | _, _ => none
  | _ => none

def storeA (P : Program) (h : AHeap) (t : TypeId) (a x : Value) : Option AHeap :=
  match a with
  | .pointer (some ⟨b, off, none⟩) =>
    match h.get b, P.info? t with
    | some (.cells c e false g), some i =>
      if i.size = x.cells.size ∧ off + i.size ≤ c.length ∧ x.cells.toList.all oneCell = true then
        some (h.put b (.cells (setRow c off x.cells.toList) e false g))
      else none
    | _, _ => none
  | _ => none

def newA (P : Program) (h : AHeap) (id : Nat) (elem : TypeId) (cs : List Value) (grown : Bool) (v : Value) : Option (Value × AHeap) :=
  match P.info? elem with
  | some _ => (h.new id (.cells cs elem false grown)).map (v, ·)
  | none => none

/-! ### Operations on values alone -/

def intBin (op : BinOp) (k : IntKind) (a b : Int) : Option Value :=
  match op with
  | .add => some (.int k (k.wrap (a + b)))
  | .sub => some (.int k (k.wrap (a - b)))
  | .mul => some (.int k (k.wrap (a * b)))
  | .quo => if b = 0 then none else some (.int k (k.wrap (a.tdiv b)))
  | .rem => if b = 0 then none else some (.int k (a.tmod b))
  | .and => some (.int k (k.wrap ((BitVec.ofInt k.bits a &&& BitVec.ofInt k.bits b).toNat : Int)))
  | .or => some (.int k (k.wrap ((BitVec.ofInt k.bits a ||| BitVec.ofInt k.bits b).toNat : Int)))
  | .xor => some (.int k (k.wrap ((BitVec.ofInt k.bits a ^^^ BitVec.ofInt k.bits b).toNat : Int)))
  | .andNot => some (.int k (k.wrap ((BitVec.ofInt k.bits a &&& ~~~ BitVec.ofInt k.bits b).toNat : Int)))
  | .eql => some (.bool (a == b))
  | .neq => some (.bool (a != b))
  | .lss => some (.bool (a < b))
  | .leq => some (.bool (a ≤ b))
  | .gtr => some (.bool (a > b))
  | .geq => some (.bool (a ≥ b))
  | _ => none

def shiftA (op : BinOp) (k : IntKind) (x y : Int) : Option Value :=
  if y < 0 then none
  else
    match op with
    | .shl => some (.int k (k.wrap (x * 2 ^ (min y.toNat k.bits))))
    | .shr => some (.int k (x.fdiv (2 ^ (min y.toNat k.bits))))
    | _ => none

def strBin (op : BinOp) (x y : ByteArray) : Option Value :=
  match op with
  | .add => if ((x.size + y.size : Nat) : Int) > IntKind.i64.max then none else some (.string (x ++ y))
  | .eql => some (.bool (x.toList == y.toList))
  | .neq => some (.bool !(x.toList == y.toList))
  | .lss => some (.bool (Op.bytesLess x.toList y.toList))
  | .leq => some (.bool (Op.bytesLess x.toList y.toList || x.toList == y.toList))
  | .gtr => some (.bool !(Op.bytesLess x.toList y.toList || x.toList == y.toList))
  | .geq => some (.bool !(Op.bytesLess x.toList y.toList))
  | _ => none

/-- '==' of two values that ask no memory, as the model has it. -/
def eqP (P : Program) (t : TypeId) (x y : Value) : Option Bool :=
  if qv x && qv y then
    match (Op.equal t x y).run P default with
    | .ok b _ => some b
    | .halt _ _ => none
  else none

/-- Is a block a row of cells of the call's own? -/
def isOwnA (h : AHeap) (b : Nat) : Bool :=
  match h.get b with
  | some (.cells _ _ false _) => true
  | _ => false

def eqA (P : Program) (h : AHeap) (t : TypeId) (x y : Value) : Option Bool :=
  match P.underlying t, x, y with
  | some (.bool), .bool a, .bool b => some (a == b)
  | some (.pointer _), .pointer none, .pointer b => some b.isNone
  | some (.pointer _), .pointer (some _), .pointer none => some false
  | some (.pointer e), .pointer (some ⟨a, i, none⟩), .pointer (some ⟨b, j, none⟩) =>
    match P.info? e with
    | some inf =>
      if inf.size = 0 then none else if a = b then some (i == j) else if isOwnA h a && isOwnA h b then some false else none
    | none => none
  | some (.slice _), .slice none _ _, .slice b _ _ => some b.isNone
  | some (.slice _), .slice _ _ _, .slice none _ _ => some false
  | some (.map _ _), .map none, .map b => some b.isNone
  | some (.map _ _), .map _, .map none => some false
  | some (.func _ _ _), .nilFunc, .nilFunc => some true
  | some (.func _ _ _), .nilFunc, .func _ _ _ => some false
  | some (.func _ _ _), .func _ _ _, .nilFunc => some false
  | some (.struct _), .agg _, .agg _ => if P.eqGuardType P.depth t then none else eqP P t x y
  | some (.array _ _), .agg _, .agg _ => if P.eqGuardType P.depth t then none else eqP P t x y
  | _, _, _ => none

def binA (P : Program) (h : AHeap) (op : BinOp) (t : TypeId) (x y : Value) : Option Value :=
  match x, y with
  | .int k a, .int k' b =>
    match op with
    | .shl => shiftA .shl k a b
    | .shr => shiftA .shr k a b
    | op => if k = k' then intBin op k a b else none
  | .string a, .string b => strBin op a b
  | x, y =>
    match op with
    | .eql => (eqA P h t x y).map .bool
    | .neq => (eqA P h t x y).map fun b => .bool !b
    | _ => none

def unA (op : UnOp) (x : Value) : Option Value :=
  match op, x with
  | .neg, .int k n => some (.int k (k.wrap (0 - n)))
  | .xor, .int k n => intBin .xor k (if k.signed then -1 else k.max) n
  | .not, .bool b => some (.bool !b)
  | _, _ => none

/-! ### Operations, but calls: the value, and the heap behind -/

def fillPlaces (P : Program) (fs : Array Field) (i : Nat) : Option (Nat × Nat) :=
  match fs[i]? with
  | some f => (P.info? f.type).map fun j => (f.offset, j.size)
  | none => none

def buildA (P : Program) (t : TypeId) (parts : List (Nat × Value)) : Option Value :=
  match P.info? t, P.underlying t with
  | some i, some d =>
    match i.zero, d with
    | some z, .struct fs =>
      if fs.all (fun f => (P.info? f.type).isSome) && z.cells.toList.all pv1 then (Instr.fill (fillPlaces P fs) z.cells parts).map .agg else none
    | some z, .array _ e =>
      match P.info? e with
      | some j => if z.cells.toList.all pv1 then (Instr.fill (fun i => some (i * j.size, j.size)) z.cells parts).map .agg else none
      | none => none
    | _, _ => none
  | _, _ => none

def zeroRow (zero : Array Value) (n : Nat) : Array Value := (Array.range n).map (zero[· % zero.size]!)

def buildSliceA (P : Program) (h : AHeap) (id : Nat) (t : TypeId) (len : Nat) (parts : List (Nat × Value)) : Option (Value × AHeap) :=
  match P.underlying t with
  | some (.slice e) =>
    match P.info? e with
    | some j =>
      match j.zero with
      | some z =>
        if len * j.size ≤ 2 ^ 24 ∧ z.cells.toList.all pv1 = true ∧ z.cells.size = j.size ∧ 0 < j.size then
          match Instr.fill (fun i => some (i * j.size, j.size)) (zeroRow z.cells (len * j.size)) parts with
          | some cs => newA P h id e cs.toList false (.slice (some ⟨id, 0, none⟩) len len)
          | none => none
        else none
      | none => none
    | none => none
  | _ => none

/-- The bound below which no allocation asks for more room than there is. -/
def room : Nat := 2 ^ 40

def makeSliceA (P : Program) (h : AHeap) (id : Nat) (t : TypeId) (len cap : Value) : Option (Value × AHeap) :=
  match P.underlying t, len, cap with
  | some (.slice e), .int _ l, .int _ c =>
    match P.info? e with
    | some j =>
      match j.zero with
      | some z =>
        if 0 ≤ l ∧ l ≤ c ∧ c ≤ room ∧ c.toNat * j.bytes ≤ room ∧ z.cells.toList.all pv1 = true ∧ z.cells.size = j.size ∧ 0 < j.size then
          newA P h id e (zeroRow z.cells (c.toNat * j.size)).toList false (.slice (some ⟨id, 0, none⟩) l.toNat c.toNat)
        else none
      | none => none
    | none => none
  | _, _, _ => none

def boundA (y : Nat) : Option Value → Nat → Option Nat
  | none, d => some d
  | some (.int _ i), _ => if 0 ≤ i ∧ i ≤ y then some i.toNat else none
  | some _, _ => none

/-- The bounds of a slice expression: low, high, max. -/
def boundsA (len cap : Nat) (lo hi mx : Option Value) : Option (Nat × Nat × Nat) :=
  match boundA cap mx cap with
  | some m =>
    if hi.isNone && mx.isSome then none else
    match boundA m hi len with
    | some u =>
      match boundA u lo 0 with
      | some l => some (l, u, m)
      | none => none
    | none => none
  | none => none

def sliceA (P : Program) (h : AHeap) (t : TypeId) (x : Value) (lo hi mx : Option Value) : Option Value :=
  match P.underlying t, x with
  | some .string, .string s =>
    if mx.isSome then none else (boundsA s.size s.size lo hi none).map fun (l, u, _) => .string (s.extract l u)
  | some (.slice e), .slice a len cap =>
    match P.info? e, boundsA len cap lo hi mx with
    | some j, some (l, u, m) =>
      match a with
      | some ⟨b, o, none⟩ =>
        match h.get b with
        | some (.cells _ e' _ grown) =>
          if (grown = true ∧ e' ≠ e) ∨ m < u then none
          else if m = l ∧ l ≠ 0 ∧ mx.isNone = true then (if u = l then some (.slice (some ⟨b, o, some 0⟩) 0 0) else none)
          else some (.slice (some ⟨b, if m = l then o else o + l * j.size, none⟩) (u - l) (m - l))
        | _ => none
      | some ⟨b, o, some s⟩ => if len = 0 ∧ u = 0 ∧ l = 0 ∧ mx.isNone = true then some (.slice (some ⟨b, o, some s⟩) 0 0) else none
      | none => if m = 0 ∧ u = 0 ∧ l = 0 then some (.slice none 0 0) else none
    | _, _ => none
  | some (.array n e), .pointer (some ⟨b, o, none⟩) =>
    match P.info? e, boundsA n n lo hi mx with
    | some j, some (l, u, m) => some (.slice (some ⟨b, if m = l then o else o + l * j.size, none⟩) (u - l) (m - l))
    | _, _ => none
  | _, _ => none

def fieldAddrA (P : Program) (s : TypeId) (x : Value) (f : Nat) : Option Value :=
  match P.underlying s, x with
  | some (.struct fs), .pointer (some ⟨b, o, none⟩) =>
    match fs[f]? with
    | some fd =>
      match P.info? fd.type with
      | some j => if j.size = 0 then none else some (.pointer (some ⟨b, o + fd.offset, none⟩))
      | none => none
    | none => none
  | _, _ => none

def partA (P : Program) (t : TypeId) (cs : Array Value) (off : Nat) : Option Value :=
  match P.underlying t with
  | some d =>
    if isAggD d then (P.info? t).map fun i => .agg (cs.extract off (off + i.size))
    else cs[off]?
  | none => none

def fieldA (P : Program) (t : TypeId) (x : Value) (f : Nat) : Option Value :=
  match P.underlying t, x with
  | some (.struct fs), .agg cs =>
    match fs[f]? with
    | some fd => partA P fd.type cs fd.offset
    | none => none
  | _, _ => none

def indexAddrA (P : Program) (t : TypeId) (x ix : Value) : Option Value :=
  match P.underlying t, x, ix with
  | some (.array len e), .pointer (some ⟨b, o, none⟩), .int _ i =>
    match P.info? e with
    | some j => if 0 ≤ i ∧ i < len then some (.pointer (some ⟨b, o + i.toNat * j.size, none⟩)) else none
    | none => none
  | some (.slice e), .slice (some ⟨b, o, none⟩) len _, .int _ i =>
    match P.info? e with
    | some j => if 0 ≤ i ∧ i < len then some (.pointer (some ⟨b, o + i.toNat * j.size, none⟩)) else none
    | none => none
  | _, _, _ => none

def indexA (P : Program) (t : TypeId) (x ix : Value) : Option Value :=
  match P.underlying t, x, ix with
  | some (.array len e), .agg cs, .int _ i =>
    match P.info? e with
    | some j => if 0 ≤ i ∧ i < len then partA P e cs (i.toNat * j.size) else none
    | none => none
  | some .string, .string s, .int _ i =>
    if 0 ≤ i then (s[i.toNat]?).map fun b => .int .u8 b.toNat else none
  | _, _, _ => none

/-! ### Maps: keys that ask no memory -/

def findA (P : Program) (kt : TypeId) (k : Value) : List MapEntry → Nat → Option (Option (Nat × Value))
  | [], _ => some none
  | e :: es, i =>
    match eqP P kt k e.key with
    | some true => some (some (i, e.val))
    | some false => findA P kt k es (i + 1)
    | none => none

/-- May a value be a key: the model's own look at it comes to nothing. -/
def keyOk (P : Program) (kt : TypeId) (k : Value) : Bool :=
  qv k && (match (Instr.checkKey true 10000 kt k).run P default with | .ok _ _ => true | .halt _ _ => false)
    && (match (Instr.checkKey false 10000 kt k).run P default with | .ok _ _ => true | .halt _ _ => false)

def lookupA (P : Program) (h : AHeap) (t : TypeId) (m k : Value) (ok : Bool) : Option Value :=
  match P.underlying t with
  | some (.map kt et) =>
    if keyOk P kt k then
      match m with
      | .map none =>
        match (P.info? et).bind (·.zero) with
        | some z => if pv z then some (if ok then .tuple #[z, .bool false] else z) else none
        | none => none
      | .map (some r) =>
        match h.get r with
        | some (.map es _) =>
          match findA P kt k es 0 with
          | some (some (_, v)) => some (if ok then .tuple #[v, .bool true] else v)
          | some none =>
            match (P.info? et).bind (·.zero) with
            | some z => if pv z then some (if ok then .tuple #[z, .bool false] else z) else none
            | none => none
          | none => none
        | _ => none
      | _ => none
    else none
  | _ => none

/-- Is the key that stands there the very one that comes? -/
def sameAt (es : List MapEntry) (i : Nat) (k : Value) : Bool :=
  match es[i]? with
  | some e => Instr.sameBits 10000 e.key k
  | none => false

def mapUpdateA (P : Program) (h : AHeap) (t : TypeId) (m k x : Value) : Option AHeap :=
  match P.underlying t, m with
  | some (.map kt _), .map (some r) =>
    match h.get r with
    | some (.map es clock) =>
      if keyOk P kt k then
        match findA P kt k es 0 with
        | some (some (i, _)) => if sameAt es i k then some (h.put r (.map (es.modify i fun e => { e with key := k, val := x }) clock)) else none
        | some none => some (h.put r (.map (es ++ [{ key := k, val := x, born := clock }]) (clock + 1)))
        | none => none
      else none
    | _ => none
  | _, _ => none

def mapEntryA (P : Program) (h : AHeap) (t : TypeId) (m k : Value) : Option (Value × AHeap) :=
  match P.underlying t, m with
  | some (.map kt et), .map (some r) =>
    match h.get r with
    | some (.map es clock) =>
      if keyOk P kt k then
        match findA P kt k es 0 with
        | some (some (i, v)) =>
          if sameAt es i k then some (.tuple #[v, goInt (((es[i]?).map (·.born)).getD 0)], h.put r (.map (es.modify i fun e => { e with key := k }) clock)) else none
        | some none =>
          match (P.info? et).bind (·.zero) with
          | some z => if pv z then some (.tuple #[z, goInt clock], h.put r (.map (es ++ [{ key := k, val := z, born := clock }]) (clock + 1))) else none
          | none => none
        | none => none
      else none
    | _ => none
  | _, _ => none

def entryStoreA (h : AHeap) (m stamp x : Value) : Option AHeap :=
  match m, stamp with
  | .map (some r), .int _ born =>
    match h.get r with
    | some (.map es clock) =>
      match es.findIdx? (fun e => (e.born : Int) == born) with
      | some i => some (h.put r (.map (es.modify i fun e => { e with val := x }) clock))
      | none => none
    | _ => none
  | _, _ => none

def deleteA (P : Program) (h : AHeap) (t : TypeId) (m k : Value) : Option AHeap :=
  match P.underlying t with
  | some (.map kt _) =>
    if keyOk P kt k then
      match m with
      | .map none => some h
      | .map (some r) =>
        match h.get r with
        | some (.map es clock) =>
          match findA P kt k es 0 with
          | some (some (i, _)) => some (h.put r (.map (es.eraseIdx i) clock))
          | some none => some (h.put r (.map es clock))
          | none => none
        | _ => none
      | _ => none
    else none
  | _ => none

/-! ### Builtins -/

def lenA (P : Program) (h : AHeap) (t : TypeId) (x : Value) : Option Value :=
  match P.underlying t, x with
  | some .string, .string s => some (goInt s.size)
  | some (.array n _), _ => some (goInt n)
  | some (.slice _), .slice _ n _ => some (goInt n)
  | some (.map _ _), .map none => some (goInt 0)
  | some (.map _ _), .map (some r) =>
    match h.get r with
    | some (.map es _) => some (goInt es.length)
    | _ => none
  | _, _ => none

/-- The first n elements of what is appended, or copied. -/
def firstA (h : AHeap) (size n : Nat) : Value → Option (List Value)
  | .slice (some ⟨b, o, none⟩) _ _ =>
    if n = 0 then some [] else
    match h.get b with
    | some (.cells c _ _ _) => loadRow c o (n * size)
    | _ => none
  | .slice (some ⟨_, _, some _⟩) _ _ => if n = 0 then some [] else none
  | .slice none _ _ => if n = 0 then some [] else none
  | .string s => some ((s.extract 0 n).data.toList.map fun b => .int .u8 b.toNat)
  | _ => none

def lenOfA : Value → Option Nat
  | .slice _ n _ => some n
  | .string s => some s.size
  | _ => none

def appendA (P : Program) (h : AHeap) (id : Nat) (argTypes : Array TypeId) (args : Array Value) : Option (Value × AHeap) :=
  match argTypes[0]?, argTypes[1]?, (args[0]? : Option Value), (args[1]? : Option Value) with
  | some st, some xt, some (.slice base sLen sCap), some x =>
    match P.underlying st, P.underlying xt with
    | some (.slice e), some xd =>
      if isIntD xd then none else
      match P.info? e with
      | some j =>
        match j.zero, lenOfA x with
        | some z, some n =>
          if 0 < j.size ∧ (sLen + n) * j.bytes ≤ room ∧ sLen + n ≤ room ∧ z.cells.size = j.size then
            match firstA h j.size n x with
            | some new =>
              if new.length = n * j.size ∧ new.all oneCell = true then
              match base with
              | none =>
                if sLen = 0 ∧ sCap = 0 then
                  if n = 0 then some (.slice none 0 0, h)
                  else newA P h id e new true (.slice (some ⟨id, 0, none⟩) n n)
                else none
              | some ⟨b, o, none⟩ =>
                match h.get b with
                | some (.cells c e' ro grown) =>
                  if e' = e ∧ sLen ≤ sCap ∧ o + sCap * j.size ≤ c.length then
                    if n = 0 then some (.slice (some ⟨b, o, none⟩) sLen sCap, h)
                    else
                    match loadRow c o (sLen * j.size) with
                    | some old =>
                      if grown = true then
                        if ro = true then none
                        else newA P (h.put b .dead) id e (old ++ new) true (.slice (some ⟨id, 0, none⟩) (sLen + n) (sLen + n))
                      else if sLen + n ≤ sCap then
                        if ro = true then none
                        else some (.slice (some ⟨b, o, none⟩) (sLen + n) sCap, h.put b (.cells (setRow c (o + sLen * j.size) new) e' false false))
                      else newA P h id e (old ++ new) true (.slice (some ⟨id, 0, none⟩) (sLen + n) (sLen + n))
                    | none => none
                  else none
                | _ => none
              | _ => none
              else none
            | none => none
          else none
        | _, _ => none
      | none => none
    | _, _ => none
  | _, _, _, _ => none

def copyA (P : Program) (h : AHeap) (argTypes : Array TypeId) (args : Array Value) : Option (Value × AHeap) :=
  match argTypes[0]?, (args[0]? : Option Value), (args[1]? : Option Value) with
  | some dt, some (.slice base dLen _), some x =>
    match P.underlying dt with
    | some (.slice e) =>
      match P.info? e, lenOfA x with
      | some j, some xn =>
        match firstA h j.size (Nat.min xn dLen) x with
        | some new =>
          if Nat.min xn dLen = 0 then (if new.isEmpty then some (goInt 0, h) else none) else
          match base with
          | some ⟨b, o, none⟩ =>
            match h.get b with
            | some (.cells c e' false g) =>
              if o + new.length ≤ c.length ∧ new.all oneCell = true then some (goInt (Nat.min xn dLen : Nat), h.put b (.cells (setRow c o new) e' false g)) else none
            | _ => none
          | _ => none
        | none => none
      | _, _ => none
    | _ => none
  | _, _, _ => none

def minA : List Value → Option Value
  | [.int k x, .int _ y] => some (.int k (if y < x then y else x))
  | _ => none

def maxA : List Value → Option Value
  | [.int k x, .int _ y] => some (.int k (if y > x then y else x))
  | _ => none

def builtinA (P : Program) (h : AHeap) (id : Nat) (b : Builtin) (argTypes : Array TypeId) (args : Array Value) : Option (Value × AHeap) :=
  match b with
  | .len => match argTypes[0]?, args[0]? with | some t, some x => (lenA P h t x).map (·, h) | _, _ => none
  | .append => if args.size = 2 then appendA P h id argTypes args else none
  | .copy => if args.size = 2 then copyA P h argTypes args else none
  | .min => (minA args.toList).map (·, h)
  | .max => (maxA args.toList).map (·, h)
  | .delete => match argTypes[0]?, (args[0]? : Option Value), (args[1]? : Option Value) with | some t, some m, some k => if args.size = 2 then (deleteA P h t m k).map (.tuple #[], ·) else none | _, _, _ => none
  | _ => none

def evalsO (G : Nat) (e : Tr Value) : List Operand → Option (List Value)
  | [] => some []
  | x :: xs =>
    match evalO G e x with
    | some v => (evalsO G e xs).map (v :: ·)
    | none => none

def mapO (G : Nat) (e : Tr Value) (xs : Array Operand) : Option (Array Value) := (evalsO G e xs.toList).map List.toArray

def partsO (G : Nat) (e : Tr Value) : List (Nat × Operand) → Option (List (Nat × Value))
  | [] => some []
  | (i, x) :: xs =>
    match evalO G e x with
    | some v => (partsO G e xs).map ((i, v) :: ·)
    | none => none

def mapParts (G : Nat) (e : Tr Value) (xs : Array (Nat × Operand)) : Option (List (Nat × Value)) := partsO G e xs.toList

def optO (G : Nat) (e : Tr Value) : Option Operand → Option (Option Value)
  | none => some none
  | some x => (evalO G e x).map some

def convA (P : Program) (src dst : TypeId) (x : Value) : Option Value :=
  match P.underlying src, P.underlying dst, x with
  | some _, some (.int k), .int _ n => some (.int k (k.wrap n))
  | some _, some .string, .string s => some (.string s)
  | _, _, _ => none

/-- The bytes of a row, as a string. -/
def bytesA : List Value → ByteArray → Option ByteArray
  | [], s => some s
  | .int .u8 n :: l, s => bytesA l (s.push (UInt8.ofNat n.toNat))
  | _, _ => none

def bytesH (h : AHeap) (n : Nat) : Option Addr → Option Value
  | none => if n = 0 then some (.string ByteArray.empty) else none
  | some ⟨b, o, none⟩ =>
    if n = 0 then some (.string ByteArray.empty) else
    match h.get b with
    | some (.cells c _ _ _) => (loadRow c o n).bind fun xs => (bytesA xs ByteArray.empty).map .string
    | _ => none
  | some ⟨_, _, some _⟩ => if n = 0 then some (.string ByteArray.empty) else none

/-- A conversion; one of bytes to a string looks at memory. -/
def convH (P : Program) (h : AHeap) (src dst : TypeId) (x : Value) : Option Value :=
  match x with
  | .slice a n _ =>
    match P.underlying src, P.underlying dst with
    | some (.slice e), some .string => (match P.underlying e with | some (.int .u8) => bytesH h n a | _ => none)
    | _, _ => none
  | x => convA P src dst x

/-- An operation that calls no function. -/
def opA (P : Program) (h : AHeap) (id : Nat) (e : Tr Value) (o : Oper) : Option (Value × AHeap) :=
  match o.op with
  | .move x => (evalO P.globals.size e x).map (·, h)
  | .assign x => (evalO P.globals.size e x).map (·, h)
  | .pick c a b =>
    match evalO P.globals.size e c with
    | some (.bool true) => (evalO P.globals.size e a).map (·, h)
    | some (.bool false) => (evalO P.globals.size e b).map (·, h)
    | _ => none
  | .alloc t =>
    match (P.info? t).bind (·.zero) with
    | some z => if z.cells.toList.all pv1 then newA P h id t z.cells.toList false (.pointer (some ⟨id, 0, none⟩)) else none
    | none => none
  | .box t x => (evalO P.globals.size e x).bind fun v => newA P h id t v.cells.toList false (.pointer (some ⟨id, 0, none⟩))
  | .build t parts => (mapParts P.globals.size e parts).bind fun ps => (buildA P t ps).map (·, h)
  | .buildSlice t len parts => (mapParts P.globals.size e parts).bind fun ps => buildSliceA P h id t len ps
  | .load t a => (evalO P.globals.size e a).bind fun v => (loadA P h t v).map (·, h)
  | .store t a x => (evalO P.globals.size e a).bind fun v => (evalO P.globals.size e x).bind fun u => (storeA P h t v u).map (undef, ·)
  | .nilCheck x =>
    match evalO P.globals.size e x with
    | some (.pointer (some a)) => some (.pointer (some a), h)
    | some (.func (.func f) a b) => some (.func (.func f) a b, h)
    | some (.func (.yield f) a b) => some (.func (.yield f) a b, h)
    | _ => none
  | .binOp op t x y _ => (evalO P.globals.size e x).bind fun u => (evalO P.globals.size e y).bind fun v => (binA P h op t u v).map (·, h)
  | .unOp op _ x => (evalO P.globals.size e x).bind fun u => (unA op u).map (·, h)
  | .convert s d x => (evalO P.globals.size e x).bind fun u => (convH P h s d u).map (·, h)
  | .makeFunc (.func f) first captured => (mapO P.globals.size e first).bind fun a => (mapO P.globals.size e captured).map fun b => (.func (.func f) a b, h)
  | .makeMap _ none => (h.new id (.map [] 0)).map (.map (some id), ·)
  | .makeSlice t l c => (evalO P.globals.size e l).bind fun u => (evalO P.globals.size e c).bind fun v => makeSliceA P h id t u v
  | .slice t x lo hi mx => (evalO P.globals.size e x).bind fun u => (optO P.globals.size e lo).bind fun a => (optO P.globals.size e hi).bind fun b => (optO P.globals.size e mx).bind fun c => (sliceA P h t u a b c).map (·, h)
  | .fieldAddr s x f => (evalO P.globals.size e x).bind fun u => (fieldAddrA P s u f).map (·, h)
  | .field t x f => (evalO P.globals.size e x).bind fun u => (fieldA P t u f).map (·, h)
  | .indexAddr t x ix => (evalO P.globals.size e x).bind fun u => (evalO P.globals.size e ix).bind fun v => (indexAddrA P t u v).map (·, h)
  | .index t x ix => (evalO P.globals.size e x).bind fun u => (evalO P.globals.size e ix).bind fun v => (indexA P t u v).map (·, h)
  | .lookup t x ix ok => (evalO P.globals.size e x).bind fun u => (evalO P.globals.size e ix).bind fun v => (lookupA P h t u v ok).map (·, h)
  | .mapUpdate t m k x => (evalO P.globals.size e m).bind fun u => (evalO P.globals.size e k).bind fun v => (evalO P.globals.size e x).bind fun z => (mapUpdateA P h t u v z).map (undef, ·)
  | .insert t m k x => (evalO P.globals.size e m).bind fun u => (evalO P.globals.size e k).bind fun v => (evalO P.globals.size e x).bind fun z => (mapUpdateA P h t u v z).map (undef, ·)
  | .mapEntry t m k => (evalO P.globals.size e m).bind fun u => (evalO P.globals.size e k).bind fun v => mapEntryA P h t u v
  | .entryStore _ m s x => (evalO P.globals.size e m).bind fun u => (evalO P.globals.size e s).bind fun v => (evalO P.globals.size e x).bind fun z => (entryStoreA h u v z).map (undef, ·)
  | .extract t i =>
    match evalO P.globals.size e t with
    | some (.tuple vs) => (vs[i]?).map (·, h)
    | _ => none
  | .call { callee := .builtin b, args, argTypes } => (mapO P.globals.size e args).bind fun vs => builtinA P h id b argTypes vs
  | _ => none

end Go.Ev

/- The evaluator: code, regions in every order at once, rounds of loops over functions, calls. -/
namespace Go.Ev

structure Self where
  code : Option Nat → Code → AAct → AHeap → Option (Out × AAct × AHeap)
  scope : Option Nat → Code → Code → AAct → AHeap → Option (Out × AAct × AHeap)
  loop : Option Nat → Code → AAct → AHeap → Option (Out × AAct × AHeap)
  call : FuncId → Array Value → AHeap → Option (Value × AHeap)

def AAct.put (a : AAct) (dst : Option Tmp) (v : Value) : Option AAct :=
  match dst with
  | none => some a
  | some d => if d < a.n then some { a with env := a.env.set d v } else none

/-! ### A round of a loop over a function -/

def setParams (e : Tr Value) (n : Nat) : List Tmp → List Value → Option (Tr Value)
  | [], [] => some e
  | t :: ts, v :: vs => if t < n then setParams (e.set t v) n ts vs else none
  | _, _ => none

def jumpOf : Out → Option Code
  | .normal => none
  | .ret => some .ret
  | .exit id => some (.exit id)
  | .goto l => some (.goto l)

def roundA (S : Self) (l : Nat) (args : Array Value) (h : AHeap) : Option (Value × AHeap) :=
  match h.get l with
  | some (.loop L) =>
    match setParams L.env L.n L.params.toList args.toList with
    | some e =>
      match S.code (some l) L.assign ⟨e, L.n, []⟩ h with
      | some (.normal, a1, h1) =>
        match h1.get l with
        | some (.loop L1) =>
          if L1.state = .ready ∧ a1.marks = [] then
            match S.code (some l) L.body a1 (h1.put l (.loop { L1 with state := .busy })) with
            | some (out, a2, h3) =>
              match h3.get l with
              | some (.loop L3) =>
                if a2.marks = [] then
                  some (.bool (jumpOf out).isNone, h3.put l (.loop { L3 with state := if (jumpOf out).isNone then .ready else .done, pending := jumpOf out }))
                else none
              | _ => none
            | none => none
          else none
        | _ => none
      | _ => none
    | none => none
  | _ => none

/-- A call of a function value. -/
def callA (S : Self) (f : Value) (args : Array Value) (h : AHeap) : Option (Value × AHeap) :=
  match f with
  | .func (.func k) first captured => S.call k (first ++ args ++ captured) h
  | .func (.yield l) first captured => if first.size = 0 ∧ captured.size = 0 then roundA S l args h else none
  | _ => none

/-! ### Operations -/

def isCall : Op → Bool
  | .call { callee := .value _, .. } => true
  | _ => false

def operA (P : Program) (S : Self) (id : Nat) (e : Tr Value) (h : AHeap) (o : Oper) : Option (Value × AHeap) :=
  match o.op with
  | .call { callee := .value f, args, .. } => (evalO P.globals.size e f).bind fun g => (mapO P.globals.size e args).bind fun vs => callA S g vs h
  | _ => opA P h id e o

/-- Is an operation wanted? none: that isn't known. -/
def wantedA (ops : Array Oper) (e : Tr Value) (o : Oper) : Option Bool :=
  match o.guard with
  | none => some true
  | some (j, want) =>
    match (ops[j]?).bind (·.dst) with
    | some d =>
      match e.get d with
      | some (.bool b) => some (b == want)
      | some (.tuple _) => some false
      | _ => none
    | none => none

def stepA (P : Program) (S : Self) (base : Nat) (ops : Array Oper) (i : Nat) (a : AAct) (h : AHeap) : Option (AAct × AHeap) :=
  match ops[i]? with
  | none => none
  | some o =>
    match wantedA ops a.env o with
    | some true => (operA P S (base + i) a.env h o).bind fun (v, h') => (a.put o.dst v).map (·, h')
    | some false => (a.put o.dst undef).map (·, h)
    | none => none

def opsA (P : Program) (S : Self) (base : Nat) (ops : Array Oper) : List Nat → AAct → AHeap → Option (AAct × AHeap)
  | [], a, h => some (a, h)
  | i :: rest, a, h =>
    match stepA P S base ops i a h with
    | some (a', h') => opsA P S base ops rest a' h'
    | none => none

/-! ### A region whose order is drawn -/

def isEff : Op → Bool
  | .store .. | .mapUpdate .. | .insert .. | .mapEntry .. | .entryStore .. => true
  | .call { callee := .builtin b, .. } => match b with | .len | .min | .max => false | _ => true
  | .call _ => true
  | _ => false

def readsH : Op → Bool
  | .load .. | .lookup .. | .slice .. | .convert .. => true
  | .binOp .eql .. | .binOp .neq .. => true
  | .call { callee := .builtin .len, .. } => true
  | _ => false

/-- The operations that lay a block. -/
def isNew : Op → Bool
  | .alloc _ | .box .. | .buildSlice .. | .makeMap .. | .makeSlice .. => true
  | _ => false

/-- The slots that an operation looks at. -/
def readsT (ops : Array Oper) (o : Oper) : List Tmp :=
  (o.op.operands.toList.filterMap fun | .tmp t => some t | _ => none) ++ (match o.guard with | some (j, _) => (((ops[j]?).bind (·.dst)).toList) | none => [])

/-- Who must have been done before whom: a number for each operation, whose digits are the others. -/
def maskOf (ms : List Nat) (o : Oper) : Nat := o.after.toList.foldl (fun acc e => if Region.binds .any e then acc ||| (2 ^ e.on ||| ms.getD e.on 0) else acc) 0
def masksGo : List Oper → List Nat → List Nat
  | [], ms => ms
  | o :: os, ms => masksGo os (ms ++ [maskOf ms o])
def masks (ops : Array Oper) : List Nat := masksGo ops.toList []
def bit (ms : List Nat) (i k : Nat) : Bool := (ms.getD i 0).testBit k

/-- How many of the first effects an operation stands behind. -/
def leads (ms : List Nat) (i : Nat) : List Nat → Nat
  | [] => 0
  | e :: es => if bit ms i e then leads ms i es + 1 else 0

/-- The order in which the evaluator goes: each operation that only computes as late as may be; beside it, how many of the last heaps it must be looked at in. -/
def planGo (ms : List Nat) : List Nat → List Nat → List Nat → List (Nat × Nat)
  | [], calm, es => calm.map fun i => (i, es.length + 1 - leads ms i es)
  | k :: ks, calm, es => ((calm.filter fun i => bit ms k i).map fun i => (i, es.length + 1 - leads ms i es)) ++ (k, 0) :: planGo ms ks (calm.filter fun i => !bit ms k i) (es ++ [k])

def prefOk (ops : Array Oper) (ms : List Nat) : List Nat → List Nat → List (Nat × Nat) → Bool
  | _, _, [] => true
  | pre, es, (i, m) :: rest =>
    match ops[i]? with
    | none => false
    | some o =>
      !pre.contains i && o.after.toList.all (fun e => !Region.binds .any e || pre.contains e.on) &&
      (if isEff o.op then pre.all (bit ms i) else Nat.ble 1 m && (es.take (es.length + 1 - m)).all (bit ms i)) &&
      prefOk ops ms (i :: pre) (if isEff o.op then es ++ [i] else es) rest

def slotsOk (ops : Array Oper) (ms : List Nat) : Bool :=
  (List.range ops.size).all fun i => (List.range ops.size).all fun k => i == k ||
    match ops[i]?, ops[k]? with
    | some oi, some ok =>
      match ok.dst with
      | none => true
      | some d => oi.dst != some d && (!(readsT ops oi).contains d || bit ms i k || bit ms k i)
    | _, _ => false

def planOk (ops : Array Oper) (ms : List Nat) (pl : List (Nat × Nat)) : Bool :=
  prefOk ops ms [] [] pl && slotsOk ops ms && (List.range ops.size).all fun i => (pl.map (·.1)).contains i

def planOf (ops : Array Oper) : Option (List (Nat × Nat)) :=
  let ms := masks ops
  let effs := (List.range ops.size).filter fun i => isEff (ops.getD i default).op
  let calm := (List.range ops.size).filter fun i => !isEff (ops.getD i default).op
  let pl := planGo ms effs calm []
  if planOk ops ms pl then some pl else none

def sameV : Nat → Value → Value → Bool
  | _, .bool a, .bool b => a == b
  | _, .int j a, .int k b => j == k && a == b
  | _, .string a, .string b => a.data == b.data
  | _, .pointer a, .pointer b => a == b
  | _, .slice a l c, .slice b m d => a == b && l == m && c == d
  | _, .map a, .map b => a == b
  | _, .nilFunc, .nilFunc => true
  | _, .nilIface, .nilIface => true
  | n + 1, .func f a c, .func g b d => f == g && a.size == b.size && c.size == d.size
      && (a.toList.zip b.toList).all (fun (x, y) => sameV n x y) && (c.toList.zip d.toList).all (fun (x, y) => sameV n x y)
  | n + 1, .agg a, .agg b => a.size == b.size && (a.toList.zip b.toList).all fun (x, y) => sameV n x y
  | n + 1, .tuple a, .tuple b => a.size == b.size && (a.toList.zip b.toList).all fun (x, y) => sameV n x y
  | _, _, _ => false

/-- May an operation that looks at memory have been done earlier? -/
def calmOk (P : Program) (base : Nat) (ops : Array Oper) (o : Oper) (i m : Nat) (snaps : List AHeap) (a a' : AAct) : Bool :=
  !readsH o.op ||
  match wantedA ops a.env o with
  | some true => (snaps.take m).all fun H =>
    match opA P H (base + i) a.env o, (o.dst).bind a'.env.get with
    | some (u, _), some v => sameV 3 u v
    | _, _ => false
  | _ => true

/-- No number of an operation behind has been given away. -/
def lateOk (base : Nat) (ops : Array Oper) (rest : List (Nat × Nat)) (h : AHeap) : Bool :=
  rest.all fun p => isEff (ops.getD p.1 default).op || !isNew (ops.getD p.1 default).op || (h.get (base + p.1)).isNone

def planA (P : Program) (S : Self) (base : Nat) (ops : Array Oper) : List (Nat × Nat) → List AHeap → AAct → AHeap → Option (AAct × AHeap)
  | [], _, a, h => some (a, h)
  | (i, m) :: rest, snaps, a, h =>
    match ops[i]? with
    | none => none
    | some o =>
      match stepA P S base ops i a h with
      | none => none
      | some (a', h') =>
        if isEff o.op then
          if lateOk base ops rest h' then planA P S base ops rest (h' :: snaps) a' h' else none
        else if calmOk P base ops o i m snaps a a' then planA P S base ops rest snaps a' h' else none

def regionA (P : Program) (S : Self) (ops : Array Oper) (draw : Bool) (a : AAct) (h : AHeap) : Option (AAct × AHeap) :=
  let h0 : AHeap := { h with next := h.next + ops.size }
  if draw then
    match planOf ops with
    | some pl => if P.follows .mixedOrders then planA P S h.next ops pl [h0] a h0 else none
    | none => none
  else opsA P S h.next ops (List.range ops.size) a h0

/-! ### Code -/

def thenA (r : Option (Out × AAct × AHeap)) (k : AAct → AHeap → Option (Out × AAct × AHeap)) : Option (Out × AAct × AHeap) :=
  match r with
  | some (.normal, a, h) => k a h
  | r => r

/-- The block for a loop's deferred calls: its number, the heap with it, the marks with it. -/
def enterA (rd : Option Nat) (h : AHeap) (marks : List Nat) : Option (Nat × AHeap × List Nat) :=
  match rd with
  | none => (h.new (h.next + 1) .marks).map fun h1 => (h.next + 1, { h1 with next := h.next + 2 }, (h.next + 1) :: marks)
  | some l0 =>
    match h.get l0 with
    | some (.loop L0) => some (L0.defers, { h with next := h.next + 1 }, marks)
    | _ => none

/-- The loop over a function: the record (and, at an outermost one, the block of its mark) is laid, the function called, the pending jump taken up. -/
def rangeA (P : Program) (S : Self) (rd : Option Nat) (g : Operand) (ps : Array Tmp) (assign body : Code) (a : AAct) (h : AHeap) : Option (Out × AAct × AHeap) :=
  match evalO P.globals.size a.env g with
  | some (.func (.func f) first captured) =>
    match enterA rd h a.marks with
    | some (D, h1, marks) =>
      match h1.new h.next (.loop { state := .ready, pending := none, env := a.env, n := a.n, params := ps, assign, body, defers := D }) with
      | none => none
      | some h2 =>
      match S.call f (first ++ #[.func (.yield h.next) #[] #[]] ++ captured) h2 with
      | some (_, h3) =>
        match h3.get h.next with
        | some (.loop L) =>
          if L.state = .busy then none else
          let h4 := h3.put h.next (.loop { L with state := .exhausted })
          match L.pending with
          | none => some (.normal, { a with marks }, h4)
          | some c => S.code rd c { a with marks } h4
        | _ => none
      | none => none
    | none => none
  | _ => none

def codeA (P : Program) (S : Self) (rd : Option Nat) (c : Code) (a : AAct) (h : AHeap) : Option (Out × AAct × AHeap) :=
  match c with
  | .skip => some (.normal, a, h)
  | .label _ => some (.normal, a, h)
  | .ret => some (.ret, a, h)
  | .exit id => some (.exit id, a, h)
  | .goto l => some (.goto l, a, h)
  | .seq x y => thenA (S.code rd x a h) (S.code rd y)
  | .cond o x y =>
    match evalO P.globals.size a.env o with
    | some (.bool true) => S.code rd x a h
    | some (.bool false) => S.code rd y a h
    | _ => none
  | .block id x =>
    match S.code rd x a h with
    | some (.exit id', a', h') => if id' = id then some (.normal, a', h') else some (.exit id', a', h')
    | r => r
  | .loop x => S.loop rd x a h
  | .scope x => S.scope rd x x a h
  | .region _ ops draw => (regionA P S ops draw a h).map fun (a', h') => (.normal, a', h')
  | .rangeFunc g ps assign body => rangeA P S rd g ps assign body a h
  | .refuse _ => none

/-- A loop's round, and all behind it. -/
def loopA (S : Self) (rd : Option Nat) (x : Code) (a : AAct) (h : AHeap) : Option (Out × AAct × AHeap) := thenA (S.code rd x a h) (S.loop rd x)

/-- A scope of labels, from one place in it on. -/
def scopeA (S : Self) (rd : Option Nat) (body c : Code) (a : AAct) (h : AHeap) : Option (Out × AAct × AHeap) :=
  match S.code rd c a h with
  | some (.goto l, a', h') =>
    match findLabel body l with
    | some rest => S.scope rd body rest a' h'
    | none => some (.goto l, a', h')
  | r => r

def argsEnv : List Value → Nat → Tr Value → Tr Value
  | [], _, e => e
  | v :: vs, i, e => argsEnv vs (i + 1) (e.set i v)

def resultA (P : Program) (e : Tr Value) (h : AHeap) : ResultVar → Option Value
  | .tmp t => e.get t
  | .cell a t => (e.get a).bind fun v => loadA P h t v

def resultsA (P : Program) (fn : Func) (e : Tr Value) (h : AHeap) : Option Value :=
  match fn.results.toList.mapM (resultA P e h) with
  | some [v] => some v
  | some vs => some (.tuple vs.toArray)
  | none => none

def shutA : List Nat → AHeap → Option AHeap
  | [], h => some h
  | D :: ds, h =>
    match h.get D with
    | some .marks => shutA ds (h.put D .dead)
    | _ => none

def callFA (P : Program) (S : Self) (f : FuncId) (args : Array Value) (h : AHeap) : Option (Value × AHeap) :=
  match P.funcs[f]? with
  | some fn =>
    match fn.body with
    | some c =>
      if fn.name = "runtime.NumGoroutine" then none
      else if args.size ≤ fn.ntmps then
        match S.code none c ⟨argsEnv args.toList 0 .leaf, fn.ntmps, []⟩ h with
        | some (.normal, a, h1) => (shutA a.marks h1).bind fun h2 => (resultsA P fn a.env h2).map (·, h2)
        | some (.ret, a, h1) => (shutA a.marks h1).bind fun h2 => (resultsA P fn a.env h2).map (·, h2)
        | _ => none
      else none
    | none => none
  | none => none

def stepS (P : Program) (S : Self) : Self := { code := codeA P S, scope := scopeA S, loop := loopA S, call := callFA P S }

def ev (P : Program) : Nat → Self
  | 0 => { code := fun _ _ _ _ => none, scope := fun _ _ _ _ _ => none, loop := fun _ _ _ _ => none, call := fun _ _ _ => none }
  | k + 1 => stepS P (ev P k)

end Go.Ev

/- How the evaluator's heap stands to the model's world. -/
namespace Go.Ev

/-! ### Maps from numbers -/
namespace Tr
variable {α : Type}

theorem get_leaf (n : Nat) : (leaf : Tr α).get n = none := by cases n <;> rfl

theorem get_setF (k : Nat) : ∀ (t : Tr α) (n : Nat) (x : α), n < k → ∀ m, (setF k t n x).get m = if m = n then some x else t.get m := by
  induction k with
  | zero => intro t n x h; omega
  | succ k ih =>
    intro t n x h m
    cases t with
    | leaf =>
      cases n with
      | zero => cases m <;> simp [setF, get]
      | succ n =>
        simp only [setF]
        split
        · cases m with
          | zero => simp [get]
          | succ m =>
            simp only [get]
            split
            · rw [ih _ _ _ (by omega)]
              simp only [get_leaf]
              by_cases e : m = n
              · subst e; simp
              · rw [if_neg (by omega), if_neg (by omega)]
            · rw [if_neg (by omega)]
        · cases m with
          | zero => simp [get]
          | succ m =>
            simp only [get]
            split
            · rw [if_neg (by omega)]
            · rw [ih _ _ _ (by omega)]
              simp only [get_leaf]
              by_cases e : m = n
              · subst e; simp
              · rw [if_neg (by omega), if_neg (by omega)]
    | node l u r =>
      cases n with
      | zero => cases m <;> simp [setF, get]
      | succ n =>
        simp only [setF]
        split
        · cases m with
          | zero => simp [get]
          | succ m =>
            simp only [get]
            split
            · rw [ih _ _ _ (by omega)]
              by_cases e : m = n
              · subst e; simp
              · rw [if_neg (by omega), if_neg (by omega)]
            · rw [if_neg (by omega)]
        · cases m with
          | zero => simp [get]
          | succ m =>
            simp only [get]
            split
            · rw [if_neg (by omega)]
            · rw [ih _ _ _ (by omega)]
              by_cases e : m = n
              · subst e; simp
              · rw [if_neg (by omega), if_neg (by omega)]

theorem get_set (t : Tr α) (n m : Nat) (x : α) : (t.set n x).get m = if m = n then some x else t.get m := get_setF (n + 1) t n x (by omega) m
theorem get_set_self (t : Tr α) (n : Nat) (x : α) : (t.set n x).get n = some x := by rw [get_set, if_pos rfl]
theorem get_set_ne (t : Tr α) {n m : Nat} (x : α) (h : m ≠ n) : (t.set n x).get m = t.get m := by rw [get_set, if_neg h]

/-- No branch is empty. -/
def full : Tr α → Bool
  | leaf => true
  | node l u r => l.full && r.full && (u.isSome || (match l with | leaf => false | _ => true) || (match r with | leaf => false | _ => true))

theorem full_some : ∀ (t : Tr α), t.full = true → t ≠ leaf → ∃ n x, t.get n = some x
  | leaf, _, h => (h rfl).elim
  | node l u r, hf, _ => by
    simp only [full, Bool.and_eq_true, Bool.or_eq_true] at hf
    obtain ⟨⟨hl, hr⟩, h⟩ := hf
    rcases h with (h | h) | h
    · obtain ⟨x, rfl⟩ := Option.isSome_iff_exists.1 h; exact ⟨0, x, rfl⟩
    · obtain ⟨n, x, hx⟩ := full_some l hl (by rintro rfl; simp at h)
      exact ⟨2 * n + 1, x, by simp only [get]; rw [if_pos (by omega), show 2 * n / 2 = n from by omega]; exact hx⟩
    · obtain ⟨n, x, hx⟩ := full_some r hr (by rintro rfl; simp at h)
      exact ⟨2 * n + 1 + 1, x, by simp only [get]; rw [if_neg (by omega), show (2 * n + 1) / 2 = n from by omega]; exact hx⟩

theorem ext_full : ∀ (t t' : Tr α), t.full = true → t'.full = true → (∀ n, t.get n = t'.get n) → t = t'
  | leaf, leaf, _, _, _ => rfl
  | leaf, node l u r, _, h', h => by
    obtain ⟨n, x, hx⟩ := full_some _ h' (by simp)
    have := h n; rw [hx, get_leaf] at this; cases this
  | node l u r, leaf, h', _, h => by
    obtain ⟨n, x, hx⟩ := full_some _ h' (by simp)
    have := h n; rw [hx, get_leaf] at this; cases this
  | node l u r, node l' u' r', hf, hf', h => by
    simp only [full, Bool.and_eq_true] at hf hf'
    have e0 : u = u' := h 0
    have el : l = l' := ext_full l l' hf.1.1 hf'.1.1 fun n => by
      have := h (2 * n + 1); simp only [get] at this
      rw [if_pos (by omega), if_pos (by omega), show 2 * n / 2 = n from by omega] at this; exact this
    have er : r = r' := ext_full r r' hf.1.2 hf'.1.2 fun n => by
      have := h (2 * n + 1 + 1); simp only [get] at this
      rw [if_neg (by omega), if_neg (by omega), show (2 * n + 1) / 2 = n from by omega] at this; exact this
    rw [e0, el, er]

theorem setF_ne_leaf (k : Nat) (t : Tr α) (n : Nat) (x : α) (h : n < k) : setF k t n x ≠ leaf := by
  cases k with
  | zero => omega
  | succ k => cases t <;> cases n <;> simp only [setF] <;> (try split) <;> simp

theorem full_setF (k : Nat) : ∀ (t : Tr α) (n : Nat) (x : α), n < k → t.full = true → (setF k t n x).full = true := by
  induction k with
  | zero => intro t n x h; omega
  | succ k ih =>
    intro t n x h hf
    have nl : ∀ (s : Tr α) m, m < k → (match setF k s m x with | leaf => false | _ => true) = true := fun s m hm => by
      have := setF_ne_leaf k s m x hm
      cases hs : setF k s m x with
      | leaf => exact (this hs).elim
      | node => rfl
    cases t with
    | leaf =>
      cases n with
      | zero => simp [setF, full]
      | succ n =>
        simp only [setF]
        split
        · simp [full, ih leaf (n / 2) x (by omega) rfl, nl leaf (n / 2) (by omega)]
        · simp [full, ih leaf (n / 2) x (by omega) rfl, nl leaf (n / 2) (by omega)]
    | node l u r =>
      simp only [full, Bool.and_eq_true] at hf
      cases n with
      | zero => simp [setF, full, hf.1.1, hf.1.2]
      | succ n =>
        simp only [setF]
        split
        · simp [full, ih l (n / 2) x (by omega) hf.1.1, nl l (n / 2) (by omega), hf.1.2]
        · simp [full, ih r (n / 2) x (by omega) hf.1.2, nl r (n / 2) (by omega), hf.1.1]

theorem full_set (t : Tr α) (n : Nat) (x : α) (h : t.full = true) : (t.set n x).full = true := full_setF (n + 1) t n x (by omega) h

end Tr

theorem AHeap.get_put (h : AHeap) (b c : Nat) (o : AObj) : (h.put b o).get c = if c = b then some o else h.get c := Tr.get_set _ _ _ _
theorem AHeap.get_put_self (h : AHeap) (b : Nat) (o : AObj) : (h.put b o).get b = some o := by rw [get_put, if_pos rfl]
theorem AHeap.get_put_ne (h : AHeap) {b c : Nat} (o : AObj) (hc : c ≠ b) : (h.put b o).get c = h.get c := by rw [get_put, if_neg hc]
@[simp] theorem AHeap.next_put (h : AHeap) (b : Nat) (o : AObj) : (h.put b o).next = h.next := rfl

/-! ### Where a block of the evaluator's lies in the model's heap -/

structure Img where
  blk : Nat
  d : Nat
  lim : Nat
  sz : Nat
  exact : Bool

abbrev Mu := Nat → Option Img

def Mu.le (μ μ' : Mu) : Prop := ∀ b i, μ b = some i → μ' b = some i
theorem Mu.le_refl (μ : Mu) : μ.le μ := fun _ _ h => h
theorem Mu.le_trans {a b c : Mu} (h : a.le b) (k : b.le c) : a.le c := fun x i hx => k x i (h x i hx)

/-! ### Values -/
mutual
inductive VRel (μ : Mu) : Value → Value → Prop where
  | bool (b : Bool) : VRel μ (.bool b) (.bool b)
  | int (k : IntKind) (n : Int) : VRel μ (.int k n) (.int k n)
  | string (s : ByteArray) : VRel μ (.string s) (.string s)
  | nilFunc : VRel μ .nilFunc .nilFunc
  | nilIface : VRel μ .nilIface .nilIface
  | nilPtr : VRel μ (.pointer none) (.pointer none)
  | ptr {b o : Nat} {i : Img} (h : μ b = some i) : VRel μ (.pointer (some ⟨b, o, none⟩)) (.pointer (some ⟨i.blk, o + i.d, none⟩))
  | nilSlice : VRel μ (.slice none 0 0) (.slice none 0 0)
  | slice {b o l c c' : Nat} {i : Img} (h : μ b = some i) (hc : c ≤ c') (he : i.exact = true → c' = c) (hv : c' = c ∨ o + c' * i.sz ≤ i.lim) :
      VRel μ (.slice (some ⟨b, o, none⟩) l c) (.slice (some ⟨i.blk, o + i.d, none⟩) l c')
  | empty {b o s : Nat} {a : Addr} {c : Nat} : VRel μ (.slice (some ⟨b, o, some s⟩) 0 0) (.slice (some a) 0 c)
  | nilMap : VRel μ (.map none) (.map none)
  | junk {v' : Value} (h : oneCell v' = true) : VRel μ (.chan (some 0)) v'
  | map {r : Nat} {i : Img} (h : μ r = some i) : VRel μ (.map (some r)) (.map (some i.blk))
  | func (f : FuncId) {a a' c c' : Array Value} (ha : VsRel μ a.toList a'.toList) (hc : VsRel μ c.toList c'.toList) : VRel μ (.func (.func f) a c) (.func (.func f) a' c')
  | yield {l : Nat} {i : Img} (h : μ l = some i) {a a' c c' : Array Value} (ha : VsRel μ a.toList a'.toList) (hc : VsRel μ c.toList c'.toList) :
      VRel μ (.func (.yield l) a c) (.func (.yield i.blk) a' c')
  | agg {a a' : Array Value} (h : VsRel μ a.toList a'.toList) : VRel μ (.agg a) (.agg a')
  | tuple {a a' : Array Value} (h : VsRel μ a.toList a'.toList) : VRel μ (.tuple a) (.tuple a')
inductive VsRel (μ : Mu) : List Value → List Value → Prop where
  | nil : VsRel μ [] []
  | cons {v v' : Value} {vs vs' : List Value} (h : VRel μ v v') (hs : VsRel μ vs vs') : VsRel μ (v :: vs) (v' :: vs')
end

mutual
theorem VRel.mono {μ μ' : Mu} (hμ : μ.le μ') : ∀ {v v' : Value}, VRel μ v v' → VRel μ' v v'
  | _, _, .bool b => .bool b
  | _, _, .int k n => .int k n
  | _, _, .string s => .string s
  | _, _, .nilFunc => .nilFunc
  | _, _, .nilIface => .nilIface
  | _, _, .nilPtr => .nilPtr
  | _, _, .ptr h => .ptr (hμ _ _ h)
  | _, _, .nilSlice => .nilSlice
  | _, _, .slice h hc he hv => .slice (hμ _ _ h) hc he hv
  | _, _, .empty => .empty
  | _, _, .nilMap => .nilMap
  | _, _, .junk h => .junk h
  | _, _, .map h => .map (hμ _ _ h)
  | _, _, .func f ha hc => .func f (VsRel.mono hμ ha) (VsRel.mono hμ hc)
  | _, _, .yield h ha hc => .yield (hμ _ _ h) (VsRel.mono hμ ha) (VsRel.mono hμ hc)
  | _, _, .agg h => .agg (VsRel.mono hμ h)
  | _, _, .tuple h => .tuple (VsRel.mono hμ h)
theorem VsRel.mono {μ μ' : Mu} (hμ : μ.le μ') : ∀ {v v' : List Value}, VsRel μ v v' → VsRel μ' v v'
  | _, _, .nil => .nil
  | _, _, .cons h hs => .cons (VRel.mono hμ h) (VsRel.mono hμ hs)
end

section lists
variable {μ : Mu}

theorem VsRel.length : ∀ {a b : List Value}, VsRel μ a b → a.length = b.length
  | _, _, .nil => rfl
  | _, _, .cons _ hs => by simp [VsRel.length hs]

theorem VsRel.get : ∀ {a b : List Value}, VsRel μ a b → ∀ (i : Nat) (v : Value), a[i]? = some v → ∃ v', b[i]? = some v' ∧ VRel μ v v'
  | _, _, .nil, i, v, h => by simp at h
  | _, _, .cons h hs, i, v, hi => by
    cases i with
    | zero => simp at hi; subst hi; exact ⟨_, rfl, h⟩
    | succ i => simp at hi; simpa using VsRel.get hs i v hi

theorem VsRel.of_get : ∀ {a b : List Value}, a.length = b.length → (∀ (i : Nat) (v : Value), a[i]? = some v → ∃ v', b[i]? = some v' ∧ VRel μ v v') → VsRel μ a b
  | [], [], _, _ => .nil
  | [], _ :: _, h, _ => by simp at h
  | _ :: _, [], h, _ => by simp at h
  | x :: xs, y :: ys, h, hg => by
    obtain ⟨v', hv, hr⟩ := hg 0 x rfl
    simp at hv; subst hv
    exact .cons hr (VsRel.of_get (by simpa using h) fun i v hi => by simpa using hg (i + 1) v (by simpa using hi))

theorem VsRel.append {a b c d : List Value} (h : VsRel μ a b) (k : VsRel μ c d) : VsRel μ (a ++ c) (b ++ d) := by
  induction a generalizing b with
  | nil => cases h; exact k
  | cons x xs ih => cases h with | cons h hs => exact .cons h (ih hs)

theorem VsRel.take : ∀ {a b : List Value} (n : Nat), VsRel μ a b → VsRel μ (a.take n) (b.take n)
  | _, _, 0, _ => by simpa using VsRel.nil
  | _, _, _ + 1, .nil => .nil
  | _, _, n + 1, .cons h hs => .cons h (VsRel.take n hs)

theorem VsRel.drop : ∀ {a b : List Value} (n : Nat), VsRel μ a b → VsRel μ (a.drop n) (b.drop n)
  | _, _, 0, h => by simpa using h
  | _, _, _ + 1, .nil => .nil
  | _, _, n + 1, .cons _ hs => VsRel.drop n hs

theorem VsRel.set : ∀ {a b : List Value} (n : Nat) {x y : Value}, VRel μ x y → VsRel μ a b → VsRel μ (a.set n x) (b.set n y)
  | _, _, _, _, _, _, .nil => .nil
  | _, _, 0, _, _, hx, .cons _ hs => .cons hx hs
  | _, _, n + 1, _, _, hx, .cons h hs => .cons h (VsRel.set n hx hs)

theorem VsRel.map {α : Type} (f g : α → Value) : ∀ (l : List α), (∀ x ∈ l, VRel μ (f x) (g x)) → VsRel μ (l.map f) (l.map g)
  | [], _ => .nil
  | x :: xs, h => .cons (h x (by simp)) (VsRel.map f g xs fun y hy => h y (by simp [hy]))
end lists

/-! ### Values without an address -/

theorem VRel.of_pv1 {μ : Mu} {v : Value} (h : pv1 v = true) : VRel μ v v := by
  cases v with
  | bool b => exact .bool b
  | int k n => exact .int k n
  | string s => exact .string s
  | nilFunc => exact .nilFunc
  | nilIface => exact .nilIface
  | pointer a => cases a with | none => exact .nilPtr | some a => simp [pv1] at h
  | slice a l c =>
    cases a with
    | none => cases l <;> cases c <;> first | exact .nilSlice | simp [pv1] at h
    | some a => simp [pv1] at h
  | map r => cases r with | none => exact .nilMap | some r => simp [pv1] at h
  | _ => simp [pv1] at h

theorem VsRel.of_pv1 {μ : Mu} : ∀ {l : List Value}, l.all pv1 = true → VsRel μ l l
  | [], _ => .nil
  | v :: vs, h => by simp at h; exact .cons (VRel.of_pv1 h.1) (VsRel.of_pv1 (by simpa using h.2))

theorem VRel.of_pv {μ : Mu} {v : Value} (h : pv v = true) : VRel μ v v := by
  cases v with
  | agg cs => exact .agg (VsRel.of_pv1 (by simpa [pv] using h))
  | tuple cs => exact .tuple (VsRel.of_pv1 (by simpa [pv] using h))
  | _ => exact VRel.of_pv1 (by simpa [pv] using h)

theorem VRel.eq_of_qv1 {μ : Mu} {v v' : Value} (h : VRel μ v v') (hq : qv1 v = true) : v' = v := by
  cases h <;> first | rfl | simp [qv1] at hq

theorem VsRel.eq_of_qv1 {μ : Mu} : ∀ {a b : List Value}, VsRel μ a b → a.all qv1 = true → b = a
  | _, _, .nil, _ => rfl
  | _, _, .cons h hs, hq => by
    simp at hq
    rw [VRel.eq_of_qv1 h hq.1, VsRel.eq_of_qv1 hs (by simpa using hq.2)]

theorem VRel.eq_of_qv {μ : Mu} {v v' : Value} (h : VRel μ v v') (hq : qv v = true) : v' = v := by
  cases h with
  | agg h => have := VsRel.eq_of_qv1 h (by simpa [qv] using hq); rw [Array.toList_inj] at this; rw [this]
  | tuple h => simp [qv, qv1] at hq
  | _ => first | rfl | simp [qv, qv1] at hq

theorem VRel.cells {μ : Mu} {v v' : Value} (h : VRel μ v v') : VsRel μ v.cells.toList v'.cells.toList := by
  cases h with
  | agg h => exact h
  | bool b => exact .cons (.bool b) .nil
  | int k n => exact .cons (.int k n) .nil
  | string s => exact .cons (.string s) .nil
  | nilFunc => exact .cons .nilFunc .nil
  | nilIface => exact .cons .nilIface .nil
  | nilPtr => exact .cons .nilPtr .nil
  | ptr h => exact .cons (.ptr h) .nil
  | nilSlice => exact .cons .nilSlice .nil
  | slice h hc he hv => exact .cons (.slice h hc he hv) .nil
  | empty => exact .cons .empty .nil
  | nilMap => exact .cons .nilMap .nil
  | junk h =>
    have e : v'.cells = #[v'] := by cases v' <;> first | rfl | cases h
    rw [e]
    exact .cons (.junk h) .nil
  | map h => exact .cons (.map h) .nil
  | func f ha hc => exact .cons (.func f ha hc) .nil
  | yield h ha hc => exact .cons (.yield h ha hc) .nil
  | tuple h => exact .cons (.tuple h) .nil

theorem VRel.oneCell {μ : Mu} {v v' : Value} (h : VRel μ v v') : oneCell v' = oneCell v := by cases h <;> first | rfl | assumption
theorem VsRel.all_oneCell {μ : Mu} : ∀ {a b : List Value}, VsRel μ a b → a.all Ev.oneCell = true → b.all Ev.oneCell = true
  | _, _, .nil, _ => rfl
  | _, _, .cons h hs, hq => by
    simp only [List.all_cons, Bool.and_eq_true] at hq ⊢
    exact ⟨h.oneCell.trans hq.1, VsRel.all_oneCell hs hq.2⟩

end Go.Ev

/- The relation between the evaluator's heap and the model's world, and how steps keep it. -/
namespace Go.Ev

def mutO : AObj → Bool
  | .cells _ _ ro _ => !ro
  | .map .. | .loop _ | .marks => true
  | .dead => false

def liveO : AObj → Bool
  | .dead => false
  | _ => true

theorem liveO_of_mutO {o : AObj} (h : mutO o = true) : liveO o = true := by cases o <;> simp_all [mutO, liveO]

structure EntRel (μ : Mu) (e e' : MapEntry) : Prop where
  key : e'.key = e.key
  qv : qv e.key = true
  val : VRel μ e.val e'.val
  born : e'.born = e.born

inductive EntsRel (μ : Mu) : List MapEntry → List MapEntry → Prop where
  | nil : EntsRel μ [] []
  | cons {e e' : MapEntry} {es es' : List MapEntry} (h : EntRel μ e e') (hs : EntsRel μ es es') : EntsRel μ (e :: es) (e' :: es')

theorem EntRel.mono {μ μ' : Mu} (hμ : μ.le μ') {e e' : MapEntry} (h : EntRel μ e e') : EntRel μ' e e' := ⟨h.key, h.qv, h.val.mono hμ, h.born⟩
theorem EntsRel.mono {μ μ' : Mu} (hμ : μ.le μ') : ∀ {a b : List MapEntry}, EntsRel μ a b → EntsRel μ' a b
  | _, _, .nil => .nil
  | _, _, .cons h hs => .cons (h.mono hμ) (EntsRel.mono hμ hs)

structure TmpsRel (μ : Mu) (e : Tr Value) (n : Nat) (tmps : Array Value) : Prop where
  size : tmps.size = n
  get : ∀ t v, e.get t = some v → ∃ v', tmps[t]? = some v' ∧ VRel μ v v'

theorem TmpsRel.mono {μ μ' : Mu} (hμ : μ.le μ') {e : Tr Value} {n : Nat} {tmps : Array Value} (h : TmpsRel μ e n tmps) : TmpsRel μ' e n tmps :=
  ⟨h.size, fun t v hv => let ⟨v', a, b⟩ := h.get t v hv; ⟨v', a, b.mono hμ⟩⟩

/-- What an object of the evaluator's is in the model's heap. -/
def ORel (P : Program) (μ : Mu) (o : AObj) (i : Img) (w : World) : Prop :=
  match o with
  | .cells c e ro g => ∃ C fz, w.heap[i.blk]? = some (.cells C e fz) ∧ (ro = false → fz = (0, 0)) ∧ i.d + i.lim = C.size ∧ c.length ≤ i.lim ∧
      (∀ k v, c[k]? = some v → ∃ v', C[i.d + k]? = some v' ∧ VRel μ v v') ∧ (g = false → i.exact = true) ∧ (ro = false ∨ g = true → (P.info? e).map (·.size) = some i.sz)
  | .map es clock => ∃ E, w.heap[i.blk]? = some (.map E clock) ∧ EntsRel μ es E.toList
  | .loop l => ∃ L, w.heap[i.blk]? = some (.loop L) ∧ L.state = l.state ∧ L.pending = l.pending ∧ L.params = l.params ∧ L.assign = l.assign ∧ L.body = l.body ∧
      TmpsRel μ l.env l.n L.tmps ∧ ∃ j, μ l.defers = some j ∧ L.defers = j.blk
  | .marks => w.heap[i.blk]? = some (.deferred (some []))
  | .dead => True

theorem ORel.mono {P : Program} {μ μ' : Mu} (hμ : μ.le μ') {o : AObj} {i : Img} {w : World} (h : ORel P μ o i w) : ORel P μ' o i w := by
  cases o with
  | cells c e ro g =>
    obtain ⟨C, fz, h1, h2, h3, h4, h5, h6, h7⟩ := h
    exact ⟨C, fz, h1, h2, h3, h4, fun k v hv => let ⟨v', a, b⟩ := h5 k v hv; ⟨v', a, b.mono hμ⟩, h6, h7⟩
  | map es clock => obtain ⟨E, h1, h2⟩ := h; exact ⟨E, h1, h2.mono hμ⟩
  | loop l =>
    obtain ⟨L, h1, h2, h3, h4, h5, h6, h7, j, h8, h9⟩ := h
    exact ⟨L, h1, h2, h3, h4, h5, h6, h7.mono hμ, j, hμ _ _ h8, h9⟩
  | marks => exact h
  | dead => trivial

theorem ORel.congr {P : Program} {μ : Mu} {o : AObj} {i : Img} {w w' : World} (h : ORel P μ o i w) (e : w'.heap[i.blk]? = w.heap[i.blk]?) : ORel P μ o i w' := by
  cases o with
  | cells c t ro g => obtain ⟨C, fz, h1, h2⟩ := h; exact ⟨C, fz, e.trans h1, h2⟩
  | map es clock => obtain ⟨E, h1, h2⟩ := h; exact ⟨E, e.trans h1, h2⟩
  | loop l => obtain ⟨L, h1, h2⟩ := h; exact ⟨L, e.trans h1, h2⟩
  | marks => exact Eq.trans e h
  | dead => trivial

theorem ORel.lt {P : Program} {μ : Mu} {o : AObj} {i : Img} {w : World} (h : ORel P μ o i w) (hl : liveO o = true) : i.blk < w.heap.size := by
  have key : ∀ {x : Obj}, w.heap[i.blk]? = some x → i.blk < w.heap.size := fun hx => (Array.getElem?_eq_some_iff.1 hx).1
  cases o with
  | cells c t ro g => obtain ⟨C, fz, h1, _⟩ := h; exact key h1
  | map es clock => obtain ⟨E, h1, _⟩ := h; exact key h1
  | loop l => obtain ⟨L, h1, _⟩ := h; exact key h1
  | marks => exact key h
  | dead => simp [liveO] at hl

structure Rel (P : Program) (μ : Mu) (h : AHeap) (w : World) : Prop where
  obj : ∀ b o, h.get b = some o → ∃ i, μ b = some i ∧ ORel P μ o i w
  inj : ∀ b c o o' i j, h.get b = some o → h.get c = some o' → mutO o = true → liveO o' = true → μ b = some i → μ c = some j → i.blk = j.blk → b = c
  glob : ∀ g, g < P.globals.size → ∃ i, μ g = some i ∧ i.blk = g ∧ i.d = 0

/-- What a step of the evaluator's, and the model's beside it, have turned. -/
structure Ste (μ : Mu) (h : AHeap) (w : World) (μ' : Mu) (h' : AHeap) (w' : World) : Prop where
  le : μ.le μ'
  size : w.heap.size ≤ w'.heap.size
  tape : w'.tape = w.tape
  os : w'.os = w.os
  output : w'.output = w.output
  kept : ∀ k, k < w.heap.size → (∀ b o i, h.get b = some o → mutO o = true → μ b = some i → i.blk ≠ k) → w'.heap[k]? = w.heap[k]?
  own : ∀ b o i, h'.get b = some o → liveO o = true → μ' b = some i → i.blk < w.heap.size → ∃ c o' j, h.get c = some o' ∧ liveO o' = true ∧ (mutO o = true → mutO o' = true) ∧ μ c = some j ∧ j.blk = i.blk

theorem Ste.refl (μ : Mu) (h : AHeap) (w : World) : Ste μ h w μ h w :=
  ⟨Mu.le_refl _, Nat.le_refl _, rfl, rfl, rfl, fun _ _ _ => rfl, fun b o i hb hm hi _ => ⟨b, o, i, hb, hm, id, hi, rfl⟩⟩

theorem Ste.trans {μ μ' μ'' : Mu} {h h' h'' : AHeap} {w w' w'' : World} (a : Ste μ h w μ' h' w') (b : Ste μ' h' w' μ'' h'' w'') : Ste μ h w μ'' h'' w'' where
  le := Mu.le_trans a.le b.le
  size := Nat.le_trans a.size b.size
  tape := b.tape.trans a.tape
  os := b.os.trans a.os
  output := b.output.trans a.output
  kept k hk hn := by
    refine (b.kept k (Nat.lt_of_lt_of_le hk a.size) fun x o i hx hm hi e => ?_).trans (a.kept k hk hn)
    obtain ⟨c, o', j, hc, _, hm', hj, hjb⟩ := a.own x o i hx (liveO_of_mutO hm) hi (e ▸ hk)
    exact hn c o' j hc (hm' hm) hj (hjb.trans e)
  own x o i hx hm hi hlt := by
    obtain ⟨c, o', j, hc, hm', hmm, hj, hjb⟩ := b.own x o i hx hm hi (Nat.lt_of_lt_of_le hlt a.size)
    obtain ⟨d, o'', k, hd, hm'', hmm', hk, hkb⟩ := a.own c o' j hc hm' hj (hjb ▸ hlt)
    exact ⟨d, o'', k, hd, hm'', fun h => hmm' (hmm h), hk, hkb.trans hjb⟩

/-- Another count of draws is no other world to the relation. -/
theorem Rel.drew {P : Program} {μ : Mu} {h : AHeap} {w : World} (r : Rel P μ h w) (n : Nat) : Rel P μ h { w with drawn := n } :=
  ⟨fun b o hb => let ⟨i, hi, ho⟩ := r.obj b o hb; ⟨i, hi, ho.congr rfl⟩, r.inj, r.glob⟩
theorem Ste.drew (μ : Mu) (h : AHeap) (w : World) (n : Nat) : Ste μ h w μ h { w with drawn := n } :=
  ⟨Mu.le_refl _, Nat.le_refl _, rfl, rfl, rfl, fun _ _ _ => rfl, fun b o i hb hm hi _ => ⟨b, o, i, hb, hm, id, hi, rfl⟩⟩

/-- The number of the next block is nothing to the relation. -/
theorem Rel.next {P : Program} {μ : Mu} {h : AHeap} {w : World} (r : Rel P μ h w) (n : Nat) : Rel P μ { h with next := n } w := ⟨r.obj, r.inj, r.glob⟩
theorem Ste.next (μ : Mu) (h : AHeap) (w : World) (n : Nat) : Ste μ h w μ { h with next := n } w :=
  ⟨Mu.le_refl _, Nat.le_refl _, rfl, rfl, rfl, fun _ _ _ => rfl, fun b o i hb hm hi _ => ⟨b, o, i, hb, hm, id, hi, rfl⟩⟩

/-- (R1) An object of the call's own is turned. -/
theorem Rel.update {P : Program} {μ : Mu} {h : AHeap} {w w' : World} (r : Rel P μ h w) {b : Nat} {o o' : AObj} {i : Img}
    (hb : h.get b = some o) (hm : mutO o = true) (hi : μ b = some i) (ho' : ORel P μ o' i w')
    (hs : w'.heap.size = w.heap.size) (ht : w'.tape = w.tape) (hos : w'.os = w.os) (hout : w'.output = w.output)
    (hk : ∀ k, k ≠ i.blk → w'.heap[k]? = w.heap[k]?) : Rel P μ (h.put b o') w' ∧ Ste μ h w μ (h.put b o') w' := by
  have oth : ∀ c oc, c ≠ b → h.get c = some oc → ∃ j, μ c = some j ∧ ORel P μ oc j w' := fun c oc hc hg => by
    obtain ⟨j, hj, ho⟩ := r.obj c oc hg
    refine ⟨j, hj, ?_⟩
    by_cases hl : liveO oc = true
    · refine ho.congr (hk _ fun e => hc ?_)
      exact (r.inj b c o oc i j hb hg hm hl hi hj e.symm).symm
    · cases oc <;> simp [liveO] at hl; trivial
  refine ⟨⟨fun c oc hg => ?_, fun c d oc od j k hc hd hmc hld hj hk' e => ?_, r.glob⟩, ⟨Mu.le_refl _, Nat.le_of_eq hs.symm, ht, hos, hout, fun k _ hn => hk k fun e => hn b o i hb hm hi e.symm, fun c oc j hc hmc hj _ => ?_⟩⟩
  · rw [AHeap.get_put] at hg
    split at hg
    · rename_i e; subst e; cases hg; exact ⟨i, hi, ho'⟩
    · rename_i e; exact oth c oc e hg
  · rw [AHeap.get_put] at hc hd
    have key : ∀ x ox, (if x = b then some o' else h.get x) = some ox → liveO ox = true → ∃ oy, h.get x = some oy ∧ liveO oy = true ∧ (mutO ox = true → mutO oy = true) := fun x ox hx hl => by
      split at hx
      · rename_i e; subst e; exact ⟨o, hb, liveO_of_mutO hm, fun _ => hm⟩
      · exact ⟨ox, hx, hl, id⟩
    obtain ⟨oc', h1, _, h3⟩ := key c oc hc (liveO_of_mutO hmc)
    obtain ⟨od', h4, h5, _⟩ := key d od hd hld
    exact r.inj c d oc' od' j k h1 h4 (h3 hmc) h5 hj hk' e
  · rw [AHeap.get_put] at hc
    split at hc
    · rename_i e; subst e; exact ⟨c, o, j, hb, liveO_of_mutO hm, fun _ => hm, hj, rfl⟩
    · exact ⟨c, oc, j, hc, hmc, id, hj, rfl⟩

/-- μ, and where the new block lies. -/
def Mu.add (μ : Mu) (b : Nat) (i : Img) : Mu := fun c => if c = b then some i else μ c
theorem Mu.add_self (μ : Mu) (b : Nat) (i : Img) : μ.add b i b = some i := by simp [Mu.add]
/-- Nothing but id has been placed. -/
def Fr (μ μ' : Mu) (id : Nat) : Prop := ∀ b, b ≠ id → μ b = none → μ' b = none
theorem Fr.refl (μ : Mu) (id : Nat) : Fr μ μ id := fun _ _ h => h
theorem Fr.add (μ : Mu) (id : Nat) (i : Img) : Fr μ (μ.add id i) id := fun b hb h => by unfold Mu.add; rw [if_neg hb]; exact h
theorem Mu.le_add {μ : Mu} {b : Nat} (i : Img) (h : μ b = none) : μ.le (μ.add b i) := fun c j hc => by
  unfold Mu.add
  split
  · rename_i e; subst e; rw [h] at hc; cases hc
  · exact hc

/-- (R2) A new object, in a block that is new too. -/
theorem Rel.grow {P : Program} {μ : Mu} {h h' : AHeap} {w w' : World} (r : Rel P μ h w) {b : Nat} (hμ : μ b = none) {o : AObj} {i : Img} (hn : h.new b o = some h')
    (hbl : w.heap.size ≤ i.blk) (ho : ORel P (μ.add b i) o i w')
    (hs : w.heap.size ≤ w'.heap.size) (ht : w'.tape = w.tape) (hos : w'.os = w.os) (hout : w'.output = w.output)
    (hk : ∀ k, k < w.heap.size → w'.heap[k]? = w.heap[k]?) : Rel P (μ.add b i) h' w' ∧ Ste μ h w (μ.add b i) h' w' := by
  unfold AHeap.new at hn
  split at hn
  · rename_i hbn
    obtain rfl := Option.some.inj hn
    have hle := Mu.le_add i hμ
    have old : ∀ c oc, c ≠ b → h.get c = some oc → ∃ j, μ c = some j ∧ μ.add b i c = some j ∧ ORel P μ oc j w ∧ (liveO oc = true → j.blk < w.heap.size) := fun c oc hc hg => by
      obtain ⟨j, hj, hoj⟩ := r.obj c oc hg
      exact ⟨j, hj, hle _ _ hj, hoj, fun hl => hoj.lt hl⟩
    refine ⟨⟨fun c oc hg => ?_, fun c d oc od j k hc hd hmc hld hj hk' e => ?_, fun g hg => ?_⟩, ⟨hle, hs, ht, hos, hout, fun k hk' _ => hk k hk', fun c oc j hc hmc hj hlt => ?_⟩⟩
    · rw [AHeap.get_put] at hg
      split at hg
      · rename_i e; subst e; cases hg; exact ⟨i, Mu.add_self _ _ _, ho⟩
      · rename_i e
        obtain ⟨j, hj, hj', hoj, hlt⟩ := old c oc e hg
        refine ⟨j, hj', ?_⟩
        by_cases hl : liveO oc = true
        · exact (hoj.mono hle).congr (hk _ (hlt hl))
        · cases oc <;> simp [liveO] at hl; trivial
    · rw [AHeap.get_put] at hc hd
      by_cases ec : c = b
      · by_cases ed : d = b
        · rw [ec, ed]
        · rw [if_neg ed] at hd
          obtain ⟨k2, _, hk2, _, hlt⟩ := old d od ed hd
          rw [hk2] at hk'; cases hk'
          subst ec
          rw [Mu.add_self] at hj; cases hj
          have := hlt hld
          omega
      · rw [if_neg ec] at hc
        obtain ⟨j2, hj1, hj2, _, hltc⟩ := old c oc ec hc
        rw [hj2] at hj; cases hj
        by_cases ed : d = b
        · subst ed
          rw [Mu.add_self] at hk'; cases hk'
          have := hltc (liveO_of_mutO hmc)
          omega
        · rw [if_neg ed] at hd
          obtain ⟨k2, hk1, hk2, _, _⟩ := old d od ed hd
          rw [hk2] at hk'; cases hk'
          exact r.inj c d oc od j k hc hd hmc hld hj1 hk1 e
    · obtain ⟨j, h1, h2⟩ := r.glob g hg
      exact ⟨j, hle _ _ h1, h2⟩
    · rw [AHeap.get_put] at hc
      by_cases ec : c = b
      · subst ec; rw [Mu.add_self] at hj; cases hj; omega
      · rw [if_neg ec] at hc
        obtain ⟨j2, hj1, hj2, _, _⟩ := old c oc ec hc
        rw [hj2] at hj; cases hj
        exact ⟨c, oc, j, hc, hmc, id, hj1, rfl⟩
  · cases hn

/-- (R3) A row moves: its old number is dead, the new one lies in the same block. -/
theorem Rel.move {P : Program} {μ : Mu} {h h' : AHeap} {w w' : World} (r : Rel P μ h w) {b id : Nat} (hμ : μ id = none) {o o' : AObj} {i i' : Img}
    (hb : h.get b = some o) (hm : mutO o = true) (hi : μ b = some i) (hn : (h.put b .dead).new id o' = some h') (hbl : i'.blk = i.blk)
    (ho : ORel P (μ.add id i') o' i' w')
    (hs : w'.heap.size = w.heap.size) (ht : w'.tape = w.tape) (hos : w'.os = w.os) (hout : w'.output = w.output)
    (hk : ∀ k, k ≠ i.blk → w'.heap[k]? = w.heap[k]?) : Rel P (μ.add id i') h' w' ∧ Ste μ h w (μ.add id i') h' w' := by
  unfold AHeap.new at hn
  split at hn
  · rename_i hbn
    obtain rfl := Option.some.inj hn
    rw [AHeap.get_put] at hbn
    have hne : id ≠ b := fun e => by rw [if_pos e] at hbn; cases hbn
    rw [if_neg hne] at hbn
    have hle := Mu.le_add i' hμ
    have hgp : ∀ c, ((h.put b .dead).put id o').get c = if c = id then some o' else if c = b then some .dead else h.get c := fun c => by
      rw [AHeap.get_put, AHeap.get_put]
    have old : ∀ c oc, c ≠ b → h.get c = some oc → ∃ j, μ c = some j ∧ μ.add id i' c = some j ∧ ORel P μ oc j w' ∧ (liveO oc = true → j.blk ≠ i.blk) := fun c oc hc hg => by
      obtain ⟨j, hj, hoj⟩ := r.obj c oc hg
      have hd : liveO oc = true → j.blk ≠ i.blk := fun hl e => hc (r.inj b c o oc i j hb hg hm hl hi hj e.symm).symm
      refine ⟨j, hj, hle _ _ hj, ?_, hd⟩
      by_cases hl : liveO oc = true
      · exact hoj.congr (hk _ (hd hl))
      · cases oc <;> simp [liveO] at hl; trivial
    refine ⟨⟨fun c oc hg => ?_, fun c d oc od j k hc hd hmc hld hj hk' e => ?_, fun g hg => ?_⟩, ⟨hle, Nat.le_of_eq hs.symm, ht, hos, hout, fun k _ hn => hk k fun e => hn b o i hb hm hi e.symm, fun c oc j hc hmc hj hlt => ?_⟩⟩
    · rw [hgp] at hg
      by_cases e1 : c = id
      · subst e1; rw [if_pos rfl] at hg; cases hg; exact ⟨i', Mu.add_self _ _ _, ho⟩
      · rw [if_neg e1] at hg
        by_cases e2 : c = b
        · subst e2; rw [if_pos rfl] at hg; cases hg; exact ⟨i, hle _ _ hi, trivial⟩
        · rw [if_neg e2] at hg
          obtain ⟨j, _, hj', hoj, _⟩ := old c oc e2 hg
          exact ⟨j, hj', hoj.mono hle⟩
    · rw [hgp] at hc hd
      have cases' : ∀ x ox, (if x = id then some o' else if x = b then some .dead else h.get x) = some ox → liveO ox = true → x = id ∨ (x ≠ id ∧ x ≠ b ∧ h.get x = some ox) := fun x ox hx hl => by
        by_cases e1 : x = id
        · exact .inl e1
        · rw [if_neg e1] at hx
          by_cases e2 : x = b
          · rw [if_pos e2] at hx; cases hx; simp [liveO] at hl
          · rw [if_neg e2] at hx; exact .inr ⟨e1, e2, hx⟩
      rcases cases' c oc hc (liveO_of_mutO hmc) with e1 | ⟨c1, c2, c3⟩
      · rcases cases' d od hd hld with e2 | ⟨d1, d2, d3⟩
        · rw [e1, e2]
        · obtain ⟨k2, _, hk2, _, hne2⟩ := old d od d2 d3
          rw [hk2] at hk'; cases hk'
          subst e1; rw [Mu.add_self] at hj; cases hj
          exact (hne2 hld (e.symm.trans hbl)).elim
      · obtain ⟨j2, hj1, hj2, _, hne1⟩ := old c oc c2 c3
        rw [hj2] at hj; cases hj
        rcases cases' d od hd hld with e2 | ⟨d1, d2, d3⟩
        · subst e2; rw [Mu.add_self] at hk'; cases hk'
          exact (hne1 (liveO_of_mutO hmc) (e.trans hbl)).elim
        · obtain ⟨k2, hk1, hk2, _, _⟩ := old d od d2 d3
          rw [hk2] at hk'; cases hk'
          exact r.inj c d oc od j k c3 d3 hmc hld hj1 hk1 e
    · obtain ⟨j, h1, h2⟩ := r.glob g hg
      exact ⟨j, hle _ _ h1, h2⟩
    · rw [hgp] at hc
      by_cases e1 : c = id
      · subst e1; rw [Mu.add_self] at hj; cases hj; exact ⟨b, o, i, hb, liveO_of_mutO hm, fun _ => hm, hi, hbl.symm⟩
      · rw [if_neg e1] at hc
        by_cases e2 : c = b
        · rw [if_pos e2] at hc; cases hc; simp [liveO] at hmc
        · rw [if_neg e2] at hc
          obtain ⟨j2, hj1, hj2, _, _⟩ := old c oc e2 hc
          rw [hj2] at hj; cases hj
          exact ⟨c, oc, j, hc, hmc, _root_.id, hj1, rfl⟩
  · cases hn

end Go.Ev

/- The evaluator's operations that call no function are the model's. -/
namespace Go.Ev

section
variable {P : Program} {μ : Mu} {h h' : AHeap} {w : World}

/-- What is owed of an operation. -/
def OpOk (P : Program) (μ : Mu) (id : Nat) (h : AHeap) (w : World) (r : Result Next) (v : Value) (h' : AHeap) : Prop :=
  ∃ x v' w' μ', r = .ok x w' ∧ (x = .value v' ∨ (x = .skip ∧ v' = undef)) ∧ VRel μ' v v' ∧ Rel P μ' h' w' ∧ Ste μ h w μ' h' w' ∧ Fr μ μ' id

theorem OpOk.val {id : Nat} (hR : Rel P μ h w) {s : Sem Value} {v v' : Value} (hs : s.run P w = .ok v' w) (hv : VRel μ v v') :
    OpOk P μ id h w ((do pure (Next.value (← s)) : Sem Next).run P w) v h :=
  ⟨.value v', v', w, μ, by simp [hs], .inl rfl, hv, hR, Ste.refl _ _ _, Fr.refl _ _⟩

theorem OpOk.val' {id : Nat} {s : Sem Value} {v v' : Value} {w' : World} {μ' : Mu} (hs : s.run P w = .ok v' w') (hv : VRel μ' v v') (hR : Rel P μ' h' w') (hS : Ste μ h w μ' h' w' ∧ Fr μ μ' id) :
    OpOk P μ id h w ((do pure (Next.value (← s)) : Sem Next).run P w) v h' :=
  ⟨.value v', v', w', μ', by simp [hs], .inl rfl, hv, hR, hS⟩

theorem OpOk.skip {id : Nat} {s : Sem Unit} {w' : World} (hs : s.run P w = .ok () w') (hR : Rel P μ h' w') (hS : Ste μ h w μ h' w') :
    OpOk P μ id h w ((do s; pure Next.skip : Sem Next).run P w) undef h' :=
  ⟨.skip, undef, w', μ, by simp [hs], .inr ⟨rfl, rfl⟩, .tuple .nil, hR, hS, Fr.refl _ _⟩

/-! ### Types -/

theorem run_isAgg {t : TypeId} {d : TypeDesc} (hd : P.underlying t = some d) (w : World) : (isAgg t).run P w = .ok (isAggD d) w := by
  unfold isAgg
  rw [Sem.run_bind, run_underlying hd w]
  cases d <;> rfl
theorem run_typeInfo {t : TypeId} {i : TypeInfo} (hi : P.info? t = some i) (w : World) : (typeInfo t).run P w = .ok i w := by
  simp [typeInfo, hi]
theorem run_sizeOf {t : TypeId} {i : TypeInfo} (hi : P.info? t = some i) (w : World) : (sizeOf t).run P w = .ok i.size w := by
  simp [sizeOf, run_typeInfo hi]
theorem run_zeroValue {t : TypeId} {i : TypeInfo} {z : Value} (hi : P.info? t = some i) (hz : i.zero = some z) (w : World) : (zeroValue t).run P w = .ok z w := by
  simp [zeroValue, run_typeInfo hi, hz]

/-! ### Cells -/

theorem add_off (b o n : Nat) : (⟨b, o, none⟩ : Addr).add n = ⟨b, o + n, none⟩ := Addr.add_lit b o n

/-- A row's cells, read. -/
theorem loadRow_get {c : List Value} {off n : Nat} {xs : List Value} (h : loadRow c off n = some xs) : xs.length = n ∧ off + n ≤ c.length ∧ ∀ k v, xs[k]? = some v → c[off + k]? = some v ∧ k < n := by
  unfold loadRow at h
  split at h
  · rename_i hl
    cases h
    refine ⟨by simp; omega, hl, fun k v hk => ?_⟩
    rw [List.getElem?_take] at hk
    split at hk
    · rename_i hkn; exact ⟨by simpa [List.getElem?_drop] using hk, hkn⟩
    · cases hk
  · cases h

theorem ORel.cell {c : List Value} {e : TypeId} {ro g : Bool} {i : Img} (ho : ORel P μ (.cells c e ro g) i w) {k : Nat} {v : Value} (hk : c[k]? = some v) :
    ∃ v', w.cell? ⟨i.blk, k + i.d, none⟩ = some v' ∧ VRel μ v v' := by
  obtain ⟨C, fz, h1, _, _, _, h5, _⟩ := ho
  obtain ⟨v', a, b⟩ := h5 k v hk
  exact ⟨v', by rw [cell_of_row w i.blk (k + i.d) C e fz h1, Nat.add_comm]; exact a, b⟩

/-- The model reads a row of cells as the evaluator does. -/
theorem loadCells_ok {c : List Value} {e : TypeId} {ro g : Bool} {i : Img} (ho : ORel P μ (.cells c e ro g) i w) {off n : Nat} {xs : List Value} (hl : loadRow c off n = some xs) :
    ∃ ys : List Value, ys.length = n ∧ VsRel μ xs ys ∧ (∀ j v, ys[j]? = some v → w.cell? ((⟨i.blk, off + i.d, none⟩ : Addr).add j) = some v) ∧
      (loadCells ⟨i.blk, off + i.d, none⟩ n).run P w = .ok ys.toArray w := by
  obtain ⟨hx, hlen, hget⟩ := loadRow_get hl
  have hex : ∃ ys : List Value, ys.length = n ∧ ∀ j v, xs[j]? = some v → ∃ v', ys[j]? = some v' ∧ w.cell? ⟨i.blk, off + j + i.d, none⟩ = some v' ∧ VRel μ v v' := by
    clear hlen hl
    induction xs generalizing n off with
    | nil => exact ⟨[], by simpa using hx, by simp⟩
    | cons x xs ih =>
      obtain ⟨v', a, b⟩ := ho.cell (hget 0 x rfl).1
      obtain ⟨ys, hys, hall⟩ := ih (off := off + 1) (n := n - 1) (by simp at hx; omega) (fun k v hk => by
        have := hget (k + 1) v (by simpa using hk)
        exact ⟨by rw [show off + 1 + k = off + (k + 1) from by omega]; exact this.1, by omega⟩)
      refine ⟨v' :: ys, by simp at hx ⊢; omega, fun j v hj => ?_⟩
      cases j with
      | zero => simp at hj; subst hj; exact ⟨v', rfl, by simpa using a, b⟩
      | succ j =>
        obtain ⟨u, hu, hc, hr⟩ := hall j v (by simpa using hj)
        exact ⟨u, by simpa using hu, by rw [show off + (j + 1) + i.d = off + 1 + j + i.d from by omega]; exact hc, hr⟩
  obtain ⟨ys, hys, hall⟩ := hex
  have hv : VsRel μ xs ys := VsRel.of_get (by omega) fun j v hj => let ⟨v', a, _, b⟩ := hall j v hj; ⟨v', a, b⟩
  have hcell : ∀ j v, ys[j]? = some v → w.cell? ((⟨i.blk, off + i.d, none⟩ : Addr).add j) = some v := fun j v hj => by
    have hjl : j < ys.length := (List.getElem?_eq_some_iff.1 hj).1
    obtain ⟨u, hu⟩ : ∃ u, xs[j]? = some u := ⟨_, List.getElem?_eq_getElem (by omega)⟩
    obtain ⟨v', a, c', _⟩ := hall j u hu
    rw [hj] at a; cases a
    rw [add_off, show off + i.d + j = off + j + i.d from by omega]; exact c'
  refine ⟨ys, hys, hv, hcell, ?_⟩
  have := run_loadCells_list (P := P) w ⟨i.blk, off + i.d, none⟩ ys hcell
  rwa [hys] at this

theorem loadA_ok (hR : Rel P μ h w) {t : TypeId} {a a' x : Value} (ha : VRel μ a a') (hl : loadA P h t a = some x) :
    ∃ x', (Instr.loadAt t a').run P w = .ok x' w ∧ VRel μ x x' := by
  cases ha with
  | @ptr b o i hi =>
    simp only [loadA] at hl
    split at hl
    · rename_i c e ro g d hb hd
      obtain ⟨j, hj, ho⟩ := hR.obj b _ hb
      rw [hi] at hj; cases hj
      split at hl
      · rename_i hagg
        cases hinf : P.info? t with
        | none => rw [hinf] at hl; cases hl
        | some inf =>
          rw [hinf] at hl
          simp only [Option.map_eq_some_iff] at hl
          obtain ⟨xs, hxs, rfl⟩ := hl
          obtain ⟨ys, hys, hv, _, hrun⟩ := loadCells_ok ho hxs
          exact ⟨.agg ys.toArray, by simp [Instr.loadAt, Instr.sureAddr, loadVar, Sem.run_bind, run_isAgg hd, hagg, run_sizeOf hinf, hrun], .agg (by simpa using hv)⟩
      · rename_i hagg
        obtain ⟨v', hc, hv⟩ := ho.cell hl
        exact ⟨v', by simp [Instr.loadAt, Instr.sureAddr, loadVar, Sem.run_bind, run_isAgg hd, hagg, run_load, hc], hv⟩
    · cases hl
  | _ => simp [loadA] at hl

/-! ### A store -/

def setArr (C : Array Value) (off : Nat) (xs : List Value) : Array Value := (C.toList.take off ++ xs ++ C.toList.drop (off + xs.length)).toArray

theorem size_setArr {C : Array Value} {off : Nat} {xs : List Value} (h : off + xs.length ≤ C.size) : (setArr C off xs).size = C.size := by
  simp [setArr]; omega

theorem getElem?_setRow {c xs : List Value} {off : Nat} (h : off + xs.length ≤ c.length) (k : Nat) :
    (setRow c off xs)[k]? = if off ≤ k ∧ k < off + xs.length then xs[k - off]? else c[k]? := by
  unfold setRow
  rw [List.append_assoc]
  by_cases h1 : k < off
  · rw [List.getElem?_append_left (by simp; omega), if_neg (by omega), List.getElem?_take, if_pos h1]
  · rw [List.getElem?_append_right (by simp; omega)]
    have hl : (c.take off).length = off := by simp; omega
    rw [hl]
    by_cases h2 : k < off + xs.length
    · rw [List.getElem?_append_left (by omega), if_pos ⟨by omega, h2⟩]
    · rw [List.getElem?_append_right (by omega), if_neg (by omega), List.getElem?_drop]
      congr 1; omega

theorem length_setRow {c xs : List Value} {off : Nat} (h : off + xs.length ≤ c.length) : (setRow c off xs).length = c.length := by
  unfold setRow; simp; omega

theorem getElem?_setArr {C : Array Value} {xs : List Value} {off : Nat} (h : off + xs.length ≤ C.size) (k : Nat) :
    (setArr C off xs)[k]? = if off ≤ k ∧ k < off + xs.length then xs[k - off]? else C[k]? := by
  have := getElem?_setRow (c := C.toList) (xs := xs) (off := off) (by simpa using h) k
  simpa [setArr, setRow] using this

def World.putRow (w : World) (b : Nat) (C : Array Value) (e : TypeId) : World := { w with heap := w.heap.setIfInBounds b (.cells C e (0, 0)) }

theorem putRow_same {w : World} {b : Nat} (C : Array Value) (e : TypeId) (h : b < w.heap.size) : (World.putRow w b C e).heap[b]? = some (.cells C e (0, 0)) := by
  simp [World.putRow, h]
theorem putRow_other {w : World} {b k : Nat} (C : Array Value) (e : TypeId) (h : k ≠ b) : (World.putRow w b C e).heap[k]? = w.heap[k]? := by
  simp only [World.putRow]
  rw [Array.getElem?_setIfInBounds_ne (fun e => h e.symm)]
theorem putRow_size (w : World) (b : Nat) (C : Array Value) (e : TypeId) : (World.putRow w b C e).heap.size = w.heap.size := by simp [World.putRow]

theorem setCell_row {w : World} {b k : Nat} {C : Array Value} {e : TypeId} (hb : w.heap[b]? = some (.cells C e (0, 0))) (v : Value) :
    w.setCell ⟨b, k, none⟩ v = World.putRow w b (C.setIfInBounds k v) e := by
  obtain ⟨hlt, hbb⟩ := Array.getElem?_eq_some_iff.1 hb
  simp only [World.setCell, World.putRow]
  congr 1
  apply Array.ext_getElem?
  intro j
  rw [Array.getElem?_modify, Array.getElem?_setIfInBounds]
  by_cases hj : b = j
  · subst hj; simp [hlt, hbb]
  · simp [hj]

theorem run_storeCells {b : Nat} {e : TypeId} : ∀ (xs : List Value) (i o : Nat) (C : Array Value) (w : World), w.heap[b]? = some (.cells C e (0, 0)) → o + i + xs.length ≤ C.size →
    xs.all oneCell = true → (storeCells ⟨b, o, none⟩ xs i).run P w = .ok () (if xs = [] then w else World.putRow w b (setArr C (o + i) xs) e)
  | [], i, o, C, w, _, _, _ => by simp [storeCells]
  | x :: xs, i, o, C, w, hb, hl, h1 => by
    simp only [List.all_cons, Bool.and_eq_true] at h1
    simp only [List.length_cons] at hl
    have hlt : b < w.heap.size := (Array.getElem?_eq_some_iff.1 hb).1
    have hx : x.oneCell' = true := by have := h1.1; cases x <;> simp_all [oneCell, Value.oneCell']
    have hc : w.cell? ⟨b, o + i, none⟩ = some (C[o + i]'(by omega)) := by
      rw [cell_of_row w b (o + i) C e (0, 0) hb, Array.getElem?_eq_getElem]
    have hf : w.frozen? ⟨b, o + i, none⟩ = false := frozen_of_row w b (o + i) C e hb
    have hs : (store ((⟨b, o, none⟩ : Addr).add i) x).run P w = .ok () (World.putRow w b (C.setIfInBounds (o + i) x) e) := by
      rw [add_off, run_store P w _ x _ hx, hc]
      simp only [hf, Bool.false_eq_true, if_false]
      rw [setCell_row hb]
    have hb2 : (World.putRow w b (C.setIfInBounds (o + i) x) e).heap[b]? = some (.cells (C.setIfInBounds (o + i) x) e (0, 0)) := putRow_same _ _ hlt
    have ih := run_storeCells xs (i + 1) o (C.setIfInBounds (o + i) x) _ hb2 (by simp; omega) h1.2
    simp only [storeCells, Sem.run_bind, hs, Result.andThen, ih]
    have e1 : (if x :: xs = [] then w else World.putRow w b (setArr C (o + i) (x :: xs)) e) = World.putRow w b (setArr C (o + i) (x :: xs)) e := if_neg (by simp)
    rw [e1]
    congr 1
    have hset : setArr C (o + i) (x :: xs) = if xs = [] then C.setIfInBounds (o + i) x else setArr (C.setIfInBounds (o + i) x) (o + (i + 1)) xs := by
      apply Array.ext_getElem?
      intro k
      rw [getElem?_setArr (by simp; omega)]
      by_cases hn : xs = []
      · subst hn
        rw [if_pos rfl, Array.getElem?_setIfInBounds]
        by_cases hk : k = o + i
        · subst hk; simp; omega
        · rw [if_neg (by simp; omega), if_neg (by omega)]
      · rw [if_neg hn, getElem?_setArr (by simp; omega), Array.getElem?_setIfInBounds]
        simp only [List.length_cons]
        by_cases hk : k = o + i
        · subst hk
          rw [if_pos ⟨by omega, by omega⟩, if_neg (by omega), if_pos rfl, if_pos (by omega)]; simp
        · by_cases hk2 : o + i ≤ k ∧ k < o + i + (xs.length + 1)
          · rw [if_pos hk2, if_pos ⟨by omega, by omega⟩]
            obtain ⟨m, hm⟩ : ∃ m, k - (o + i) = m + 1 := ⟨k - (o + i) - 1, by omega⟩
            rw [hm, List.getElem?_cons_succ]; congr 1; omega
          · rw [if_neg hk2, if_neg (by omega), if_neg (by omega)]
    rw [hset]
    by_cases hn : xs = []
    · simp [hn]
    · simp [hn, World.putRow]

theorem ORel.set {c : List Value} {e : TypeId} {g : Bool} {i : Img} (ho : ORel P μ (.cells c e false g) i w) {off : Nat} {xs ys : List Value} (hv : VsRel μ xs ys) (hl : off + xs.length ≤ c.length) :
    ∃ C, w.heap[i.blk]? = some (.cells C e (0, 0)) ∧ off + i.d + ys.length ≤ C.size ∧
      ORel P μ (.cells (setRow c off xs) e false g) i (World.putRow w i.blk (setArr C (off + i.d) ys) e) := by
  obtain ⟨C, fz, h1, h2, h3, h4, h5, h6, h7⟩ := ho
  obtain rfl := h2 rfl
  have hlen := hv.length
  have hsz : off + i.d + ys.length ≤ C.size := by omega
  refine ⟨C, h1, hsz, setArr C (off + i.d) ys, (0, 0), putRow_same _ _ (Array.getElem?_eq_some_iff.1 h1).1, fun _ => rfl, by rw [size_setArr hsz]; exact h3, by rw [length_setRow hl]; exact h4, fun k v hk => ?_, h6, h7⟩
  rw [getElem?_setRow hl] at hk
  rw [getElem?_setArr hsz]
  by_cases hk2 : off ≤ k ∧ k < off + xs.length
  · rw [if_pos hk2] at hk
    rw [if_pos ⟨by omega, by omega⟩, show i.d + k - (off + i.d) = k - off from by omega]
    exact hv.get _ _ hk
  · rw [if_neg hk2] at hk
    rw [if_neg (by omega)]
    exact h5 k v hk

theorem storeA_ok (hR : Rel P μ h w) {t : TypeId} {a a' x x' : Value} (ha : VRel μ a a') (hx : VRel μ x x') (hl : storeA P h t a x = some h') :
    ∃ w', (Instr.storeAt t a' x').run P w = .ok () w' ∧ Rel P μ h' w' ∧ Ste μ h w μ h' w' := by
  cases ha with
  | @ptr b o i hi =>
    simp only [storeA] at hl
    split at hl
    · rename_i c e g inf hb hinf
      split at hl
      · rename_i hc
        obtain ⟨hs, hlen, hone⟩ := hc
        cases hl
        obtain ⟨j, hj, ho⟩ := hR.obj b _ hb
        rw [hi] at hj; cases hj
        have hcs := hx.cells
        have hsz : x.cells.toList.length = x.cells.size := by simp
        obtain ⟨C, hC, hfit, hnew⟩ := ho.set (off := o) hcs (by omega)
        have hlen' := hcs.length
        have hrun := run_storeCells (P := P) x'.cells.toList 0 (o + i.d) C w hC (by simpa using hfit) (VsRel.all_oneCell hcs hone)
        have hst : (Instr.storeAt t (.pointer (some ⟨i.blk, o + i.d, none⟩)) x').run P w = .ok () (if x'.cells.toList = [] then w else World.putRow w i.blk (setArr C (o + i.d + 0) x'.cells.toList) e) := by
          have hq : ¬ (x'.cells.size ≠ inf.size) := by simp at hlen'; omega
          simp [Instr.storeAt, Instr.sureAddr, storeVar, Sem.run_bind, run_sizeOf hinf, hq, hrun]
        by_cases hnil : x'.cells.toList = []
        · rw [if_pos hnil] at hst
          have hx0 : x.cells.toList = [] := by rw [← List.length_eq_zero_iff] at hnil ⊢; omega
          refine ⟨w, hst, ?_⟩
          have hnew2 : ORel P μ (.cells (setRow c o x.cells.toList) e false g) i w := by rw [hx0]; simpa [setRow] using ho
          exact hR.update hb rfl hi hnew2 rfl rfl rfl rfl (fun _ _ => rfl)
        · rw [if_neg hnil] at hst
          refine ⟨_, hst, ?_⟩
          exact hR.update hb rfl hi (by simpa using hnew) (putRow_size _ _ _ _) rfl rfl rfl (fun k hk => putRow_other _ _ hk)
      · cases hl
    · cases hl
  | _ => simp [storeA] at hl

/-! ### New rows -/

theorem newA_ok (hR : Rel P μ h w) {id : Nat} (hμ : μ id = none) {e : TypeId} {cs ds : List Value} {v : Value} (hv : VsRel μ cs ds) {spare : List Value} {n : Nat}
    (hn : newA P h id e cs false v = some (v, h')) (hsp : spare = []) :
    ∃ inf, P.info? e = some inf ∧
      let i : Img := { blk := w.heap.size, d := 0, lim := ds.length, sz := inf.size, exact := true }
      let w' := ({ w with drawn := n } : World).alloc (.cells (ds ++ spare).toArray e)
      Rel P (μ.add id i) h' w' ∧ Ste μ h w (μ.add id i) h' w' := by
  subst hsp
  unfold newA at hn
  cases hinf : P.info? e with
  | none => rw [hinf] at hn; cases hn
  | some inf =>
    rw [hinf] at hn
    simp only [Option.map_eq_some_iff, Prod.mk.injEq, true_and] at hn
    obtain ⟨h2, hnew, rfl⟩ := hn
    refine ⟨inf, rfl, ?_⟩
    have hlen := hv.length
    have hle := Mu.le_add (μ := μ) (b := id) { blk := w.heap.size, d := 0, lim := ds.length, sz := inf.size, exact := true } hμ
    exact hR.grow hμ (w' := ({ w with drawn := n } : World).alloc (.cells (ds ++ []).toArray e)) (i := { blk := w.heap.size, d := 0, lim := ds.length, sz := inf.size, exact := true }) hnew (Nat.le_refl _)
      ⟨(ds ++ []).toArray, (0, 0), heap_alloc_new { w with drawn := n } _, fun _ => rfl, by simp, by simp; omega, fun k v hk => by
        obtain ⟨v', a, b⟩ := hv.get k v hk
        exact ⟨v', by simpa using a, b.mono hle⟩, fun _ => rfl, fun _ => by rw [hinf]; rfl⟩
      (by simp) rfl rfl rfl (fun k hk => heap_alloc_old { w with drawn := n } _ k hk)

/-- A new row that an append has made: it may have room to spare. -/
theorem newG_ok (hR : Rel P μ h w) {id : Nat} (hμ : μ id = none) {e : TypeId} {cs ds spare : List Value} {v : Value} (hv : VsRel μ cs ds) {n : Nat} (hn : newA P h id e cs true v = some (v, h')) :
    ∃ inf, P.info? e = some inf ∧
      let i : Img := { blk := w.heap.size, d := 0, lim := (ds ++ spare).length, sz := inf.size, exact := false }
      let w' := ({ w with drawn := n } : World).alloc (.cells (ds ++ spare).toArray e)
      Rel P (μ.add id i) h' w' ∧ Ste μ h w (μ.add id i) h' w' := by
  unfold newA at hn
  cases hinf : P.info? e with
  | none => rw [hinf] at hn; cases hn
  | some inf =>
    rw [hinf] at hn
    simp only [Option.map_eq_some_iff, Prod.mk.injEq, true_and] at hn
    obtain ⟨h2, hnew, rfl⟩ := hn
    refine ⟨inf, rfl, ?_⟩
    have hlen := hv.length
    have hle := Mu.le_add (μ := μ) (b := id) { blk := w.heap.size, d := 0, lim := (ds ++ spare).length, sz := inf.size, exact := false } hμ
    exact hR.grow hμ (w' := ({ w with drawn := n } : World).alloc (.cells (ds ++ spare).toArray e)) (i := { blk := w.heap.size, d := 0, lim := (ds ++ spare).length, sz := inf.size, exact := false }) hnew (Nat.le_refl _)
      ⟨(ds ++ spare).toArray, (0, 0), heap_alloc_new { w with drawn := n } _, fun _ => rfl, by simp, by simp; omega, fun k v hk => by
        obtain ⟨v', a, b⟩ := hv.get k v hk
        have hkl : k < ds.length := (List.getElem?_eq_some_iff.1 a).1
        exact ⟨v', by simp [List.getElem?_append_left hkl, a], b.mono hle⟩, fun hf => (by cases hf), fun _ => by rw [hinf]; rfl⟩
      (by simp) rfl rfl rfl (fun k hk => heap_alloc_old { w with drawn := n } _ k hk)

end
end Go.Ev

/- Equality and keys: what asks no memory answers alike in every world. -/
namespace Go.Ev

section
variable {P : Program}

/-- An answer, where there is one, is the same in every world, and turns none. -/
def WI (P : Program) {α : Type} (s : Sem α) : Prop := ∀ w0 a w1, s.run P w0 = .ok a w1 → ∀ w, s.run P w = .ok a w

theorem WI.pure {α : Type} (a : α) : WI P (Pure.pure a : Sem α) := fun w0 b w1 h w => by simp at h ⊢; exact h.1
theorem WI.pure' {α : Type} (a : α) : WI P (Sem.pure a : Sem α) := WI.pure a
theorem WI.halt {α : Type} (x : Halt) : WI P (Sem.halt x : Sem α) := fun w0 b w1 h w => by simp at h
theorem WI.stuck {α : Type} (s : String) : WI P (stuck s : Sem α) := WI.halt _
theorem WI.unsupported {α : Type} (u : Unsupported) : WI P (unsupported u : Sem α) := WI.halt _
theorem WI.program : WI P program := fun w0 b w1 h w => by simp at h ⊢; exact h.1
theorem WI.bind' {α β : Type} {x : Sem α} {f : α → Sem β} (hx : WI P x) (hf : ∀ a, (∃ w w', x.run P w = .ok a w') → WI P (f a)) : WI P (x >>= f) := fun w0 b w1 h w => by
  rw [Sem.run_bind] at h ⊢
  cases hr : x.run P w0 with
  | ok a w' =>
    rw [hr] at h
    rw [hx w0 a w' hr w]
    exact hf a ⟨w0, w', hr⟩ w' b w1 h w
  | halt z w' => rw [hr] at h; simp at h
theorem WI.bind {α β : Type} {x : Sem α} {f : α → Sem β} (hx : WI P x) (hf : ∀ a, WI P (f a)) : WI P (x >>= f) := WI.bind' hx fun a _ => hf a
theorem WI.ite {α : Type} {c : Prop} [Decidable c] {x y : Sem α} (hx : WI P x) (hy : WI P y) : WI P (if c then x else y) := by split <;> assumption

theorem WI.underlying (t : TypeId) : WI P (underlying t) := by
  unfold Go.underlying
  refine WI.bind WI.program fun p => ?_
  split
  · exact WI.pure _
  · exact WI.stuck _
theorem WI.typeInfo (t : TypeId) : WI P (typeInfo t) := by
  unfold Go.typeInfo
  refine WI.bind WI.program fun p => ?_
  split
  · exact WI.pure _
  · exact WI.stuck _
theorem WI.sizeOf (t : TypeId) : WI P (sizeOf t) := by
  unfold Go.sizeOf
  exact WI.bind (WI.typeInfo t) fun i => WI.pure _
theorem WI.isAgg (t : TypeId) : WI P (isAgg t) := by
  unfold Go.isAgg
  refine WI.bind (WI.underlying t) fun d => ?_
  split <;> exact WI.pure _

/-- Values that ask no memory. -/
def QV (v : Value) : Prop := qv1 v = true ∨ ∃ cs : Array Value, v = .agg cs ∧ cs.toList.all qv1 = true

theorem QV.of {v : Value} (h : qv v = true) : QV v := by
  cases v <;> first | exact .inr ⟨_, rfl, h⟩ | exact .inl h

theorem WI.part (t : TypeId) (cs : Array Value) (off : Nat) : WI P (part t cs off) := by
  unfold Go.part
  refine WI.bind (WI.isAgg t) fun b => ?_
  split
  · exact WI.bind (WI.sizeOf t) fun n => WI.pure _
  · split
    · exact WI.pure _
    · exact WI.stuck _

theorem part_QV {t : TypeId} {cs : Array Value} {off : Nat} (hq : cs.toList.all qv1 = true) {w w' : World} {v : Value} (h : (part t cs off).run P w = .ok v w') : QV v := by
  unfold Go.part at h
  rw [Sem.run_bind] at h
  cases hr : (isAgg t).run P w with
  | halt z w1 => rw [hr] at h; simp at h
  | ok b w1 =>
    rw [hr] at h
    simp only [Result.andThen_ok] at h
    split at h
    · rw [Sem.run_bind] at h
      cases hr2 : (sizeOf t).run P w1 with
      | halt z w2 => rw [hr2] at h; simp at h
      | ok n w2 =>
        rw [hr2] at h
        simp only [Result.andThen_ok, Sem.run_pure, Result.ok.injEq] at h
        obtain ⟨rfl, _⟩ := h
        refine .inr ⟨_, rfl, ?_⟩
        rw [List.all_eq_true] at hq ⊢
        intro x hx
        refine hq x ?_
        simp only [Array.toList_extract, List.extract_eq_take_drop] at hx
        exact List.mem_of_mem_drop (List.mem_of_mem_take hx)
    · split at h
      · rename_i v' hv
        simp only [Sem.run_pure, Result.ok.injEq] at h
        obtain ⟨rfl, _⟩ := h
        rw [List.all_eq_true] at hq
        exact .inl (hq _ (by
          obtain ⟨hlt, he⟩ := Array.getElem?_eq_some_iff.1 hv
          rw [← he]; simp))
      · simp at h

theorem WI.forIn_list {α β : Type} (f : α → β → Sem (ForInStep β)) : ∀ (l : List α) (b : β), (∀ x, x ∈ l → ∀ b, WI P (f x b)) → WI P (forIn l b f)
  | [], b, _ => by simpa using WI.pure b
  | x :: xs, b, h => by
    rw [List.forIn_cons]
    refine WI.bind (h x (by simp) b) fun r => ?_
    split
    · exact WI.pure _
    · exact WI.forIn_list f xs _ fun y hy => h y (by simp [hy])

theorem WI.forIn_array {α β : Type} (f : α → β → Sem (ForInStep β)) (l : Array α) (b : β) (h : ∀ x b, WI P (f x b)) : WI P (forIn l b f) := by
  rw [← Array.forIn_toList]
  exact WI.forIn_list f _ _ fun x _ => h x

theorem WI.forIn_range {β : Type} (f : Nat → β → Sem (ForInStep β)) (r : Std.Legacy.Range) (b : β) (h : ∀ x b, WI P (f x b)) : WI P (forIn r b f) := by
  rw [Std.Legacy.Range.forIn_eq_forIn_range']
  exact WI.forIn_list f _ _ fun x _ => h x

theorem WI.equalIn : ∀ (d : Nat) (t : TypeId) (x y : Value), QV x → QV y → WI P (Op.equalIn d t x y)
  | 0, t, x, y, _, _ => WI.unsupported _
  | d + 1, t, x, y, hx, hy => by
    unfold Op.equalIn
    refine WI.bind (WI.underlying t) fun desc => ?_
    rcases hx with hx | ⟨xs, rfl, hx⟩
    · cases x <;> simp [qv1] at hx <;> rcases hy with hy | ⟨ys, rfl, hy⟩ <;> (try (cases y <;> simp [qv1] at hy)) <;> cases desc <;> (first | exact WI.pure _ | exact WI.stuck _ | exact WI.unsupported _ | (dsimp only; split <;> first | exact WI.pure _ | exact WI.stuck _))
    · rcases hy with hy | ⟨ys, rfl, hy⟩
      · cases y <;> simp [qv1] at hy <;> cases desc <;> (first | exact WI.pure _ | exact WI.stuck _ | exact WI.unsupported _)
      · cases desc with
        | struct fs =>
          dsimp only
          refine WI.bind WI.program fun p => ?_
          split
          · exact WI.unsupported _
          · refine WI.bind (WI.forIn_array _ _ _ fun f b => ?_) fun r => ?_
            · split
              · refine WI.bind' (WI.part _ _ _) fun u hu => WI.bind' (WI.part _ _ _) fun v hv => ?_
                obtain ⟨w1, w2, hu⟩ := hu
                obtain ⟨w3, w4, hv⟩ := hv
                refine WI.bind (WI.equalIn d _ u v (part_QV hx hu) (part_QV hy hv)) fun e => ?_
                split <;> exact WI.pure _
              · exact WI.pure _
            · split <;> exact WI.pure _
        | array n e =>
          dsimp only
          refine WI.bind (WI.sizeOf e) fun sz => ?_
          refine WI.bind (WI.forIn_range _ _ _ fun f b => ?_) fun r => ?_
          · refine WI.bind' (WI.part _ _ _) fun u hu => WI.bind' (WI.part _ _ _) fun v hv => ?_
            obtain ⟨w1, w2, hu⟩ := hu
            obtain ⟨w3, w4, hv⟩ := hv
            refine WI.bind (WI.equalIn d _ u v (part_QV hx hu) (part_QV hy hv)) fun e => ?_
            split <;> exact WI.pure _
          · split <;> exact WI.pure _
        | _ => first | exact WI.pure _ | exact WI.stuck _ | exact WI.unsupported _

/-- '==' as the evaluator has it is the model's. -/
theorem eqP_ok {t : TypeId} {x y : Value} {b : Bool} (h : eqP P t x y = some b) (w : World) : (Op.equal t x y).run P w = .ok b w := by
  unfold eqP at h
  split at h
  · rename_i hq
    simp only [Bool.and_eq_true] at hq
    split at h
    · rename_i c w' hr
      cases h
      exact WI.equalIn _ t x y (.of hq.1) (.of hq.2) _ _ _ hr w
    · cases h
  · cases h

theorem eqP_qv {t : TypeId} {x y : Value} {b : Bool} (h : eqP P t x y = some b) : qv x = true ∧ qv y = true := by
  unfold eqP at h
  split at h
  · rename_i hq; simpa using hq
  · cases h

theorem WI.checkKey (empty : Bool) : ∀ (d : Nat) (t : TypeId) (x : Value), QV x → WI P (Instr.checkKey empty d t x)
  | 0, t, x, _ => WI.unsupported _
  | d + 1, t, x, hx => by
    unfold Instr.checkKey
    refine WI.bind (WI.underlying t) fun desc => ?_
    rcases hx with hx | ⟨xs, rfl, hx⟩
    · cases x <;> simp [qv1] at hx <;> cases desc <;> (first | exact WI.pure _ | exact WI.stuck _ | exact WI.unsupported _)
    · cases desc with
      | struct fs =>
        dsimp only
        refine WI.bind (WI.forIn_array _ _ _ fun f b => ?_) fun r => WI.pure _
        split
        · refine WI.bind' (WI.part _ _ _) fun u hu => ?_
          obtain ⟨w1, w2, hu⟩ := hu
          exact WI.bind (WI.checkKey empty d _ u (part_QV hx hu)) fun _ => WI.pure _
        · exact WI.pure _
      | array n e =>
        dsimp only
        refine WI.bind (WI.forIn_range _ _ _ fun f b => ?_) fun r => WI.pure _
        refine WI.bind (WI.sizeOf e) fun sz => WI.bind' (WI.part _ _ _) fun u hu => ?_
        obtain ⟨w1, w2, hu⟩ := hu
        exact WI.bind (WI.checkKey empty d _ u (part_QV hx hu)) fun _ => WI.pure _
      | _ => first | exact WI.pure _ | exact WI.stuck _ | exact WI.unsupported _

theorem keyOk_ok {t : TypeId} {k : Value} (h : keyOk P t k = true) (empty : Bool) (w : World) : (Instr.checkKey empty 10000 t k).run P w = .ok () w := by
  unfold keyOk at h
  simp only [Bool.and_eq_true] at h
  obtain ⟨⟨hq, h1⟩, h2⟩ := h
  have key : ∀ b, (match (Instr.checkKey b 10000 t k).run P default with | .ok _ _ => true | .halt _ _ => false) = true → (Instr.checkKey b 10000 t k).run P w = .ok () w := fun b hb => by
    split at hb
    · rename_i u w' hr; exact WI.checkKey b 10000 t k (.of hq) _ _ _ hr w
    · cases hb
  cases empty
  · exact key false h2
  · exact key true h1

theorem keyOk_qv {t : TypeId} {k : Value} (h : keyOk P t k = true) : qv k = true := by
  unfold keyOk at h; simp only [Bool.and_eq_true] at h; exact h.1.1

/-! ### What a map holds under a key -/

theorem EntsRel.length {μ : Mu} : ∀ {a b : List MapEntry}, EntsRel μ a b → a.length = b.length
  | _, _, .nil => rfl
  | _, _, .cons _ hs => by simp [EntsRel.length hs]
theorem EntsRel.get {μ : Mu} : ∀ {a b : List MapEntry}, EntsRel μ a b → ∀ (i : Nat) (v : MapEntry), a[i]? = some v → ∃ v', b[i]? = some v' ∧ EntRel μ v v'
  | _, _, .nil, i, v, h => by simp at h
  | _, _, .cons h hs, i, v, hi => by
    cases i with
    | zero => simp at hi; subst hi; exact ⟨_, rfl, h⟩
    | succ i => simp at hi; simpa using EntsRel.get hs i v hi
theorem EntsRel.append {μ : Mu} {a b c d : List MapEntry} (h : EntsRel μ a b) (k : EntsRel μ c d) : EntsRel μ (a ++ c) (b ++ d) := by
  induction a generalizing b with
  | nil => cases h; exact k
  | cons x xs ih => cases h with | cons h hs => exact .cons h (ih hs)
theorem EntsRel.modify {μ : Mu} {f g : MapEntry → MapEntry} (hfg : ∀ x y, EntRel μ x y → EntRel μ (f x) (g y)) : ∀ {a b : List MapEntry} (i : Nat), EntsRel μ a b → EntsRel μ (a.modify i f) (b.modify i g)
  | _, _, i, .nil => by cases i <;> exact .nil
  | _, _, 0, .cons h hs => .cons (hfg _ _ h) hs
  | _, _, i + 1, .cons h hs => .cons h (EntsRel.modify hfg i hs)
theorem EntsRel.eraseIdx {μ : Mu} : ∀ {a b : List MapEntry} (i : Nat), EntsRel μ a b → EntsRel μ (a.eraseIdx i) (b.eraseIdx i)
  | _, _, _, .nil => .nil
  | _, _, 0, .cons _ hs => hs
  | _, _, i + 1, .cons h hs => .cons h (EntsRel.eraseIdx i hs)

/-- What 'findA' answers of the evaluator's entries, of the model's. -/
def FRel (μ : Mu) : Option (Nat × Value) → Option (Nat × Value) → Prop
  | none, none => True
  | some (i, v), some (j, v') => i = j ∧ VRel μ v v'
  | _, _ => False

theorem findAsking_ok {μ : Mu} {t : TypeId} {k : Value} (w : World) : ∀ {es E : List MapEntry} (i : Nat) {r : Option (Nat × Value)}, EntsRel μ es E → findA P t k es i = some r →
    ∃ r', (Instr.findAsking t k E i).run P w = .ok r' w ∧ FRel μ r r'
  | _, _, i, r, .nil, h => by
    simp only [findA, Option.some.injEq] at h; subst h
    exact ⟨none, by simp [Instr.findAsking], trivial⟩
  | e :: es, e' :: E, i, r, .cons he hs, h => by
    simp only [findA] at h
    split at h
    · rename_i hq
      cases h
      refine ⟨some (i, e'.val), ?_, rfl, he.val⟩
      have := eqP_ok hq w
      simp [Instr.findAsking, Sem.run_bind, he.key, this]
    · rename_i hq
      obtain ⟨r', hr, hf⟩ := findAsking_ok w (i + 1) hs h
      refine ⟨r', ?_, hf⟩
      have := eqP_ok hq w
      simp [Instr.findAsking, Sem.run_bind, he.key, this, hr]
    · cases h

theorem sameNow_eqP {t : TypeId} {d : TypeDesc} (hd : P.underlying t = some d) {k x : Value} {b c : Bool} (h : Instr.sameNow d k x = some b) (hq : eqP P t k x = some c) : b = c := by
  have hr := eqP_ok hq default
  unfold Op.equal Op.maxDepth Op.equalIn at hr
  rw [Sem.run_bind, run_underlying hd] at hr
  simp only [Result.andThen_ok] at hr
  cases d <;> cases k <;> cases x <;> simp [Instr.sameNow] at h <;> simp at hr
  · exact h.symm.trans hr
  · obtain ⟨hk, hb⟩ := h
    rw [if_pos hk] at hr
    simp at hr
    exact hb.symm.trans hr
  · exact h.symm.trans hr

theorem findNow_ok {μ : Mu} {t : TypeId} {d : TypeDesc} (hd : P.underlying t = some d) {k : Value} : ∀ {es E : List MapEntry} (i : Nat) {r : Option (Nat × Value)}, EntsRel μ es E → findA P t k es i = some r →
    ∀ r', Instr.findNow d k E i = some r' → FRel μ r r'
  | _, _, i, r, .nil, h, r', h' => by
    simp only [findA, Option.some.injEq] at h; subst h
    simp only [Instr.findNow, Option.some.injEq] at h'; subst h'
    trivial
  | e :: es, e' :: E, i, r, .cons he hs, h, r', h' => by
    simp only [findA] at h
    simp only [Instr.findNow, he.key] at h'
    split at h
    · rename_i hq
      cases h
      split at h'
      · cases h'; exact ⟨rfl, he.val⟩
      · rename_i hs2; have := sameNow_eqP hd hs2 hq; cases this
      · cases h'
    · rename_i hq
      split at h'
      · rename_i hs2; have := sameNow_eqP hd hs2 hq; cases this
      · exact findNow_ok hd (i + 1) hs h r' h'
      · cases h'
    · cases h

theorem findKey_ok {μ : Mu} {t : TypeId} {d : TypeDesc} (hd : P.underlying t = some d) {k : Value} {es E : List MapEntry} {r : Option (Nat × Value)} (hE : EntsRel μ es E) (h : findA P t k es 0 = some r) (w : World) :
    ∃ r', (Instr.findKey t k E).run P w = .ok r' w ∧ FRel μ r r' := by
  unfold Instr.findKey
  rw [Sem.run_bind, run_underlying hd]
  simp only [Result.andThen_ok]
  cases hn : Instr.findNow d k E 0 with
  | some r' => exact ⟨r', by simp, findNow_ok hd 0 hE h r' hn⟩
  | none => simpa using findAsking_ok w 0 hE h

end
end Go.Ev
