/- FamilyFew: the states of its first loop, and a round of it as a tree. -/
import Derived.Test.YtfickkmgbecamaaGreatDoorEv6
import Derived.Test.YtfickkmgbecamaaGreatDoorProg
import Derived.KernelRfl
namespace Go.Ev
open Go.Proofs
set_option maxRecDepth 1000000

def sq1 : Code → Code | .seq a _ => a | c => c
def sq2 : Code → Code | .seq _ b => b | c => c
def inBlk : Code → Code | .block _ c => c | c => c
def inLp : Code → Code | .loop c => c | c => c
noncomputable def few : Code := match Tryz.prog.funcs[3]? with | some fn => fn.body.getD .skip | none => .skip
/-- A round of the loop over the choices. -/
noncomputable def round1 : Code := inLp (inBlk (sq2 (sq1 (sq2 (sq2 (sq2 few))))))

/-- Hints for a round: the choice x at place i, at node i0, of kind kd. -/
noncomputable def kFew (fk : Bool) (i : Nat) (x : Int) (i0 kd : Nat) : Spl := fun f d =>
  match f with
  | 3 => (match d with
    | 25 => some .bool
    | 28 => some .bool
    | 35 => some (.known (.pointer (some ⟨1, i, none⟩)))
    | 36 => some (.known (.int .u8 x))
    | 42 => some .calm
    | 43 => some .bool
    | _ => none)
  | 7 => (match d with
    | 24 => some (.ints [.ofNat i0])
    | 32 => some (.ints [.ofNat kd])
    | 62 => some (.ints [.ofNat kd])
    | 88 => some .bool
    | _ => none)
  | 17 => (match d with | 9 => some .bool | _ => none)
  | 19 => (match d with | 25 => some .bool | 8 => some .calm | 18 => some .calm | _ => none)
  | 25 => (match d with | 13 => some .bool | 6 => some .calm | 12 => some .calm | _ => none)
  | 23 => (match d with | 11 => (match fk with | true => some .append | false => none) | 8 => some .calm | 9 => some .calm | _ => none)
  | 22 => (match d with | 17 => some .calm | _ => none)
  | 26 => (match d with | 12 => some .calm | 19 => some .calm | _ => none)
  | 24 => (match d with | 8 => some .calm | _ => none)
  | _ => none

structure Nums where
  F : Int
  dmin : Int
  dmax : Int
  rho : Int
  slew : Int
  rnd : Int
  win : Int
  att : Int
  seen : Int
  hist : Int
  fly : Int
  body : Int

def cellsC (N : Int) (L : Value) (c : Nums) : List Value :=
  [.int .i64 N, L, .int .i64 c.F, .int .i64 c.dmin, .int .i64 c.dmax, .int .i64 c.rho, .int .i64 c.slew, .int .i64 c.rnd, .int .i64 c.win, .int .i64 c.att, .int .i64 c.seen, .int .i64 c.hist, .int .i64 c.fly, .int .i64 64, .int .i64 c.body]
def zeros : Nat → List Value → List Value
  | 0, l => l
  | k + 1, l => .int .i64 (.ofNat 0) :: zeros k l
def cellsM (N : Int) (c : Nums) (D Fy s0 s1 s2 s3 : Int) (acts : Value) : List Value :=
  cellsC N (.slice none 0 0) c ++ (.pointer (some ⟨6, 0, none⟩) :: .int .u64 D :: .int .u64 Fy :: .int .i64 s0 :: .int .i64 s1 :: .int .i64 s2 :: .int .i64 s3 :: zeros 60 [acts])

def nearOf : Nat → List Value
  | 2 => [.int .u64 2, .int .u64 1]
  | 3 => [.int .u64 6, .int .u64 5, .int .u64 3]
  | _ => [.int .u64 14, .int .u64 13, .int .u64 11, .int .u64 7]
def linksOf : Nat → List Value
  | 2 => [.int .i64 0, .int .i64 1]
  | 3 => [.int .i64 0, .int .i64 1, .int .i64 0, .int .i64 2, .int .i64 1, .int .i64 2]
  | _ => [.int .i64 0, .int .i64 1, .int .i64 0, .int .i64 2, .int .i64 0, .int .i64 3, .int .i64 1, .int .i64 2, .int .i64 1, .int .i64 3, .int .i64 2, .int .i64 3]
def linkN : Nat → Nat
  | 2 => 1
  | 3 => 3
  | _ => 6

/-- The acts made so far: none; or a row. -/
inductive Acts where
  | nil
  | row (n : Nat) (l : List Value)
def Acts.val : Acts → Value
  | .nil => .slice none 0 0
  | .row n _ => .slice (some ⟨8, 0, none⟩) n n
def Acts.objs : Acts → List (Nat × AObj)
  | .nil => []
  | .row _ l => [(8, .cells l 42 false true)]
def Acts.push : Acts → List Value → Acts
  | .nil, a => .row 1 a
  | .row n l, a => .row (n + 1) (l ++ a)

/-- All that stays as it is in the loop. -/
structure Fix where
  db : List Value
  e0 : TypeId
  e1 : TypeId
  bs : List Value
  N : Nat
  c : Nums
  L : Nat
  cap : Nat
/-- What a round turns. -/
structure St where
  D : Int
  Fy : Int
  s0 : Int
  s1 : Int
  s2 : Int
  s3 : Int
  A : Acts

/-- The blocks of the loop over the choices. -/
def hFew (q : Fix) (s : St) : List (Nat × AObj) :=
  (0, .cells q.db q.e0 true false) :: (1, .cells q.bs q.e1 true false) :: (3, .cells (cellsC (.ofNat q.N) (.slice (some ⟨4, 0, none⟩) (linkN q.N) (linkN q.N)) q.c) 26 false false) :: (4, .cells (linksOf q.N) 77 false true) ::
   (5, .cells (cellsM (.ofNat q.N) q.c s.D s.Fy s.s0 s.s1 s.s2 s.s3 s.A.val) 53 false false) :: (6, .cells [.slice (some ⟨7, 0, none⟩) q.N q.N] 75 false false) :: (7, .cells (nearOf q.N) 33 false false) :: s.A.objs
def eFew (L cap : Nat) (i : Int) : List (Nat × Value) :=
  [(1, .slice (some ⟨1, 0, none⟩) L cap), (4, .bool false), (5, .pointer (some ⟨3, 0, none⟩)), (6, .pointer (some ⟨5, 0, none⟩)), (7, .int .i64 i)]

noncomputable def treeFew (fk : Bool) (q : Fix) (s : St) (i : Nat) (x : Int) (i0 kd : Nat) : Tree (Out × AAct × AHeap) :=
  (evM Tryz.prog (toT oNone) (kFew fk i x i0 kd) 300).code 3 none round1 ⟨envOf (eFew q.L q.cap (.ofNat i)), 90, []⟩ (heapOf 9 (hFew q s))

/-- The acts as they stand in some state. -/
inductive ActsV where
  | bad
  | nil
  | row (big : Bool) (n k : Nat) (o : Option AObj)
/-- What is wanted of a state at the end of a round. -/
structure View where
  out : Out
  n : Nat
  marks : List Nat
  slots : List (Option Value)
  objs : List (Option AObj)
  mkr : List Value
  rest : List Value
  acts : ActsV

def viewF (x : Out × AAct × AHeap) : View :=
  match x with
  | (o, a, h) =>
    let mc := match h.get 5 with | some (.cells mc 53 false false) => mc | _ => []
    { out := o, n := a.n, marks := a.marks, slots := [a.env.get 1, a.env.get 4, a.env.get 5, a.env.get 6, a.env.get 7], objs := [h.get 0, h.get 1, h.get 3, h.get 4, h.get 6, h.get 7], mkr := mc.take 82, rest := mc.drop 83,
      acts := match nthL mc 82 with | some (.slice none 0 0) => .nil | some (.slice (some ⟨b, 0, none⟩) l c) => .row (Nat.ble 8 b) l c (h.get b) | _ => .bad }

def Acts.view : Acts → ActsV
  | .nil => .nil
  | .row n l => .row true n n (some (.cells l 42 false true))

/-- The view of a state of the loop's. -/
def Fix.view (q : Fix) (out : Out) (s : St) (i : Int) : View :=
  { out := out, n := 90, marks := [], slots := [some (.slice (some ⟨1, 0, none⟩) q.L q.cap), some (.bool false), some (.pointer (some ⟨3, 0, none⟩)), some (.pointer (some ⟨5, 0, none⟩)), some (.int .i64 i)],
    objs := [some (.cells q.db q.e0 true false), some (.cells q.bs q.e1 true false), some (.cells (cellsC (.ofNat q.N) (.slice (some ⟨4, 0, none⟩) (linkN q.N) (linkN q.N)) q.c) 26 false false), some (.cells (linksOf q.N) 77 false true),
      some (.cells [.slice (some ⟨7, 0, none⟩) q.N q.N] 75 false false), some (.cells (nearOf q.N) 33 false false)],
    mkr := (cellsM (.ofNat q.N) q.c s.D s.Fy s.s0 s.s1 s.s2 s.s3 .nilFunc).take 82, rest := [], acts := s.A.view }

/-- The count of a set, as the program reckons it. -/
noncomputable def cnt (s : Int) : Int := match (evC Tryz.prog oNone 60).call 8 #[.int .u64 s] (bare 1) with | some (.int _ x, _) => x | _ => 0

def hasB (s : Int) (i0 : Nat) : Bool := !eqI (wrapF .u64 ((BitVec.ofInt IntKind.u64.bits s &&& BitVec.ofInt IntKind.u64.bits ((2 ^ i0 : Nat) : Int)).toNat : Int)) 0
def withB (s : Int) (i0 : Nat) : Int := wrapF .u64 ((BitVec.ofInt IntKind.u64.bits s ||| BitVec.ofInt IntKind.u64.bits ((2 ^ i0 : Nat) : Int)).toNat : Int)
def lessB (s : Int) (i0 : Nat) : Int := wrapF .u64 ((BitVec.ofInt IntKind.u64.bits s &&& ~~~ BitVec.ofInt IntKind.u64.bits ((2 ^ i0 : Nat) : Int)).toNat : Int)
def actOf (k i x : Int) : List Value := [.int .i64 k, .int .i64 i, .int .i64 x, .int .i64 0, .int .i64 0, .int .i64 0, .int .u32 0, .int .u32 0, .slice none 0 0]
/-- A fate. -/
def fateOf (k d a : Int) : List Value := [.int .i64 3, .int .i64 0, .int .i64 0, .int .i64 k, .int .i64 d, .int .i64 a, .int .u32 0, .int .u32 0, .slice none 0 0]
/-- A send, its body in block b. -/
def sendOf (i : Int) (b : Nat) : List Value := [.int .i64 6, .int .i64 i, .int .i64 0, .int .i64 0, .int .i64 0, .int .i64 0, .int .u32 0, .int .u32 0, .slice (some ⟨b, 0, none⟩) 1 1]

noncomputable def headT (q : Fix) (i : Nat) (x : Int) (i0 : Nat) (D : Int) (stay : Tree View) (goT goF : Tree View) : Tree View :=
  .fork (ltI (.ofNat i) (.ofNat q.L)) (.fork (ltI (.ofNat i) 300) (.fork (sameO ((indexAddrC Tryz.prog 23).run (.slice (some ⟨1, 0, none⟩) q.L q.cap) (.int .i64 (.ofNat i))) (.pointer (some ⟨1, i, none⟩)))
    (.fork (sameO (nthL q.bs i) (.int .u8 x)) (.fork (eqI ((IntKind.i64.wrap (wrapF .u8 (x.tdiv 8))).tmod (.ofNat q.N)) (.ofNat i0)) (.fork (hasB D i0) goT goF) .no) .no) .no) stay) stay

noncomputable def wholeB (n : Nat) (acts : List Value) : Bool := Nat.beq acts.length (n * 9) && Nat.beq n n && Nat.ble ((n + 1) * (Tryz.prog.types[42]!).bytes) room && Nat.ble (n + 1) room
def calmB (x : Bool) : Nat → Bool
  | 0 => true
  | k + 1 => x && calmB x k

/-- The end of a round: the count is held against F. -/
noncomputable def tailT (q : Fix) (s : St) (i : Nat) : Tree View :=
  .fork (calmB (sameF (.int .i64 q.c.F) (.int .i64 q.c.F)) 3) (.fork (ltI q.c.F (cnt s.Fy)) (.leaf (q.view .ret s i)) (.leaf (q.view .normal s (wrapF .i64 (.ofNat i + 1))))) .no

/-- One act more. -/
noncomputable def pushT (fk : Bool) (s : St) (act : List Value) (k : St → Tree View) : Tree View :=
  match fk with
  | true => (match s.A with | .nil => .no | .row n l => .fork (wholeB n l) (k { s with A := .row (n + 1) (l ++ act) }) .no)
  | false => k { s with A := s.A.push act }
noncomputable def pushesT (fk : Bool) (s : St) (l : List (List Value)) (k : St → Tree View) : Tree View :=
  match l with
  | [] => k s
  | a :: l => pushT fk s a fun s => pushesT fk s l k

noncomputable def kindT (x : Int) (kd : Nat) (t : Tree View) : Tree View := .fork (eqI (x.tmod 8) (.ofNat kd)) t .no

/-- A crash. -/
noncomputable def crashT (fk : Bool) (i0 : Nat) (s : St) (k : St → Tree View) : Tree View :=
  pushT fk s (actOf 4 i0 0) fun s => .fork (calmB (sameF (.int .u64 s.Fy) (.int .u64 s.Fy)) 2) (k { s with D := withB s.D i0, Fy := withB s.Fy i0 }) .no

/-- May one more node fail? -/
noncomputable def moreT (q : Fix) (Fy : Int) (t f : Tree View) : Tree View := .fork (calmB (sameF (.int .i64 q.c.F) (.int .i64 q.c.F)) 2) (.fork (ltI (cnt Fy) q.c.F) t f) .no
/-- A send of a node, its body in block b. -/
noncomputable def St.sent (s : St) (i0 : Nat) : Int := match i0 with | 0 => s.s0 | 1 => s.s1 | 2 => s.s2 | _ => s.s3
noncomputable def St.more (s : St) (i0 : Nat) : St :=
  match i0 with
  | 0 => { s with s0 := wrapF .i64 (s.s0 + 1) }
  | 1 => { s with s1 := wrapF .i64 (s.s1 + 1) }
  | 2 => { s with s2 := wrapF .i64 (s.s2 + 1) }
  | _ => { s with s3 := wrapF .i64 (s.s3 + 1) }
/-- The fates of a send that all hear, of k links from number j on. -/
def quicks (c : Nums) : Nat → Nat → List (List Value)
  | 0, _ => []
  | k + 1, j => (if j % 2 = 1 then fateOf 2 c.dmin c.dmax else fateOf 0 c.dmin 0) :: quicks c k (j + 1)
/-- Of a send amid which its node crashes. -/
def amids (c : Nums) (all : Nat) : Nat → Nat → List (List Value)
  | 0, _ => []
  | k + 1, j => (if j < (all + 1) / 2 then fateOf 1 0 0 else fateOf 0 c.dmax 0) :: amids c all k (j + 1)

/-- Is a node's send sure? -/
noncomputable def sureT (s : St) (i0 : Nat) (t f : Tree View) : Tree View :=
  .fork (hasB s.Fy i0) (.fork (calmB true 1) f .no) (.fork (calmB (sameF (.int .i64 (s.sent i0)) (.int .i64 (s.sent i0))) 1) (.fork (ltI (s.sent i0) 32) t f) .no)

/-- Where the body of a send lies. -/
def body3 : Nat → Nat
  | 2 => 252
  | 3 => 292
  | _ => 327
def body7 : Nat → Nat
  | 2 => 318
  | 3 => 355
  | _ => 387
noncomputable def bodyT (fk : Bool) (q : Fix) (s : St) (i : Nat) (x : Int) (i0 kd : Nat) (down : Bool) : Tree View :=
  match kd with
  | 3 => kindT x 3 (sureT s i0 (pushesT fk s (quicks q.c (q.N - 1) 0 ++ [sendOf (.ofNat i0) (body3 q.N)]) fun s => tailT q (s.more i0) i) (pushT fk s (sendOf (.ofNat i0) 127) fun s => tailT q (s.more i0) i))
  | 4 => kindT x 4 (.fork (ltI x 128) (pushT fk s (actOf 2 i0 (IntKind.i64.wrap (0 - q.c.rho))) fun s => tailT q s i) (pushT fk s (actOf 2 i0 q.c.rho) fun s => tailT q s i))
  | 5 => kindT x 5 (match down with
    | false => pushT fk s (actOf 1 0 2) fun s => tailT q s i
    | true => pushesT fk { s with D := lessB s.D i0 } [actOf 5 i0 0, actOf 7 i0 0] fun s => tailT q s i)
  | 6 => kindT x 6 (.fork (hasB s.Fy i0) (pushT fk s (actOf 1 0 3) fun s => tailT q s i) (moreT q s.Fy (crashT fk i0 s fun s => tailT q s i) (pushT fk s (actOf 1 0 3) fun s => tailT q s i)))
  | 7 => kindT x 7 (sureT s i0 (moreT q s.Fy (pushesT fk s (amids q.c (q.N - 1) (q.N - 1) 0 ++ [sendOf (.ofNat i0) (body7 q.N)]) fun s => crashT fk i0 (s.more i0) fun s => tailT q s i) (pushT fk s (actOf 1 0 8) fun s => tailT q s i)) (pushT fk s (actOf 1 0 8) fun s => tailT q s i))
  | kd => kindT x kd (kindT x kd (pushT fk s (actOf 1 0 (2 ^ (2 * kd) : Nat)) fun s => tailT q s i))

noncomputable def roundT (fk : Bool) (q : Fix) (s : St) (i : Nat) (x : Int) (i0 kd : Nat) : Tree View :=
  headT q i x i0 s.D (.leaf (q.view (.exit 0) s i)) (bodyT fk q s i x i0 kd true) (bodyT fk q s i x i0 kd false)
end Go.Ev
