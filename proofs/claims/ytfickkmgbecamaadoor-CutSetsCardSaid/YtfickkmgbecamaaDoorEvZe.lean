/- The evaluator laid out ahead: what hangs on the code alone is reckoned once (closed terms, which the kernel keeps), so that a step is short. -/
import Derived.Test.YtfickkmgbecamaaDoorEvZd
namespace Go.Ev

/-! ### Slots -/
structure CG where run : Tr Value → Option Value
def getC : Nat → Nat → CG
  | 0, _ => ⟨fun _ => none⟩
  | _ + 1, 0 => ⟨fun t => match t with | .leaf => none | .node _ v _ => v⟩
  | k + 1, m + 1 =>
    match m % 2 with
    | 0 => ⟨fun t => match t with | .leaf => none | .node l _ _ => (getC k (m / 2)).run l⟩
    | _ + 1 => ⟨fun t => match t with | .leaf => none | .node _ _ r => (getC k (m / 2)).run r⟩

theorem getC_run : ∀ (k n : Nat) (t : Tr Value), n < k → (getC k n).run t = t.get n
  | 0, _, _, h => by omega
  | k + 1, 0, t, _ => by cases t <;> rfl
  | k + 1, m + 1, t, h => by
    unfold getC
    split
    · rename_i hm
      cases t with
      | leaf => rfl
      | node l v r => simp only [Tr.get]; rw [if_pos hm]; exact getC_run k (m / 2) l (by omega)
    · rename_i x hm
      cases t with
      | leaf => rfl
      | node l v r => simp only [Tr.get]; rw [if_neg (by omega)]; exact getC_run k (m / 2) r (by omega)

structure CP where run : Tr Value → Value → Tr Value
def setC : Nat → Nat → CP
  | 0, _ => ⟨fun t _ => t⟩
  | _ + 1, 0 => ⟨fun t x => match t with | .leaf => .node .leaf (some x) .leaf | .node l _ r => .node l (some x) r⟩
  | k + 1, m + 1 =>
    match m % 2 with
    | 0 => ⟨fun t x => match t with | .leaf => .node ((setC k (m / 2)).run .leaf x) none .leaf | .node l u r => .node ((setC k (m / 2)).run l x) u r⟩
    | _ + 1 => ⟨fun t x => match t with | .leaf => .node .leaf none ((setC k (m / 2)).run .leaf x) | .node l u r => .node l u ((setC k (m / 2)).run r x)⟩

theorem setC_run : ∀ (k n : Nat) (t : Tr Value) (x : Value), (setC k n).run t x = Tr.setF k t n x
  | 0, _, _, _ => rfl
  | k + 1, 0, t, _ => by cases t <;> rfl
  | k + 1, m + 1, t, x => by
    unfold setC
    split
    · rename_i hm
      cases t with
      | leaf => simp only [Tr.setF]; rw [if_pos hm, setC_run]
      | node l v r => simp only [Tr.setF]; rw [if_pos hm, setC_run]
    · rename_i y hm
      cases t with
      | leaf => simp only [Tr.setF]; rw [if_neg (by omega), setC_run]
      | node l v r => simp only [Tr.setF]; rw [if_neg (by omega), setC_run]

/-- A block by its number. -/
def getQ {α : Type} : Tr α → Nat → Option α
  | .leaf, _ => none
  | .node _ v _, 0 => v
  | .node l _ r, m + 1 => match m % 2 with | 0 => getQ l (m / 2) | _ + 1 => getQ r (m / 2)
theorem getQ_eq {α : Type} : ∀ (t : Tr α) (n : Nat), getQ t n = t.get n
  | .leaf, n => by cases n <;> rfl
  | .node _ v _, 0 => rfl
  | .node l _ r, m + 1 => by
    unfold getQ Tr.get
    split
    · rename_i hm; rw [if_pos hm, getQ_eq]
    · rename_i y hm; rw [if_neg (by omega), getQ_eq]

/-! ### Numbers -/
def wrapU (m : Nat) : Int → Int
  | .ofNat a => .ofNat (a % m)
  | .negSucc a => .ofNat (m - 1 - a % m)
def wrapS (m half : Nat) (n : Int) : Int :=
  match n with
  | .ofNat a => (match Nat.blt (a % m) half with | true => .ofNat (a % m) | false => .negSucc (m - 1 - a % m))
  | .negSucc a => (match Nat.blt (m - 1 - a % m) half with | true => .ofNat (m - 1 - a % m) | false => .negSucc (a % m))
def wrapF : IntKind → Int → Int
  | .u64, n => wrapU 18446744073709551616 n
  | .i64, n => wrapS 18446744073709551616 9223372036854775808 n
  | .u8, n => wrapU 256 n
  | .u32, n => wrapU 4294967296 n
  | k, n => k.wrap n

theorem wrapU_eq (k : IntKind) (m : Nat) (hs : k.signed = false) (hm : (2 ^ k.bits : Int) = m) (h0 : 0 < m) (n : Int) : wrapU m n = k.wrap n := by
  unfold IntKind.wrap
  simp only [hs, Bool.false_and, Bool.false_eq_true, if_false, hm]
  cases n with
  | ofNat a => simp [wrapU]
  | negSucc a =>
    simp only [wrapU]
    rw [Int.negSucc_emod a (by omega)]
    have : a % m < m := Nat.mod_lt _ h0
    simp only [Int.ofNat_eq_natCast]
    rw [← Int.natCast_emod]
    omega

theorem wrapS_eq (k : IntKind) (m half : Nat) (hs : k.signed = true) (hm : (2 ^ k.bits : Int) = m) (hh : (2 ^ (k.bits - 1) : Int) = half) (h2 : m = 2 * half) (h0 : 0 < half) (n : Int) : wrapS m half n = k.wrap n := by
  unfold IntKind.wrap
  simp only [hs, Bool.true_and, hm, hh, decide_eq_true_eq]
  cases n with
  | ofNat a =>
    have hlt : a % m < m := Nat.mod_lt _ (by omega)
    have e : (Int.ofNat a) % (m : Int) = ((a % m : Nat) : Int) := by simp
    rw [e]
    simp only [wrapS]
    split
    · rename_i h; simp at h; rw [if_neg (by omega)]; rfl
    · rename_i h
      have h' : half ≤ a % m := by
        have : ¬ a % m < half := by intro hc; rw [← Nat.blt_eq] at hc; rw [h] at hc; cases hc
        omega
      rw [if_pos (by omega)]; rw [Int.negSucc_eq]; omega
  | negSucc a =>
    have hlt : a % m < m := Nat.mod_lt _ (by omega)
    have e : (Int.negSucc a) % (m : Int) = ((m - 1 - a % m : Nat) : Int) := by
      rw [Int.negSucc_emod a (by omega), ← Int.natCast_emod]; omega
    rw [e]
    simp only [wrapS]
    split
    · rename_i h; simp at h; rw [if_neg (by omega)]; rfl
    · rename_i h
      have h' : half ≤ m - 1 - a % m := by
        have : ¬ m - 1 - a % m < half := by intro hc; rw [← Nat.blt_eq] at hc; rw [h] at hc; cases hc
        omega
      rw [if_pos (by omega)]; rw [Int.negSucc_eq]; omega

theorem wrapF_eq (k : IntKind) (n : Int) : wrapF k n = k.wrap n := by
  cases k <;> simp only [wrapF]
  · exact wrapS_eq .i64 18446744073709551616 9223372036854775808 rfl (by decide) (by decide) rfl (by decide) n
  · exact wrapU_eq .u8 _ rfl (by decide) (by decide) n
  · exact wrapU_eq .u32 _ rfl (by decide) (by decide) n
  · exact wrapU_eq .u64 _ rfl (by decide) (by decide) n

def eqI : Int → Int → Bool
  | .ofNat m, .ofNat n => Nat.beq m n
  | .negSucc m, .negSucc n => Nat.beq m n
  | _, _ => false
theorem eqI_eq (a b : Int) : eqI a b = (a == b) := by
  rw [Bool.eq_iff_iff]
  cases a <;> cases b <;> simp [eqI] <;> omega
theorem ltI_eq (a b : Int) : ltI a b = decide (a < b) := by rw [Bool.eq_iff_iff, ltI_iff]; simp
theorem leI_eq (a b : Int) : leI a b = decide (a ≤ b) := by rw [Bool.eq_iff_iff, leI_iff]; simp

/-- The lesser and the greater of two: told also of numbers with variables in them, as far as it can be. -/
def minN : Nat → Nat → Nat
  | 0, _ => 0
  | _ + 1, 0 => 0
  | m + 1, n + 1 => (match Nat.ble m n with | true => m | false => n) + 1
def maxN : Nat → Nat → Nat
  | 0, n => n
  | m + 1, 0 => m + 1
  | m + 1, n + 1 => (match Nat.ble m n with | true => n | false => m) + 1
theorem minN_eq : ∀ m n, minN m n = min m n
  | 0, n => by simp [minN]
  | m + 1, 0 => by simp [minN]
  | m + 1, n + 1 => by
    simp only [minN]
    split <;> rename_i h
    · have := Nat.le_of_ble_eq_true h; omega
    · have : ¬ m ≤ n := fun hc => by rw [Nat.ble_eq_true_of_le hc] at h; cases h
      omega
theorem maxN_eq : ∀ m n, maxN m n = max m n
  | 0, n => by simp [maxN]
  | m + 1, 0 => by simp [maxN]
  | m + 1, n + 1 => by
    simp only [maxN]
    split <;> rename_i h
    · have := Nat.le_of_ble_eq_true h; omega
    · have : ¬ m ≤ n := fun hc => by rw [Nat.ble_eq_true_of_le hc] at h; cases h
      omega
def minI : Int → Int → Int
  | .ofNat m, .ofNat n => .ofNat (minN m n)
  | .ofNat _, .negSucc n => .negSucc n
  | .negSucc m, .ofNat _ => .negSucc m
  | .negSucc m, .negSucc n => .negSucc (maxN m n)
def maxI : Int → Int → Int
  | .ofNat m, .ofNat n => .ofNat (maxN m n)
  | .ofNat m, .negSucc _ => .ofNat m
  | .negSucc _, .ofNat n => .ofNat n
  | .negSucc m, .negSucc n => .negSucc (minN m n)
theorem minI_eq (x y : Int) : minI x y = if y < x then y else x := by
  cases x <;> cases y <;> simp only [minI, minN_eq, maxN_eq, Int.ofNat_eq_natCast, Int.negSucc_eq] <;> split <;> omega
theorem maxI_eq (x y : Int) : maxI x y = if y > x then y else x := by
  cases x <;> cases y <;> simp only [maxI, minN_eq, maxN_eq, Int.ofNat_eq_natCast, Int.negSucc_eq] <;> split <;> omega

structure CI where run : IntKind → Int → Int → Option Value
def intC : BinOp → CI
  | .add => ⟨fun k a b => some (.int k (wrapF k (a + b)))⟩
  | .sub => ⟨fun k a b => some (.int k (wrapF k (a - b)))⟩
  | .mul => ⟨fun k a b => some (.int k (wrapF k (a * b)))⟩
  | .quo => ⟨fun k a b => match eqI b 0 with | true => none | false => some (.int k (wrapF k (a.tdiv b)))⟩
  | .rem => ⟨fun k a b => match eqI b 0 with | true => none | false => some (.int k (a.tmod b))⟩
  | .and => ⟨fun k a b => some (.int k (wrapF k ((BitVec.ofInt k.bits a &&& BitVec.ofInt k.bits b).toNat : Int)))⟩
  | .or => ⟨fun k a b => some (.int k (wrapF k ((BitVec.ofInt k.bits a ||| BitVec.ofInt k.bits b).toNat : Int)))⟩
  | .xor => ⟨fun k a b => some (.int k (wrapF k ((BitVec.ofInt k.bits a ^^^ BitVec.ofInt k.bits b).toNat : Int)))⟩
  | .andNot => ⟨fun k a b => some (.int k (wrapF k ((BitVec.ofInt k.bits a &&& ~~~ BitVec.ofInt k.bits b).toNat : Int)))⟩
  | .eql => ⟨fun _ a b => some (.bool (eqI a b))⟩
  | .neq => ⟨fun _ a b => some (.bool (!eqI a b))⟩
  | .lss => ⟨fun _ a b => some (.bool (ltI a b))⟩
  | .leq => ⟨fun _ a b => some (.bool (leI a b))⟩
  | .gtr => ⟨fun _ a b => some (.bool (ltI b a))⟩
  | .geq => ⟨fun _ a b => some (.bool (leI b a))⟩
  | op => ⟨fun k a b => intBin op k a b⟩
theorem intC_run (op : BinOp) (k : IntKind) (a b : Int) : (intC op).run k a b = intBin op k a b := by
  cases op <;> simp only [intC, intBin, wrapF_eq, eqI_eq, ltI_eq, leI_eq] <;> first | rfl | skip
  · by_cases h : b = 0
    · simp [h]
    · rw [show (b == 0) = false by simp [h], if_neg h]
  · by_cases h : b = 0
    · simp [h]
    · rw [show (b == 0) = false by simp [h], if_neg h]

def kindEq (a b : IntKind) : Bool := Nat.beq a.ctorIdx b.ctorIdx
theorem kindEq_iff (a b : IntKind) : kindEq a b = true ↔ a = b := by cases a <;> cases b <;> decide

structure CB where run : AHeap → Value → Value → Option Value
def binC (P : Program) (op : BinOp) (t : TypeId) : CB :=
  match op with
  | .shl | .shr => ⟨fun h x y => binA P h op t x y⟩
  | op => ⟨fun h x y => match x with
    | .int k a => (match y with | .int k' b => (match kindEq k k' with | true => (intC op).run k a b | false => none) | y => binA P h op t (.int k a) y)
    | x => binA P h op t x y⟩
theorem binC_run (P : Program) (op : BinOp) (t : TypeId) (h : AHeap) (x y : Value) : (binC P op t).run h x y = binA P h op t x y := by
  have key : ∀ k a k' b, op ≠ .shl → op ≠ .shr → (match kindEq k k' with | true => (intC op).run k a b | false => none) = binA P h op t (.int k a) (.int k' b) := by
    intro k a k' b h1 h2
    rw [intC_run]
    have : binA P h op t (.int k a) (.int k' b) = if k = k' then intBin op k a b else none := by
      cases op <;> first | rfl | exact (h1 rfl).elim | exact (h2 rfl).elim
    rw [this]
    split
    · rename_i hk; rw [if_pos ((kindEq_iff _ _).1 hk)]
    · rename_i hk; rw [if_neg (fun e => by rw [(kindEq_iff _ _).2 e] at hk; cases hk)]
  unfold binC
  split
  · rfl
  · rfl
  · rename_i n1 n2
    cases x <;> first | rfl | skip
    rename_i k a
    cases y <;> first | rfl | skip
    exact key k a _ _ n1 n2

/-! ### Operands -/
def evalC (P : Program) : Operand → CG
  | .tmp t => getC (t + 1) t
  | .const v => match pv v with | true => ⟨fun _ => some v⟩ | false => ⟨fun _ => none⟩
  | .global g => match Nat.blt g P.globals.size with | true => ⟨fun _ => some (.pointer (some ⟨g, 0, none⟩))⟩ | false => ⟨fun _ => none⟩
  | .func f => ⟨fun _ => some (.func (.func f) #[] #[])⟩
theorem evalC_run (P : Program) (e : Tr Value) (o : Operand) : (evalC P o).run e = evalO P.globals.size e o := by
  cases o with
  | tmp t => exact getC_run _ _ _ (by omega)
  | const v => simp only [evalC, evalO]; split <;> rename_i h <;> simp [h]
  | global g =>
    simp only [evalC, evalO]
    split <;> rename_i h
    · rw [if_pos (by simpa using h)]
    · rw [if_neg (fun hc => by rw [← Nat.blt_eq] at hc; rw [hc] at h; cases h)]
  | func f => rfl

structure CL where run : Tr Value → Option (List Value)
def evalsC (P : Program) : List Operand → CL
  | [] => ⟨fun _ => some []⟩
  | x :: xs => ⟨fun e => match (evalC P x).run e with | some v => (match (evalsC P xs).run e with | some vs => some (v :: vs) | none => none) | none => none⟩
theorem evalsC_run (P : Program) (e : Tr Value) : ∀ xs, (evalsC P xs).run e = evalsO P.globals.size e xs
  | [] => rfl
  | x :: xs => by
    simp only [evalsC, evalsO, evalC_run]
    cases evalO P.globals.size e x with
    | none => rfl
    | some v => simp only [evalsC_run P e xs]; cases evalsO P.globals.size e xs <;> rfl

structure CQ where run : Tr Value → Option (List (Nat × Value))
def partsC (P : Program) : List (Nat × Operand) → CQ
  | [] => ⟨fun _ => some []⟩
  | (i, x) :: xs => ⟨fun e => match (evalC P x).run e with | some v => (match (partsC P xs).run e with | some vs => some ((i, v) :: vs) | none => none) | none => none⟩
theorem partsC_run (P : Program) (e : Tr Value) : ∀ xs, (partsC P xs).run e = partsO P.globals.size e xs
  | [] => rfl
  | (i, x) :: xs => by
    simp only [partsC, partsO, evalC_run]
    cases evalO P.globals.size e x with
    | none => rfl
    | some v => simp only [partsC_run P e xs]; cases partsO P.globals.size e xs <;> rfl

end Go.Ev
