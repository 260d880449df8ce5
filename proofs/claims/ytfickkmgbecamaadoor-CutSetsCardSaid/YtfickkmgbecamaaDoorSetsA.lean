/- Answers laid by hand for the document's sets: power, Has, in, Of, List. -/
import Derived.Test.YtfickkmgbecamaaDoorEvZk
import Derived.Test.YtfickkmgbecamaaDoorProg
import Derived.KernelRfl
namespace Go.Ev
open Go.Proofs
set_option maxRecDepth 1000000

theorem globals_one : Tryd.prog.globals.size = 1 := by kernel_rfl

theorem pow_table : (List.range 64).map (fun i => ((evC Tryd.prog oNone 400).call 73 #[.int .i64 (i : Nat)] (bare 1)).map (·.1)) = (List.range 64).map fun i => some (.int .u64 (2 ^ i : Nat)) := by kernel_rfl

theorem pow_ok (i : Nat) (hi : i < 64) (h : AHeap) : CallOk Tryd.prog 73 #[.int .i64 (i : Nat)] h (.int .u64 (2 ^ i : Nat)) h :=
  CallOk.numbers oNone_ok (k := 400) rfl rfl (by rw [globals_one]; exact List.map_inj_left.1 pow_table i (List.mem_range.2 hi))

noncomputable def oPow : Oracle := fun f args h =>
  if f = 73 then
    match args.toList with
    | [.int .i64 (.ofNat i)] => (match Nat.blt i 64 with | true => some (.int .u64 (2 ^ i : Nat), h) | false => none)
    | _ => none
  else none

theorem oPow_ok : OracleOk Tryd.prog oPow := fun f args h v h' hv => by
  unfold oPow at hv
  split at hv
  case isFalse => cases hv
  rename_i hf
  subst hf
  split at hv
  case h_2 => cases hv
  rename_i i ha
  split at hv
  case h_2 => cases hv
  rename_i hi
  cases hv
  obtain rfl : args = #[.int .i64 (i : Nat)] := by rw [← Array.toList_inj, ha]; rfl
  exact pow_ok i (by simpa using hi) h

def hasV (s : Int) (i : Nat) : Bool := eqI ((wrapF .u64 (s.tdiv ((2 ^ i : Nat) : Int))).tmod 2) 1

theorem has_table (s : Int) : (List.range 64).map (fun i => ((evC Tryd.prog oPow 40).call 57 #[.int .u64 s, .int .i64 (i : Nat)] (bare 1)).map (·.1)) = (List.range 64).map fun i => some (.bool (hasV s i)) := by kernel_rfl

theorem has_ok (s : Int) (i : Nat) (hi : i < 64) (h : AHeap) : CallOk Tryd.prog 57 #[.int .u64 s, .int .i64 (i : Nat)] h (.bool (hasV s i)) h :=
  CallOk.numbers oPow_ok (k := 40) rfl rfl (by rw [globals_one]; exact List.map_inj_left.1 (has_table s) i (List.mem_range.2 hi))

noncomputable def oHas : Oracle := fun f args h =>
  if f = 57 then
    match args.toList with
    | [.int .u64 s, .int .i64 (.ofNat i)] => (match Nat.blt i 64 with | true => some (.bool (hasV s i), h) | false => none)
    | _ => none
  else oPow f args h

theorem oHas_ok : OracleOk Tryd.prog oHas := fun f args h v h' hv => by
  unfold oHas at hv
  split at hv
  case isFalse => exact oPow_ok f args h v h' hv
  rename_i hf
  subst hf
  split at hv
  case h_2 => cases hv
  rename_i s i ha
  split at hv
  case h_2 => cases hv
  rename_i hi
  cases hv
  obtain rfl : args = #[.int .u64 s, .int .i64 (i : Nat)] := by rw [← Array.toList_inj, ha]; rfl
  exact has_ok s i (by simpa using hi) h

/-! ### in -/
def cellsI (xs : List Int) : List Value := xs.map (.int .i64 ·)
theorem cellsI_plain (xs : List Int) : (cellsI xs).all pv1 = true := by
  simp [cellsI, pv1]
def inB : List Int → Int → Bool
  | [], _ => false
  | x :: l, i => match eqI x i with | true => true | false => inB l i
def inTree : List Int → Int → Tree Value
  | [], _ => .leaf (.bool false)
  | x :: l, i => .fork (eqI x i) (.leaf (.bool true)) (inTree l i)
theorem inTree_all (i : Int) : ∀ l, (inTree l i).All (· = .bool (inB l i))
  | [] => rfl
  | x :: l => ⟨fun h => by simp only [Tree.All, inB, h], fun h => by simp only [inB, h]; exact inTree_all i l⟩

def kIn : Spl := fun f d => match Nat.beq f 72 && Nat.beq d 17 with | true => some .bool | false => none
theorem in1 (x0 i : Int) : ((evN Tryd.prog oNone kIn 60).call 72 #[.slice (some ⟨1, 0, none⟩) 1 1, .int .i64 i] (rowHeap (cellsI [x0]) 3 true)).map (·.1) = inTree [x0] i := by kernel_rfl
theorem in2 (x0 x1 i : Int) : ((evN Tryd.prog oNone kIn 60).call 72 #[.slice (some ⟨1, 0, none⟩) 2 2, .int .i64 i] (rowHeap (cellsI [x0, x1]) 3 true)).map (·.1) = inTree [x0, x1] i := by kernel_rfl
theorem in3 (x0 x1 x2 i : Int) : ((evN Tryd.prog oNone kIn 60).call 72 #[.slice (some ⟨1, 0, none⟩) 3 3, .int .i64 i] (rowHeap (cellsI [x0, x1, x2]) 3 true)).map (·.1) = inTree [x0, x1, x2] i := by kernel_rfl
theorem in4 (x0 x1 x2 x3 i : Int) : ((evN Tryd.prog oNone kIn 60).call 72 #[.slice (some ⟨1, 0, none⟩) 4 4, .int .i64 i] (rowHeap (cellsI [x0, x1, x2, x3]) 3 true)).map (·.1) = inTree [x0, x1, x2, x3] i := by kernel_rfl

theorem in_ok {xs : List Int} {i : Int} {h : AHeap} {b : Nat} {ro : Bool} (hl : xs.length = 1 ∨ xs.length = 2 ∨ xs.length = 3 ∨ xs.length = 4) (hb : h.get b = some (.cells (cellsI xs) 3 ro true)) :
    CallOk Tryd.prog 72 #[.slice (some ⟨b, 0, none⟩) xs.length xs.length, .int .i64 i] h (.bool (inB xs i)) h := by
  have key : ((evN Tryd.prog oNone kIn 60).call 72 #[.slice (some ⟨1, 0, none⟩) xs.length xs.length, .int .i64 i] (rowHeap (cellsI xs) 3 true)).map (·.1) = inTree xs i := by
    match xs, hl with
    | [x0], _ => exact in1 x0 i
    | [x0, x1], _ => exact in2 x0 x1 i
    | [x0, x1, x2], _ => exact in3 x0 x1 x2 i
    | [x0, x1, x2, x3], _ => exact in4 x0 x1 x2 x3 i
  obtain ⟨v, h', rfl, hc⟩ := evN_call oNone_ok key (inTree_all i xs)
  exact hc.pure rfl (rowHeap_ro _ _ _) (fun μ w args' hR hT hA => row_start globals_one (more := [.int .i64 i]) rfl hb (cellsI_plain xs) μ w args' hR hT (by simpa using hA))

def toInts : List Value → Option (List Int)
  | [] => some []
  | .int k x :: l => match kindEq k .i64 with | true => (match toInts l with | some xs => some (x :: xs) | none => none) | false => none
  | _ => none
theorem toInts_eq : ∀ {l : List Value} {xs : List Int}, toInts l = some xs → l = cellsI xs
  | [], xs, h => by cases h; rfl
  | v :: l, xs, h => by
    cases v <;> try (cases h; done)
    rename_i k x
    simp only [toInts] at h
    split at h
    · rename_i hk
      split at h
      · rename_i ys hy
        cases h
        rw [(kindEq_iff _ _).1 hk, toInts_eq hy]; rfl
      · cases h
    · cases h

def len14 (n : Nat) : Bool := match n with | 1 | 2 | 3 | 4 => true | _ => false
theorem len14_iff {n : Nat} (h : len14 n = true) : n = 1 ∨ n = 2 ∨ n = 3 ∨ n = 4 := by
  unfold len14 at h; split at h <;> simp_all

/-- A row of one to four numbers that an append made, whole: its numbers. -/
def rowOf (h : AHeap) (b n k : Nat) : Option (List Int) :=
  match getQ h.tr b with
  | some (.cells c e _ true) =>
    (match Nat.beq e 3 with
    | true => (match toInts c with
      | some xs => (match len14 xs.length && Nat.beq n xs.length && Nat.beq k xs.length with | true => some xs | false => none)
      | none => none)
    | false => none)
  | _ => none
theorem rowOf_eq {h : AHeap} {b n k : Nat} {xs : List Int} (hr : rowOf h b n k = some xs) : (∃ ro, h.get b = some (.cells (cellsI xs) 3 ro true)) ∧ (xs.length = 1 ∨ xs.length = 2 ∨ xs.length = 3 ∨ xs.length = 4) ∧ n = xs.length ∧ k = xs.length := by
  unfold rowOf at hr
  rw [getQ_eq] at hr
  split at hr
  · rename_i c e ro hg
    split at hr
    · rename_i he
      split at hr
      · rename_i ys hy
        split at hr
        · rename_i hl
          cases hr
          simp only [Bool.and_eq_true, Nat.beq_eq] at hl
          rw [Nat.beq_eq] at he
          subst he
          exact ⟨⟨ro, by rw [toInts_eq hy] at hg; exact hg⟩, len14_iff hl.1.1, hl.1.2, hl.2⟩
        · cases hr
      · cases hr
    · cases hr
  · cases hr

noncomputable def oIn : Oracle := fun f args h =>
  if f = 72 then
    match args.toList with
    | [.slice (some ⟨b, 0, none⟩) n k, .int .i64 i] => (match rowOf h b n k with | some xs => some (.bool (inB xs i), h) | none => none)
    | _ => none
  else oHas f args h

theorem oIn_ok : OracleOk Tryd.prog oIn := fun f args h v h' hv => by
  unfold oIn at hv
  split at hv
  case isFalse => exact oHas_ok f args h v h' hv
  rename_i hf
  subst hf
  split at hv
  case h_2 => cases hv
  rename_i b n k i ha
  split at hv
  case h_2 => cases hv
  rename_i xs hr
  cases hv
  obtain ⟨⟨ro, hb⟩, hl, rfl, rfl⟩ := rowOf_eq hr
  obtain rfl : args = #[.slice (some ⟨b, 0, none⟩) xs.length xs.length, .int .i64 i] := by rw [← Array.toList_inj, ha]
  exact in_ok hl hb

/-! ### Of, List: of the sets of few of eight nodes -/
def bitsOf (s : Nat) : List Int := ((List.range 8).filter fun i => Nat.testBit s i).map Int.ofNat
def keyOf : List Int → Nat
  | .ofNat i :: l => 2 ^ i + keyOf l
  | _ => 0

noncomputable def ofOk (s : Nat) : Bool :=
  match len14 (bitsOf s).length with
  | false => true
  | true => match (evC Tryd.prog oIn 200).call 56 #[.slice (some ⟨1, 0, none⟩) (bitsOf s).length (bitsOf s).length] (rowHeap (cellsI (bitsOf s)) 3 true) with
    | some (.int k x, _) => (match kindEq k .u64 with | true => eqI x (.ofNat s) | false => false)
    | _ => false

end Go.Ev
