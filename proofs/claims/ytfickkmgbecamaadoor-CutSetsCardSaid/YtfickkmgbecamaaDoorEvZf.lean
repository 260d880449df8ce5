/- Operations, laid out ahead. -/
import Derived.Test.YtfickkmgbecamaaDoorEvZe
namespace Go.Ev

/-! ### Memory -/
def setL : List Value → Nat → Value → Option (List Value)
  | [], _, _ => none
  | _ :: l, 0, x => some (x :: l)
  | y :: l, n + 1, x => match setL l n x with | some l' => some (y :: l') | none => none
theorem setL_eq : ∀ (l : List Value) (n : Nat) (x : Value), setL l n x = if n + 1 ≤ l.length then some (setRow l n [x]) else none
  | [], n, x => by simp [setL]
  | y :: l, 0, x => by simp [setL, setRow]
  | y :: l, n + 1, x => by
    simp only [setL, setL_eq l n x]
    by_cases h : n + 1 ≤ l.length
    · rw [if_pos h, if_pos (by simp; omega)]
      simp [setRow]
    · rw [if_neg h, if_neg (by simp; omega)]

def nthL : List Value → Nat → Option Value
  | [], _ => none
  | y :: _, 0 => some y
  | _ :: l, n + 1 => nthL l n
theorem nthL_eq : ∀ (l : List Value) (n : Nat), nthL l n = l[n]?
  | [], _ => by simp [nthL]
  | y :: l, 0 => by simp [nthL]
  | y :: l, n + 1 => by simp [nthL, nthL_eq l n]

structure CM where run : AHeap → Value → Option Value
def loadC (P : Program) (t : TypeId) : CM :=
  match P.underlying t with
  | none => ⟨fun _ _ => none⟩
  | some d =>
    match isAggD d with
    | false => ⟨fun h v => match v with | .pointer (some ⟨b, off, none⟩) => (match getQ h.tr b with | some (.cells c _ _ _) => nthL c off | _ => none) | _ => none⟩
    | true =>
      match P.info? t with
      | none => ⟨fun _ _ => none⟩
      | some i => ⟨fun h v => match v with
        | .pointer (some ⟨b, off, none⟩) => (match getQ h.tr b with | some (.cells c _ _ _) => (match loadRow c off i.size with | some xs => some (.agg xs.toArray) | none => none) | _ => none)
        | _ => none⟩
theorem loadC_run (P : Program) (t : TypeId) (h : AHeap) (v : Value) : (loadC P t).run h v = loadA P h t v := by
  unfold loadC loadA
  simp only [getQ_eq, nthL_eq, AHeap.get]
  cases hd : P.underlying t with
  | none =>
    cases v <;> try rfl
    rename_i a
    rcases a with _ | ⟨b, off, _ | s⟩ <;> try rfl
    simp only
    cases h.tr.get b with
    | none => rfl
    | some o => cases o <;> rfl
  | some d =>
    simp only
    cases hb : isAggD d with
    | false =>
      cases v <;> try rfl
      rename_i a
      rcases a with _ | ⟨b, off, _ | s⟩ <;> try rfl
      simp only
      cases h.tr.get b with
      | none => rfl
      | some o => cases o <;> first | rfl | simp [hb]
    | true =>
      simp only
      cases hi : P.info? t with
      | none =>
        cases v <;> try rfl
        rename_i a
        rcases a with _ | ⟨b, off, _ | s⟩ <;> try rfl
        simp only
        cases h.tr.get b with
        | none => rfl
        | some o => cases o <;> first | rfl | simp [hb]
      | some i =>
        cases v <;> try rfl
        rename_i a
        rcases a with _ | ⟨b, off, _ | s⟩ <;> try rfl
        simp only
        cases h.tr.get b with
        | none => rfl
        | some o => cases o <;> first | rfl | (simp only [hb, if_true]; cases loadRow _ _ _ <;> rfl)

structure CW where run : AHeap → Value → Value → Option AHeap
/-- One cell, the common case, first. -/
def storeC (P : Program) (t : TypeId) : CW :=
  match P.info? t with
  | none => ⟨fun h a x => storeA P h t a x⟩
  | some i =>
    match Nat.beq i.size 1 with
    | false => ⟨fun h a x => storeA P h t a x⟩
    | true => ⟨fun h a x => match oneCell x with
      | false => storeA P h t a x
      | true => (match a with
        | .pointer (some ⟨b, off, none⟩) => (match getQ h.tr b with
          | some (.cells c e false g) => (match setL c off x with | some c' => some ⟨h.tr.set b (.cells c' e false g), h.next⟩ | none => none)
          | _ => none)
        | _ => none)⟩
theorem cells_one {x : Value} (h : oneCell x = true) : x.cells = #[x] := by cases x <;> first | rfl | cases h
theorem storeC_run (P : Program) (t : TypeId) (h : AHeap) (a x : Value) : (storeC P t).run h a x = storeA P h t a x := by
  unfold storeC
  split
  · rfl
  rename_i i hi
  split
  · rfl
  rename_i h1
  have h1' : i.size = 1 := by simpa using h1
  simp only
  split
  · rfl
  rename_i hx
  unfold storeA
  simp only [getQ_eq, AHeap.get, hi]
  cases a <;> try rfl
  rename_i a
  rcases a with _ | ⟨b, off, _ | s⟩ <;> try rfl
  simp only
  cases h.tr.get b with
  | none => rfl
  | some o =>
    cases o with
    | cells c e ro g =>
      cases ro with
      | true => rfl
      | false =>
        simp only [cells_one hx, setL_eq, h1']
        by_cases hl : off + 1 ≤ c.length
        · rw [if_pos hl, if_pos ⟨by simp, hl, by simp [hx]⟩]; rfl
        · rw [if_neg hl, if_neg (fun hc => hl hc.2.1)]
    | _ => rfl

/-! ### Addresses -/
def inR (i : Int) (n : Nat) : Option Nat := match i with | .ofNat m => (match Nat.blt m n with | true => some m | false => none) | .negSucc _ => none
theorem inR_eq (i : Int) (n : Nat) : inR i n = if 0 ≤ i ∧ i < n then some i.toNat else none := by
  cases i with
  | ofNat m =>
    simp only [inR]
    split
    · rename_i h; rw [if_pos ⟨by simp, by simp at h; simpa using h⟩]; rfl
    · rename_i h
      rw [if_neg]
      rintro ⟨_, hc⟩
      have : m < n := by simpa using hc
      rw [← Nat.blt_eq] at this; rw [this] at h; cases h
  | negSucc m => simp only [inR]; rw [if_neg]; rintro ⟨h, _⟩; omega

structure CX where run : Value → Value → Option Value
def indexAddrC (P : Program) (t : TypeId) : CX :=
  match P.underlying t with
  | some (.array len e) =>
    (match P.info? e with
    | some j => ⟨fun x ix => match x with
      | .pointer (some ⟨b, o, none⟩) => (match ix with | .int _ i => (match inR i len with | some m => some (.pointer (some ⟨b, o + m * j.size, none⟩)) | none => none) | _ => none)
      | _ => none⟩
    | none => ⟨fun _ _ => none⟩)
  | some (.slice e) =>
    (match P.info? e with
    | some j => ⟨fun x ix => match x with
      | .slice (some ⟨b, o, none⟩) len _ => (match ix with | .int _ i => (match inR i len with | some m => some (.pointer (some ⟨b, o + m * j.size, none⟩)) | none => none) | _ => none)
      | _ => none⟩
    | none => ⟨fun _ _ => none⟩)
  | _ => ⟨fun x ix => indexAddrA P t x ix⟩
theorem indexAddrC_run (P : Program) (t : TypeId) (x ix : Value) : (indexAddrC P t).run x ix = indexAddrA P t x ix := by
  unfold indexAddrC
  split
  · rename_i len e ht
    cases hj : P.info? e with
    | none =>
      unfold indexAddrA; simp only [ht]
      cases x <;> try rfl
      rename_i a
      rcases a with _ | ⟨b, off, _ | s⟩ <;> try rfl
      cases ix <;> first | rfl | simp [hj]
    | some j =>
      unfold indexAddrA; simp only [ht, inR_eq]
      cases x <;> try rfl
      rename_i a
      rcases a with _ | ⟨b, off, _ | s⟩ <;> try rfl
      cases ix <;> try rfl
      rename_i k i
      simp only [hj]
      by_cases hr : 0 ≤ i ∧ i < (len : Int)
      · rw [if_pos hr, if_pos hr]
      · rw [if_neg hr, if_neg hr]
  · rename_i e ht
    cases hj : P.info? e with
    | none =>
      unfold indexAddrA; simp only [ht]
      cases x <;> try rfl
      rename_i a l c
      rcases a with _ | ⟨b, off, _ | s⟩ <;> try rfl
      cases ix <;> first | rfl | simp [hj]
    | some j =>
      unfold indexAddrA; simp only [ht, inR_eq]
      cases x <;> try rfl
      rename_i a l c
      rcases a with _ | ⟨b, off, _ | s⟩ <;> try rfl
      cases ix <;> try rfl
      rename_i k i
      simp only [hj]
      by_cases hr : 0 ≤ i ∧ i < (l : Int)
      · rw [if_pos hr, if_pos hr]
      · rw [if_neg hr, if_neg hr]
  · rfl

structure CF where run : Value → Option Value
def fieldAddrC (P : Program) (s : TypeId) (f : Nat) : CF :=
  match P.underlying s with
  | some (.struct fs) =>
    (match fs[f]? with
    | some fd => (match P.info? fd.type with
      | some j => (match Nat.beq j.size 0 with
        | true => ⟨fun _ => none⟩
        | false => ⟨fun x => match x with | .pointer (some ⟨b, o, none⟩) => some (.pointer (some ⟨b, o + fd.offset, none⟩)) | _ => none⟩)
      | none => ⟨fun _ => none⟩)
    | none => ⟨fun _ => none⟩)
  | _ => ⟨fun _ => none⟩
theorem fieldAddrC_run (P : Program) (s : TypeId) (f : Nat) (x : Value) : (fieldAddrC P s f).run x = fieldAddrA P s x f := by
  unfold fieldAddrC fieldAddrA
  split
  · rename_i fs hs
    simp only [hs]
    cases hf : fs[f]? with
    | none =>
      simp only
      cases x <;> try rfl
      rename_i a
      rcases a with _ | ⟨b, off, _ | s⟩ <;> try rfl
      simp [hf]
    | some fd =>
      simp only
      cases hj : P.info? fd.type with
      | none =>
        simp only
        cases x <;> try rfl
        rename_i a
        rcases a with _ | ⟨b, off, _ | s⟩ <;> try rfl
        simp [hf, hj]
      | some j =>
        simp only
        split
        · rename_i h0; have h0' : j.size = 0 := by simpa using h0
          cases x <;> try rfl
          rename_i a
          rcases a with _ | ⟨b, off, _ | s⟩ <;> try rfl
          simp [hf, hj, h0']
        · rename_i h0; have h0' : ¬ j.size = 0 := by intro hc; rw [hc] at h0; cases h0
          cases x <;> try rfl
          rename_i a
          rcases a with _ | ⟨b, off, _ | s⟩ <;> try rfl
          simp [hf, hj, h0']
  · rename_i hs
    split
    · rename_i h1; exact (hs _ h1).elim
    · rfl

end Go.Ev
