/- The order that the evaluator takes in a region whose order is drawn: what is checked of it, and what an operation depends on. -/
import Derived.Test.YtfickkmgbecamaaDoorEvS
namespace Go.Ev

/-! ### Who stands behind whom -/

inductive Reach (ops : Array Oper) : Nat → Nat → Prop where
  | edge {i : Nat} {o : Oper} {e : Edge} (ho : ops[i]? = some o) (he : e ∈ o.after) (hb : Region.binds .any e = true) : Reach ops i e.on
  | tail {i j k : Nat} (h : Reach ops i j) (h' : Reach ops j k) : Reach ops i k

def Closed (ops : Array Oper) (D : Nat → Prop) : Prop := ∀ i o, D i → ops[i]? = some o → ∀ e ∈ o.after, Region.binds .any e = true → D e.on

theorem Reach.closed {ops : Array Oper} {D : Nat → Prop} (hD : Closed ops D) {i k : Nat} (h : Reach ops i k) (hi : D i) : D k := by
  induction h with
  | edge ho he hb => exact hD _ _ hi ho _ he hb
  | tail _ _ ih ih' => exact ih' (ih hi)

/-- What stands ahead of an operation whose edges have been met has been done. -/
theorem Reach.met {ops : Array Oper} {D : Nat → Prop} (hD : Closed ops D) {i k : Nat} (h : Reach ops i k) (hi : ∀ o, ops[i]? = some o → ∀ e ∈ o.after, Region.binds .any e = true → D e.on) : D k := by
  induction h with
  | edge ho he hb => exact hi _ ho _ he hb
  | tail _ h' ih _ => exact h'.closed hD (ih hi)

theorem maskOf_bit {ms : List Nat} {o : Oper} {k : Nat} (h : (maskOf ms o).testBit k = true) : ∃ e ∈ o.after, Region.binds .any e = true ∧ (k = e.on ∨ (ms.getD e.on 0).testBit k = true) := by
  unfold maskOf at h
  have key : ∀ (l : List Edge) (acc : Nat), (l.foldl (fun acc e => if Region.binds .any e then acc ||| (2 ^ e.on ||| ms.getD e.on 0) else acc) acc).testBit k = true →
      acc.testBit k = true ∨ ∃ e ∈ l, Region.binds .any e = true ∧ (k = e.on ∨ (ms.getD e.on 0).testBit k = true) := by
    intro l
    induction l with
    | nil => intro acc h; exact .inl h
    | cons e l ih =>
      intro acc h
      simp only [List.foldl_cons] at h
      rcases ih _ h with h1 | ⟨e', he', hb, hk⟩
      · split at h1
        · rename_i hb
          rw [Nat.testBit_or, Nat.testBit_or] at h1
          simp only [Bool.or_eq_true] at h1
          rcases h1 with h1 | h1 | h1
          · exact .inl h1
          · rw [Nat.testBit_two_pow] at h1
            exact .inr ⟨e, by simp, hb, .inl (by simpa using Eq.symm (of_decide_eq_true h1))⟩
          · exact .inr ⟨e, by simp, hb, .inr h1⟩
        · exact .inl h1
      · exact .inr ⟨e', by simp [he'], hb, hk⟩
  rcases key _ _ h with h0 | ⟨e, he, h1⟩
  · simp at h0
  · exact ⟨e, by simpa using he, h1⟩

theorem masksGo_reach {ops : Array Oper} : ∀ (os : List Oper) (ms : List Nat), (∀ j o, os[j]? = some o → ops[ms.length + j]? = some o) → (∀ i k, (ms.getD i 0).testBit k = true → Reach ops i k) →
    ∀ i k, ((masksGo os ms).getD i 0).testBit k = true → Reach ops i k
  | [], ms, _, hm => hm
  | o :: os, ms, ho, hm => by
    simp only [masksGo]
    refine masksGo_reach os _ (fun j o' hj => ?_) fun i k hk => ?_
    · have := ho (j + 1) o' (by simpa using hj)
      simp only [List.length_append, List.length_cons, List.length_nil]
      rw [show ms.length + (0 + 1) + j = ms.length + (j + 1) from by omega]; exact this
    · rw [List.getD_eq_getElem?_getD] at hk
      by_cases h1 : i < ms.length
      · rw [List.getElem?_append_left h1] at hk
        exact hm i k (by rw [List.getD_eq_getElem?_getD]; exact hk)
      · by_cases h2 : i = ms.length
        · subst h2
          simp at hk
          obtain ⟨e, he, hb, h⟩ := maskOf_bit hk
          have hoo := ho 0 o rfl
          rcases h with rfl | h
          · exact .edge hoo he hb
          · exact .tail (.edge hoo he hb) (hm _ _ h)
        · rw [List.getElem?_eq_none (by simp; omega)] at hk
          simp at hk

theorem masks_reach {ops : Array Oper} {i k : Nat} (h : bit (masks ops) i k = true) : Reach ops i k :=
  masksGo_reach ops.toList [] (fun j o hj => by simpa using hj) (fun i k hk => by simp at hk) i k h

/-! ### What is checked of the order -/

def idx (l : List (Nat × Nat)) : List Nat := l.map (·.1)

structure Spot (ops : Array Oper) (pre : List Nat) (es : List Nat) (i m : Nat) (o : Oper) : Prop where
  op : ops[i]? = some o
  new : i ∉ pre
  edges : ∀ e ∈ o.after, Region.binds .any e = true → e.on ∈ pre
  eff : isEff o.op = true → ∀ j ∈ pre, Reach ops i j
  calm : isEff o.op = false → ∀ j ∈ es.take (es.length + 1 - m), Reach ops i j
  pos : isEff o.op = false → 1 ≤ m

/-- An order that has been checked, from some place in it on. -/
inductive Fine (ops : Array Oper) : List Nat → List Nat → List (Nat × Nat) → Prop where
  | nil {pre es : List Nat} : Fine ops pre es []
  | cons {pre es : List Nat} {i m : Nat} {o : Oper} {rest : List (Nat × Nat)} (h : Spot ops pre es i m o) (hs : Fine ops (i :: pre) (if isEff o.op then es ++ [i] else es) rest) : Fine ops pre es ((i, m) :: rest)

theorem prefOk_fine {ops : Array Oper} : ∀ (pl : List (Nat × Nat)) (pre es : List Nat), prefOk ops (masks ops) pre es pl = true → Fine ops pre es pl
  | [], _, _, _ => .nil
  | (i, m) :: rest, pre, es, h => by
    simp only [prefOk] at h
    split at h
    · cases h
    · rename_i o ho
      simp only [Bool.and_eq_true, Bool.not_eq_true', List.all_eq_true, Bool.or_eq_true, List.contains_eq_mem, decide_eq_false_iff_not, decide_eq_true_eq] at h
      obtain ⟨⟨⟨h1, h2⟩, h3⟩, h4⟩ := h
      refine .cons ⟨ho, h1, fun e he hb => ?_, fun hf j hj => ?_, fun hf j hj => ?_, fun hf => ?_⟩ (prefOk_fine rest _ _ h4)
      · rcases h2 e (by simpa using he) with h | h
        · rw [hb] at h; cases h
        · exact h
      · rw [if_pos hf, List.all_eq_true] at h3
        exact masks_reach (h3 j hj)
      · rw [if_neg (by rw [hf]; simp), Bool.and_eq_true, List.all_eq_true] at h3
        exact masks_reach (h3.2 j hj)
      · rw [if_neg (by rw [hf]; simp), Bool.and_eq_true] at h3
        exact Nat.le_of_ble_eq_true h3.1

structure PlanFacts (ops : Array Oper) (pl : List (Nat × Nat)) : Prop where
  fine : Fine ops [] [] pl
  all : ∀ i, i < ops.size → i ∈ idx pl
  uniq : ∀ (i k : Nat) (oi ok : Oper) (d : Tmp), i ≠ k → ops[i]? = some oi → ops[k]? = some ok → ok.dst = some d → oi.dst ≠ some d
  slots : ∀ (i k : Nat) (oi ok : Oper) (d : Tmp), i ≠ k → ops[i]? = some oi → ops[k]? = some ok → ok.dst = some d → d ∈ readsT ops oi → Reach ops i k ∨ Reach ops k i

theorem planOf_facts {ops : Array Oper} {pl : List (Nat × Nat)} (h : planOf ops = some pl) : PlanFacts ops pl := by
  unfold planOf at h
  simp only at h
  split at h
  case isFalse => cases h
  rename_i hok
  rw [Option.some.injEq] at h
  rw [h] at hok
  unfold planOk at hok
  simp only [Bool.and_eq_true] at hok
  obtain ⟨⟨h1, h2⟩, h3⟩ := hok
  have hs : ∀ (i k : Nat) (oi ok : Oper) (d : Tmp), i ≠ k → ops[i]? = some oi → ops[k]? = some ok → ok.dst = some d → oi.dst ≠ some d ∧ (d ∈ readsT ops oi → Reach ops i k ∨ Reach ops k i) := fun i k oi ok d hne hi hk hd => by
    unfold slotsOk at h2
    have hil : i < ops.size := (Array.getElem?_eq_some_iff.1 hi).1
    have hkl : k < ops.size := (Array.getElem?_eq_some_iff.1 hk).1
    have := List.all_eq_true.1 (List.all_eq_true.1 h2 i (by simpa using hil)) k (by simpa using hkl)
    rw [hi, hk] at this
    simp only [hd, Bool.or_eq_true, Bool.and_eq_true, beq_iff_eq, bne_iff_ne, ne_eq, Bool.not_eq_true', List.contains_eq_mem, decide_eq_false_iff_not] at this
    rcases this with h | ⟨h4, h5⟩
    · exact (hne h).elim
    · refine ⟨h4, fun hm => ?_⟩
      rcases h5 with (h5 | h5) | h5
      · exact (h5 hm).elim
      · exact .inl (masks_reach h5)
      · exact .inr (masks_reach h5)
  refine ⟨prefOk_fine _ _ _ h1, fun i hi => ?_, fun i k oi ok d a b c e => (hs i k oi ok d a b c e).1, fun i k oi ok d a b c e => (hs i k oi ok d a b c e).2⟩
  have := List.all_eq_true.1 h3 i (by simpa using hi)
  simpa [idx, List.contains_eq_mem] using this

end Go.Ev
