/- How the evaluator's heap stands to the model's world. -/
import Derived.Test.YtfickkmgbecamaaDoorEvB
import Derived.Below
namespace Go.Ev

/-! ### Maps from numbers -/
namespace Tr
variable {α : Type}

theorem get_leaf (n : Nat) : (leaf : Tr α).get n = none := by cases n <;> rfl

theorem get_setF (k : Nat) : ∀ (t : Tr α) (n : Nat) (x : α), n < k → ∀ m, (setF k t n x).get m = if m = n then some x else t.get m := by
  induction k with
  | zero => intro t n x h; omega
  | succ k ih =>
    intro t n x h m
    cases t with
    | leaf =>
      cases n with
      | zero => cases m <;> simp [setF, get]
      | succ n =>
        simp only [setF]
        split
        · cases m with
          | zero => simp [get]
          | succ m =>
            simp only [get]
            split
            · rw [ih _ _ _ (by omega)]
              simp only [get_leaf]
              by_cases e : m = n
              · subst e; simp
              · rw [if_neg (by omega), if_neg (by omega)]
            · rw [if_neg (by omega)]
        · cases m with
          | zero => simp [get]
          | succ m =>
            simp only [get]
            split
            · rw [if_neg (by omega)]
            · rw [ih _ _ _ (by omega)]
              simp only [get_leaf]
              by_cases e : m = n
              · subst e; simp
              · rw [if_neg (by omega), if_neg (by omega)]
    | node l u r =>
      cases n with
      | zero => cases m <;> simp [setF, get]
      | succ n =>
        simp only [setF]
        split
        · cases m with
          | zero => simp [get]
          | succ m =>
            simp only [get]
            split
            · rw [ih _ _ _ (by omega)]
              by_cases e : m = n
              · subst e; simp
              · rw [if_neg (by omega), if_neg (by omega)]
            · rw [if_neg (by omega)]
        · cases m with
          | zero => simp [get]
          | succ m =>
            simp only [get]
            split
            · rw [if_neg (by omega)]
            · rw [ih _ _ _ (by omega)]
              by_cases e : m = n
              · subst e; simp
              · rw [if_neg (by omega), if_neg (by omega)]

theorem get_set (t : Tr α) (n m : Nat) (x : α) : (t.set n x).get m = if m = n then some x else t.get m := get_setF (n + 1) t n x (by omega) m
theorem get_set_self (t : Tr α) (n : Nat) (x : α) : (t.set n x).get n = some x := by rw [get_set, if_pos rfl]
theorem get_set_ne (t : Tr α) {n m : Nat} (x : α) (h : m ≠ n) : (t.set n x).get m = t.get m := by rw [get_set, if_neg h]

/-- No branch is empty. -/
def full : Tr α → Bool
  | leaf => true
  | node l u r => l.full && r.full && (u.isSome || (match l with | leaf => false | _ => true) || (match r with | leaf => false | _ => true))

theorem full_some : ∀ (t : Tr α), t.full = true → t ≠ leaf → ∃ n x, t.get n = some x
  | leaf, _, h => (h rfl).elim
  | node l u r, hf, _ => by
    simp only [full, Bool.and_eq_true, Bool.or_eq_true] at hf
    obtain ⟨⟨hl, hr⟩, h⟩ := hf
    rcases h with (h | h) | h
    · obtain ⟨x, rfl⟩ := Option.isSome_iff_exists.1 h; exact ⟨0, x, rfl⟩
    · obtain ⟨n, x, hx⟩ := full_some l hl (by rintro rfl; simp at h)
      exact ⟨2 * n + 1, x, by simp only [get]; rw [if_pos (by omega), show 2 * n / 2 = n from by omega]; exact hx⟩
    · obtain ⟨n, x, hx⟩ := full_some r hr (by rintro rfl; simp at h)
      exact ⟨2 * n + 1 + 1, x, by simp only [get]; rw [if_neg (by omega), show (2 * n + 1) / 2 = n from by omega]; exact hx⟩

theorem ext_full : ∀ (t t' : Tr α), t.full = true → t'.full = true → (∀ n, t.get n = t'.get n) → t = t'
  | leaf, leaf, _, _, _ => rfl
  | leaf, node l u r, _, h', h => by
    obtain ⟨n, x, hx⟩ := full_some _ h' (by simp)
    have := h n; rw [hx, get_leaf] at this; cases this
  | node l u r, leaf, h', _, h => by
    obtain ⟨n, x, hx⟩ := full_some _ h' (by simp)
    have := h n; rw [hx, get_leaf] at this; cases this
  | node l u r, node l' u' r', hf, hf', h => by
    simp only [full, Bool.and_eq_true] at hf hf'
    have e0 : u = u' := h 0
    have el : l = l' := ext_full l l' hf.1.1 hf'.1.1 fun n => by
      have := h (2 * n + 1); simp only [get] at this
      rw [if_pos (by omega), if_pos (by omega), show 2 * n / 2 = n from by omega] at this; exact this
    have er : r = r' := ext_full r r' hf.1.2 hf'.1.2 fun n => by
      have := h (2 * n + 1 + 1); simp only [get] at this
      rw [if_neg (by omega), if_neg (by omega), show (2 * n + 1) / 2 = n from by omega] at this; exact this
    rw [e0, el, er]

theorem setF_ne_leaf (k : Nat) (t : Tr α) (n : Nat) (x : α) (h : n < k) : setF k t n x ≠ leaf := by
  cases k with
  | zero => omega
  | succ k => cases t <;> cases n <;> simp only [setF] <;> (try split) <;> simp

theorem full_setF (k : Nat) : ∀ (t : Tr α) (n : Nat) (x : α), n < k → t.full = true → (setF k t n x).full = true := by
  induction k with
  | zero => intro t n x h; omega
  | succ k ih =>
    intro t n x h hf
    have nl : ∀ (s : Tr α) m, m < k → (match setF k s m x with | leaf => false | _ => true) = true := fun s m hm => by
      have := setF_ne_leaf k s m x hm
      cases hs : setF k s m x with
      | leaf => exact (this hs).elim
      | node => rfl
    cases t with
    | leaf =>
      cases n with
      | zero => simp [setF, full]
      | succ n =>
        simp only [setF]
        split
        · simp [full, ih leaf (n / 2) x (by omega) rfl, nl leaf (n / 2) (by omega)]
        · simp [full, ih leaf (n / 2) x (by omega) rfl, nl leaf (n / 2) (by omega)]
    | node l u r =>
      simp only [full, Bool.and_eq_true] at hf
      cases n with
      | zero => simp [setF, full, hf.1.1, hf.1.2]
      | succ n =>
        simp only [setF]
        split
        · simp [full, ih l (n / 2) x (by omega) hf.1.1, nl l (n / 2) (by omega), hf.1.2]
        · simp [full, ih r (n / 2) x (by omega) hf.1.2, nl r (n / 2) (by omega), hf.1.1]

theorem full_set (t : Tr α) (n : Nat) (x : α) (h : t.full = true) : (t.set n x).full = true := full_setF (n + 1) t n x (by omega) h

end Tr

theorem AHeap.get_put (h : AHeap) (b c : Nat) (o : AObj) : (h.put b o).get c = if c = b then some o else h.get c := Tr.get_set _ _ _ _
theorem AHeap.get_put_self (h : AHeap) (b : Nat) (o : AObj) : (h.put b o).get b = some o := by rw [get_put, if_pos rfl]
theorem AHeap.get_put_ne (h : AHeap) {b c : Nat} (o : AObj) (hc : c ≠ b) : (h.put b o).get c = h.get c := by rw [get_put, if_neg hc]
@[simp] theorem AHeap.next_put (h : AHeap) (b : Nat) (o : AObj) : (h.put b o).next = h.next := rfl

/-! ### Where a block of the evaluator's lies in the model's heap -/

structure Img where
  blk : Nat
  d : Nat
  lim : Nat
  sz : Nat
  exact : Bool

abbrev Mu := Nat → Option Img

def Mu.le (μ μ' : Mu) : Prop := ∀ b i, μ b = some i → μ' b = some i
theorem Mu.le_refl (μ : Mu) : μ.le μ := fun _ _ h => h
theorem Mu.le_trans {a b c : Mu} (h : a.le b) (k : b.le c) : a.le c := fun x i hx => k x i (h x i hx)

/-! ### Values -/
mutual
inductive VRel (μ : Mu) : Value → Value → Prop where
  | bool (b : Bool) : VRel μ (.bool b) (.bool b)
  | int (k : IntKind) (n : Int) : VRel μ (.int k n) (.int k n)
  | string (s : ByteArray) : VRel μ (.string s) (.string s)
  | nilFunc : VRel μ .nilFunc .nilFunc
  | nilIface : VRel μ .nilIface .nilIface
  | nilPtr : VRel μ (.pointer none) (.pointer none)
  | ptr {b o : Nat} {i : Img} (h : μ b = some i) : VRel μ (.pointer (some ⟨b, o, none⟩)) (.pointer (some ⟨i.blk, o + i.d, none⟩))
  | nilSlice : VRel μ (.slice none 0 0) (.slice none 0 0)
  | slice {b o l c c' : Nat} {i : Img} (h : μ b = some i) (hc : c ≤ c') (he : i.exact = true → c' = c) (hv : c' = c ∨ o + c' * i.sz ≤ i.lim) :
      VRel μ (.slice (some ⟨b, o, none⟩) l c) (.slice (some ⟨i.blk, o + i.d, none⟩) l c')
  | empty {b o s : Nat} {a : Addr} {c : Nat} : VRel μ (.slice (some ⟨b, o, some s⟩) 0 0) (.slice (some a) 0 c)
  | nilMap : VRel μ (.map none) (.map none)
  | map {r : Nat} {i : Img} (h : μ r = some i) : VRel μ (.map (some r)) (.map (some i.blk))
  | func (f : FuncId) {a a' c c' : Array Value} (ha : VsRel μ a.toList a'.toList) (hc : VsRel μ c.toList c'.toList) : VRel μ (.func (.func f) a c) (.func (.func f) a' c')
  | yield {l : Nat} {i : Img} (h : μ l = some i) {a a' c c' : Array Value} (ha : VsRel μ a.toList a'.toList) (hc : VsRel μ c.toList c'.toList) :
      VRel μ (.func (.yield l) a c) (.func (.yield i.blk) a' c')
  | agg {a a' : Array Value} (h : VsRel μ a.toList a'.toList) : VRel μ (.agg a) (.agg a')
  | tuple {a a' : Array Value} (h : VsRel μ a.toList a'.toList) : VRel μ (.tuple a) (.tuple a')
inductive VsRel (μ : Mu) : List Value → List Value → Prop where
  | nil : VsRel μ [] []
  | cons {v v' : Value} {vs vs' : List Value} (h : VRel μ v v') (hs : VsRel μ vs vs') : VsRel μ (v :: vs) (v' :: vs')
end

mutual
theorem VRel.mono {μ μ' : Mu} (hμ : μ.le μ') : ∀ {v v' : Value}, VRel μ v v' → VRel μ' v v'
  | _, _, .bool b => .bool b
  | _, _, .int k n => .int k n
  | _, _, .string s => .string s
  | _, _, .nilFunc => .nilFunc
  | _, _, .nilIface => .nilIface
  | _, _, .nilPtr => .nilPtr
  | _, _, .ptr h => .ptr (hμ _ _ h)
  | _, _, .nilSlice => .nilSlice
  | _, _, .slice h hc he hv => .slice (hμ _ _ h) hc he hv
  | _, _, .empty => .empty
  | _, _, .nilMap => .nilMap
  | _, _, .map h => .map (hμ _ _ h)
  | _, _, .func f ha hc => .func f (VsRel.mono hμ ha) (VsRel.mono hμ hc)
  | _, _, .yield h ha hc => .yield (hμ _ _ h) (VsRel.mono hμ ha) (VsRel.mono hμ hc)
  | _, _, .agg h => .agg (VsRel.mono hμ h)
  | _, _, .tuple h => .tuple (VsRel.mono hμ h)
theorem VsRel.mono {μ μ' : Mu} (hμ : μ.le μ') : ∀ {v v' : List Value}, VsRel μ v v' → VsRel μ' v v'
  | _, _, .nil => .nil
  | _, _, .cons h hs => .cons (VRel.mono hμ h) (VsRel.mono hμ hs)
end

section lists
variable {μ : Mu}

theorem VsRel.length : ∀ {a b : List Value}, VsRel μ a b → a.length = b.length
  | _, _, .nil => rfl
  | _, _, .cons _ hs => by simp [VsRel.length hs]

theorem VsRel.get : ∀ {a b : List Value}, VsRel μ a b → ∀ (i : Nat) (v : Value), a[i]? = some v → ∃ v', b[i]? = some v' ∧ VRel μ v v'
  | _, _, .nil, i, v, h => by simp at h
  | _, _, .cons h hs, i, v, hi => by
    cases i with
    | zero => simp at hi; subst hi; exact ⟨_, rfl, h⟩
    | succ i => simp at hi; simpa using VsRel.get hs i v hi

theorem VsRel.of_get : ∀ {a b : List Value}, a.length = b.length → (∀ (i : Nat) (v : Value), a[i]? = some v → ∃ v', b[i]? = some v' ∧ VRel μ v v') → VsRel μ a b
  | [], [], _, _ => .nil
  | [], _ :: _, h, _ => by simp at h
  | _ :: _, [], h, _ => by simp at h
  | x :: xs, y :: ys, h, hg => by
    obtain ⟨v', hv, hr⟩ := hg 0 x rfl
    simp at hv; subst hv
    exact .cons hr (VsRel.of_get (by simpa using h) fun i v hi => by simpa using hg (i + 1) v (by simpa using hi))

theorem VsRel.append {a b c d : List Value} (h : VsRel μ a b) (k : VsRel μ c d) : VsRel μ (a ++ c) (b ++ d) := by
  induction a generalizing b with
  | nil => cases h; exact k
  | cons x xs ih => cases h with | cons h hs => exact .cons h (ih hs)

theorem VsRel.take : ∀ {a b : List Value} (n : Nat), VsRel μ a b → VsRel μ (a.take n) (b.take n)
  | _, _, 0, _ => by simpa using VsRel.nil
  | _, _, _ + 1, .nil => .nil
  | _, _, n + 1, .cons h hs => .cons h (VsRel.take n hs)

theorem VsRel.drop : ∀ {a b : List Value} (n : Nat), VsRel μ a b → VsRel μ (a.drop n) (b.drop n)
  | _, _, 0, h => by simpa using h
  | _, _, _ + 1, .nil => .nil
  | _, _, n + 1, .cons _ hs => VsRel.drop n hs

theorem VsRel.set : ∀ {a b : List Value} (n : Nat) {x y : Value}, VRel μ x y → VsRel μ a b → VsRel μ (a.set n x) (b.set n y)
  | _, _, _, _, _, _, .nil => .nil
  | _, _, 0, _, _, hx, .cons _ hs => .cons hx hs
  | _, _, n + 1, _, _, hx, .cons h hs => .cons h (VsRel.set n hx hs)

theorem VsRel.map {α : Type} (f g : α → Value) : ∀ (l : List α), (∀ x ∈ l, VRel μ (f x) (g x)) → VsRel μ (l.map f) (l.map g)
  | [], _ => .nil
  | x :: xs, h => .cons (h x (by simp)) (VsRel.map f g xs fun y hy => h y (by simp [hy]))
end lists

/-! ### Values without an address -/

theorem VRel.of_pv1 {μ : Mu} {v : Value} (h : pv1 v = true) : VRel μ v v := by
  cases v with
  | bool b => exact .bool b
  | int k n => exact .int k n
  | string s => exact .string s
  | nilFunc => exact .nilFunc
  | nilIface => exact .nilIface
  | pointer a => cases a with | none => exact .nilPtr | some a => simp [pv1] at h
  | slice a l c =>
    cases a with
    | none => cases l <;> cases c <;> first | exact .nilSlice | simp [pv1] at h
    | some a => simp [pv1] at h
  | map r => cases r with | none => exact .nilMap | some r => simp [pv1] at h
  | _ => simp [pv1] at h

theorem VsRel.of_pv1 {μ : Mu} : ∀ {l : List Value}, l.all pv1 = true → VsRel μ l l
  | [], _ => .nil
  | v :: vs, h => by simp at h; exact .cons (VRel.of_pv1 h.1) (VsRel.of_pv1 (by simpa using h.2))

theorem VRel.of_pv {μ : Mu} {v : Value} (h : pv v = true) : VRel μ v v := by
  cases v with
  | agg cs => exact .agg (VsRel.of_pv1 (by simpa [pv] using h))
  | tuple cs => exact .tuple (VsRel.of_pv1 (by simpa [pv] using h))
  | _ => exact VRel.of_pv1 (by simpa [pv] using h)

theorem VRel.eq_of_qv1 {μ : Mu} {v v' : Value} (h : VRel μ v v') (hq : qv1 v = true) : v' = v := by
  cases h <;> first | rfl | simp [qv1] at hq

theorem VsRel.eq_of_qv1 {μ : Mu} : ∀ {a b : List Value}, VsRel μ a b → a.all qv1 = true → b = a
  | _, _, .nil, _ => rfl
  | _, _, .cons h hs, hq => by
    simp at hq
    rw [VRel.eq_of_qv1 h hq.1, VsRel.eq_of_qv1 hs (by simpa using hq.2)]

theorem VRel.eq_of_qv {μ : Mu} {v v' : Value} (h : VRel μ v v') (hq : qv v = true) : v' = v := by
  cases h with
  | agg h => have := VsRel.eq_of_qv1 h (by simpa [qv] using hq); rw [Array.toList_inj] at this; rw [this]
  | tuple h => simp [qv, qv1] at hq
  | _ => first | rfl | simp [qv, qv1] at hq

theorem VRel.cells {μ : Mu} {v v' : Value} (h : VRel μ v v') : VsRel μ v.cells.toList v'.cells.toList := by
  cases h with
  | agg h => exact h
  | bool b => exact .cons (.bool b) .nil
  | int k n => exact .cons (.int k n) .nil
  | string s => exact .cons (.string s) .nil
  | nilFunc => exact .cons .nilFunc .nil
  | nilIface => exact .cons .nilIface .nil
  | nilPtr => exact .cons .nilPtr .nil
  | ptr h => exact .cons (.ptr h) .nil
  | nilSlice => exact .cons .nilSlice .nil
  | slice h hc he hv => exact .cons (.slice h hc he hv) .nil
  | empty => exact .cons .empty .nil
  | nilMap => exact .cons .nilMap .nil
  | map h => exact .cons (.map h) .nil
  | func f ha hc => exact .cons (.func f ha hc) .nil
  | yield h ha hc => exact .cons (.yield h ha hc) .nil
  | tuple h => exact .cons (.tuple h) .nil

theorem VRel.oneCell {μ : Mu} {v v' : Value} (h : VRel μ v v') : oneCell v' = oneCell v := by cases h <;> rfl
theorem VsRel.all_oneCell {μ : Mu} : ∀ {a b : List Value}, VsRel μ a b → a.all Ev.oneCell = true → b.all Ev.oneCell = true
  | _, _, .nil, _ => rfl
  | _, _, .cons h hs, hq => by
    simp only [List.all_cons, Bool.and_eq_true] at hq ⊢
    exact ⟨h.oneCell.trans hq.1, VsRel.all_oneCell hs hq.2⟩

end Go.Ev
