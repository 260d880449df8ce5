/- Answers laid by hand: of numbers to numbers; of numbers to one row; of a new row. -/
import Derived.Test.YtfickkmgbecamaaDoorEvZj
namespace Go.Ev

/-- The small heap of a call that takes numbers alone. -/
def bare (G : Nat) : AHeap := { tr := .leaf, next := G }

section
variable {P : Program}

theorem bare_start {args : Array Value} {h : AHeap} (hp : args.toList.all pv1 = true) : ∀ μ w (args' : Array Value), Rel P μ h w → Top μ h → VsRel μ args.toList args'.toList →
    ∃ μ0, Rel P μ0 (bare P.globals.size) w ∧ Top μ0 (bare P.globals.size) ∧ VsRel μ0 args.toList args'.toList := fun μ w args' hR _ hA => by
  refine ⟨fun b => if b < P.globals.size then μ b else none, ⟨fun b o hb => ?_, fun b c o o' i j hb => ?_, fun g hg => ?_⟩, fun b hb => ?_, ?_⟩
  · simp [bare, AHeap.get, Tr.get_leaf] at hb
  · simp [bare, AHeap.get, Tr.get_leaf] at hb
  · obtain ⟨i, hi, h2⟩ := hR.glob g hg
    exact ⟨i, by simp [hg, hi], h2⟩
  · have : ¬ b < P.globals.size := by simp [bare] at hb; omega
    simp [this]
  · rw [hA.eq_of_pv1 hp]
    exact .of_pv1 hp

theorem bare_ro (G : Nat) : ∀ b o, (bare G).get b = some o → mutO o = false := fun b o hb => by simp [bare, AHeap.get, Tr.get_leaf] at hb

/-- An answer of numbers to numbers, in whatever heap. -/
theorem CallOk.numbers {O : Oracle} (hO : OracleOk P O) {k : Nat} {f : FuncId} {args : Array Value} {v : Value} {h : AHeap} (hp : args.toList.all pv1 = true) (hv : pv v = true)
    (hc : ((evC P O k).call f args (bare P.globals.size)).map (·.1) = some v) : CallOk P f args h v h := by
  obtain ⟨⟨v', h'⟩, hx, rfl⟩ := Option.map_eq_some_iff.1 hc
  exact (evC_call hO hx).pure hv (bare_ro _) (bare_start hp)

def oNone : Oracle := fun _ _ _ => none
theorem oNone_ok : OracleOk P oNone := fun _ _ _ _ _ h => by cases h

/-- A row without addresses in it reads alike by every map. -/
theorem ORel.plain {μ ν : Mu} {c : List Value} {e : TypeId} {ro g : Bool} {i : Img} {w : World} (hc : c.all pv1 = true) (h : ORel P μ (.cells c e ro g) i w) : ORel P ν (.cells c e ro g) i w := by
  obtain ⟨C, fz, h1, h2, h3, h4, h5, h6, h7⟩ := h
  refine ⟨C, fz, h1, h2, h3, h4, fun k v hv => ?_, h6, h7⟩
  obtain ⟨v', a, b⟩ := h5 k v hv
  have hp : pv1 v = true := List.all_eq_true.1 hc v (List.mem_of_getElem? hv)
  exact ⟨v', a, by rw [b.eq_of_pv1 hp]; exact .of_pv1 hp⟩

def rowEq : List Value → List Value → Bool
  | [], [] => true
  | x :: xs, y :: ys => match sameF x y with | true => rowEq xs ys | false => false
  | _, _ => false
theorem rowEq_eq : ∀ {a b : List Value}, rowEq a b = true → a = b
  | [], [], _ => rfl
  | x :: xs, y :: ys, h => by
    simp only [rowEq] at h
    split at h
    · rename_i hs
      rw [sameF_eq] at hs
      rw [sameV_eq _ _ _ hs, rowEq_eq h]
    · cases h
  | [], _ :: _, h => by cases h
  | _ :: _, [], h => by cases h

/-- The small heap of a call that takes one row, where there is one package-level variable. -/
def rowHeap (c : List Value) (e : TypeId) (g : Bool) : AHeap := { tr := .node (.node .leaf (some (.cells c e true g)) .leaf) none .leaf, next := 2 }

theorem rowHeap_get (c : List Value) (e : TypeId) (g : Bool) (b : Nat) : (rowHeap c e g).get b = if b = 1 then some (.cells c e true g) else none := by
  rcases b with _ | _ | b
  · rfl
  · rfl
  · rw [if_neg (by omega)]
    simp only [rowHeap, AHeap.get, Tr.get]
    split
    · rcases hb : (b + 1) / 2 with _ | k
      · omega
      · simp only [Tr.get, ite_self]
    · rfl
theorem rowHeap_ro (c : List Value) (e : TypeId) (g : Bool) : ∀ b o, (rowHeap c e g).get b = some o → mutO o = false := fun b o h => by
  rw [rowHeap_get] at h; split at h <;> cases h; rfl

theorem row_start (hG : P.globals.size = 1) {c : List Value} {e : TypeId} {ro g : Bool} {b : Nat} {h : AHeap} {n k : Nat} {more : List Value} (hm : more.all pv1 = true) (hb : h.get b = some (.cells c e ro g)) (hp : c.all pv1 = true) :
    ∀ μ w (args' : Array Value), Rel P μ h w → Top μ h → VsRel μ (.slice (some ⟨b, 0, none⟩) n k :: more) args'.toList →
    ∃ μ0, Rel P μ0 (rowHeap c e g) w ∧ Top μ0 (rowHeap c e g) ∧ VsRel μ0 (.slice (some ⟨1, 0, none⟩) n k :: more) args'.toList := fun μ w args' hR _ hA => by
  obtain ⟨i, hi, ho⟩ := hR.obj b _ hb
  have ho' : ORel P μ (.cells c e true g) i w := by
    cases ro with
    | true => exact ho
    | false => exact ho.froze
  refine ⟨fun x => if x = 0 then μ 0 else if x = 1 then some i else none, Rel.ro (fun x o hx => ?_) (fun x hx => ?_), fun x hx => ?_, ?_⟩
  · rw [rowHeap_get] at hx
    split at hx <;> cases hx
    rename_i hx1; subst hx1
    exact ⟨rfl, i, rfl, ho'.plain hp⟩
  · have hx0 : x = 0 := by omega
    subst hx0
    obtain ⟨j, hj, h2⟩ := hR.glob 0 hx
    exact ⟨j, by simpa using hj, h2⟩
  · have : 2 ≤ x := hx
    simp only
    rw [if_neg (by omega), if_neg (by omega)]
  · revert hA
    generalize args'.toList = l
    intro hA
    cases hA with
    | cons hv hs =>
      refine .cons ?_ (by rw [hs.eq_of_pv1 hm]; exact .of_pv1 hm)
      cases hv with
      | slice hμ hc he hv =>
        rw [hi] at hμ; cases hμ
        exact .slice rfl hc he hv

/-- An answer of numbers to a row that is only read. -/
theorem CallOk.ofRow {O : Oracle} (hO : OracleOk P O) (hG : P.globals.size = 1) {fu : Nat} {f : FuncId} {c : List Value} {e : TypeId} {ro g : Bool} {b : Nat} {h : AHeap} {n k : Nat} {more : List Value} {v : Value} (hm : more.all pv1 = true)
    (hb : h.get b = some (.cells c e ro g)) (hp : c.all pv1 = true) (hv : pv v = true) (hc : ((evC P O fu).call f (Value.slice (some ⟨1, 0, none⟩) n k :: more).toArray (rowHeap c e g)).map (·.1) = some v) :
    CallOk P f (Value.slice (some ⟨b, 0, none⟩) n k :: more).toArray h v h := by
  obtain ⟨⟨v', h'⟩, hx, rfl⟩ := Option.map_eq_some_iff.1 hc
  exact (evC_call hO hx).pure hv (rowHeap_ro _ _ _) (fun μ w args' hR hT hA => row_start hG hm hb hp μ w args' hR hT (by simpa using hA))

/-- A new row: laid under the next number. -/
theorem CallOk.fresh {f : FuncId} {args0 args : Array Value} {h0 h0' h : AHeap} {b0 n k : Nat} {c : List Value} {e : TypeId} {g : Bool} (hc : CallOk P f args0 h0 (.slice (some ⟨b0, 0, none⟩) n k) h0')
    (hb : h0'.get b0 = some (.cells c e false g)) (hp : c.all pv1 = true) (hro : ∀ b o, h0.get b = some o → mutO o = false)
    (hs : ∀ μ w (args' : Array Value), Rel P μ h w → Top μ h → VsRel μ args.toList args'.toList → ∃ μ0, Rel P μ0 h0 w ∧ Top μ0 h0 ∧ VsRel μ0 args0.toList args'.toList) :
    CallOk P f args h (.slice (some ⟨h.next, 0, none⟩) n k) ⟨h.tr.set h.next (.cells c e false g), h.next + 1⟩ := by
  refine ⟨hc.1, fun μ w args' R hR hT hA hK => ?_⟩
  obtain ⟨μ0, r0, t0, a0⟩ := hs μ w args' hR hT hA
  refine hc.2 μ0 w args' R r0 t0 a0 fun μ' w' v' fi hv => ?_
  have hold := hR.kept hT fi.ste hro
  obtain ⟨i, hi, ho⟩ := fi.rel.obj b0 _ hb
  have hnew : w.heap.size ≤ i.blk := Nat.le_of_not_lt fun hlt => by
    obtain ⟨x, o', j, hx, _, hm, _⟩ := fi.ste.own b0 _ i hb rfl hi hlt
    have := hm rfl
    rw [hro x o' hx] at this; cases this
  have hμn : μ h.next = none := hT _ (Nat.le_refl _)
  have hfree : h.get h.next = none := by
    cases hg : h.get h.next with
    | none => rfl
    | some o => obtain ⟨j, hj, _⟩ := hR.obj _ _ hg; rw [hμn] at hj; cases hj
  have hn : h.new h.next (.cells c e false g) = some (h.put h.next (.cells c e false g)) := by simp [AHeap.new, hfree]
  obtain ⟨r1, s1⟩ := hR.grow hμn hn hnew (ho.plain hp) fi.ste.size fi.ste.tape fi.ste.os fi.ste.output (fi.ste.below hro).block
  have r2 := r1.next (h.next + 1)
  have fin : Fin P μ h w (μ.add h.next i) ⟨h.tr.set h.next (.cells c e false g), h.next + 1⟩ w' := by
    refine ⟨r2, s1.trans (Ste.next _ _ _ (h.next + 1)), fun b hb => ?_, fun b hb h0 => ?_, Nat.le_succ _⟩
    · have : h.next + 1 ≤ b := hb
      unfold Mu.add
      rw [if_neg (by omega)]
      exact hT b (by omega)
    · unfold Mu.add
      rw [if_neg (by omega)]
      exact h0
  refine hK _ w' v' fin ?_
  cases hv with
  | slice hμ hc he hv =>
    rw [hi] at hμ; cases hμ
    exact .slice (Mu.add_self _ _ _) hc he hv

end
end Go.Ev
