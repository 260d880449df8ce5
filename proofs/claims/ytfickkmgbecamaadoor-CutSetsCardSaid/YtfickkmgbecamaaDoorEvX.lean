/- An operation done earlier than the evaluator does it yields the same. -/
import Derived.Test.YtfickkmgbecamaaDoorEvW
namespace Go.Ev

section
variable {P : Program} {S : Self} {base : Nat} {ops : Array Oper}

theorem evalO_of_reads {e e' : Tr Value} {o : Oper} (hx : ∀ t ∈ readsT ops o, e.get t = e'.get t) : ∀ x ∈ o.op.operands, evalO P.globals.size e x = evalO P.globals.size e' x := fun x hm => by
  cases x with
  | tmp t => exact hx t (List.mem_append_left _ (List.mem_filterMap.2 ⟨.tmp t, by simpa using hm, rfl⟩))
  | _ => rfl

theorem operA_congr {e e' : Tr Value} {o : Oper} {h : AHeap} {id : Nat} (hx : ∀ t ∈ readsT ops o, e.get t = e'.get t) : operA P S id e h o = operA P S id e' h o := by
  have hv := evalO_of_reads (P := P) hx
  unfold operA
  split
  · rename_i f args ts ho
    rw [ho] at hv
    have h1 : evalO P.globals.size e f = evalO P.globals.size e' f := hv f (by simp [Op.operands, Call.operands])
    have h2 : mapO P.globals.size e args = mapO P.globals.size e' args := mapO_congr fun x hm => hv x (by simp [Op.operands, Call.operands, hm])
    rw [h1, h2]
  · exact opA_congr hv

theorem wantedA_congr {e e' : Tr Value} {o : Oper} (hx : ∀ t ∈ readsT ops o, e.get t = e'.get t) : wantedA ops e o = wantedA ops e' o := by
  unfold wantedA
  split
  · rfl
  · rename_i j want hg
    split
    · rename_i d hd
      rw [hx d (List.mem_append_right _ (by rw [hg]; simp [hd]))]
    · rfl

theorem put_n {a a2 a' : AAct} {dst : Option Tmp} {v : Value} (hn : a2.n = a.n) (hp : a.put dst v = some a') : ∃ a2', a2.put dst v = some a2' := by
  unfold AAct.put at hp ⊢
  split at hp
  · exact ⟨_, rfl⟩
  · split at hp
    · rename_i hd; exact ⟨_, by rw [if_pos (by rw [hn]; exact hd)]⟩
    · cases hp

theorem put_env {a a' : AAct} {dst : Option Tmp} {v : Value} (hp : a.put dst v = some a') : a'.n = a.n ∧ a'.marks = a.marks ∧ (∀ d, dst = some d → a'.env.get d = some v) ∧ ∀ t, dst ≠ some t → a'.env.get t = a.env.get t := by
  unfold AAct.put at hp
  split at hp
  · cases hp; exact ⟨rfl, rfl, fun _ hd => (by cases hd), fun _ _ => rfl⟩
  · rename_i d
    split at hp
    · cases hp
      exact ⟨rfl, rfl, fun d' hd => by cases hd; exact Tr.get_set_self _ _ _, fun t ht => Tr.get_set_ne _ _ fun e => ht (by rw [e])⟩
    · cases hp

/-- The same step by another activation that agrees with the first one where the operation looks. -/
theorem stepA_congr {i : Nat} {a a' a2 : AAct} {h h' : AHeap} {o : Oper} (ho : ops[i]? = some o) (hs : stepA P S base ops i a h = some (a', h')) (hx : ∀ t ∈ readsT ops o, a2.env.get t = a.env.get t) (hn : a2.n = a.n) :
    ∃ v a2', stepA P S base ops i a2 h = some (a2', h') ∧ a2.put o.dst v = some a2' ∧ a.put o.dst v = some a' := by
  unfold stepA at hs ⊢
  rw [ho] at hs ⊢
  simp only at hs ⊢
  rw [wantedA_congr hx]
  split at hs
  · obtain ⟨⟨v, h1⟩, hv, hp⟩ := Option.bind_eq_some_iff.1 hs
    simp only [Option.map_eq_some_iff, Prod.mk.injEq] at hp
    obtain ⟨a1, ha1, rfl, rfl⟩ := hp
    obtain ⟨a2', ha2⟩ := put_n hn ha1
    exact ⟨v, a2', by rw [operA_congr hx, hv]; simp [ha2], ha2, ha1⟩
  · simp only [Option.map_eq_some_iff, Prod.mk.injEq] at hs
    obtain ⟨a1, ha1, rfl, rfl⟩ := hs
    obtain ⟨a2', ha2⟩ := put_n hn ha1
    exact ⟨undef, a2', by simp [ha2], ha2, ha1⟩
  · cases hs

theorem calm_plain {o : Oper} (he : isEff o.op = false) (f : Operand) (args : Array Operand) (ts : Array TypeId) : o.op ≠ .call { callee := .value f, args := args, argTypes := ts } := fun h => by
  rw [h] at he; simp [isEff] at he

/-- An operation that only computes, in a heap that it has been looked at in. -/
theorem calm_at {i m : Nat} {o : Oper} {sn : List AHeap} {ea ea' e2 : AAct} {eh eh' h : AHeap} (he : isEff o.op = false) (ho : ops[i]? = some o) (hs : stepA P S base ops i ea eh = some (ea', eh'))
    (hck : calmOk P base ops o i m sn ea ea' = true) (hh : h ∈ sn.take m) (hfree : h.get (base + i) = none) (hx : ∀ t ∈ readsT ops o, e2.env.get t = ea.env.get t) (hn : e2.n = ea.n) :
    ∃ v e2' hX, stepA P S base ops i e2 h = some (e2', hX) ∧ e2.put o.dst v = some e2' ∧ ea.put o.dst v = some ea' ∧
      ((eh' = eh ∧ hX = h) ∨ ∃ ob, mutO ob = true ∧ isNew o.op = true ∧ eh' = eh.put (base + i) ob ∧ hX = h.put (base + i) ob) := by
  unfold stepA at hs ⊢
  rw [ho] at hs ⊢
  simp only at hs ⊢
  rw [wantedA_congr hx]
  split at hs
  · rename_i hw
    obtain ⟨⟨v, h1⟩, hv, hp⟩ := Option.bind_eq_some_iff.1 hs
    simp only [Option.map_eq_some_iff, Prod.mk.injEq] at hp
    obtain ⟨a1, ha1, rfl, rfl⟩ := hp
    obtain ⟨a2', ha2⟩ := put_n hn ha1
    rw [operA_plain (calm_plain he)] at hv
    have hop : operA P S (base + i) e2.env h o = opA P h (base + i) ea.env o := by
      rw [operA_congr hx, operA_plain (calm_plain he)]
    rw [hop]
    by_cases hnew : isNew o.op = true
    · obtain ⟨ob, hm, e1, e3⟩ := opA_new hnew hv
      exact ⟨v, a2', _, by rw [e3 h hfree]; simp [ha2], ha2, ha1, .inr ⟨ob, hm, hnew, e1, rfl⟩⟩
    · simp only [Bool.not_eq_true] at hnew
      have hold := opA_old hnew he hv
      by_cases hr : readsH o.op = true
      · unfold calmOk at hck
        rw [hr, hw] at hck
        simp only [Bool.not_true, Bool.false_or, List.all_eq_true] at hck
        have := hck h hh
        split at this
        · rename_i u hX v' hu hv'
          obtain ⟨d, hd, hdv⟩ := Option.bind_eq_some_iff.1 hv'
          rw [(put_env ha1).2.2.1 d hd] at hdv
          cases hdv
          have huv := sameV_eq 3 _ _ this
          have hold2 := opA_old hnew he hu
          subst huv; subst hold2
          exact ⟨u, a2', _, by rw [hu]; simp [ha2], ha2, ha1, .inl ⟨hold, rfl⟩⟩
        · cases this
      · simp only [Bool.not_eq_true] at hr
        exact ⟨v, a2', h, by rw [opA_free hnew he hr hv h]; simp [ha2], ha2, ha1, .inl ⟨hold, rfl⟩⟩
  · simp only [Option.map_eq_some_iff, Prod.mk.injEq] at hs
    obtain ⟨a1, ha1, rfl, rfl⟩ := hs
    obtain ⟨a2', ha2⟩ := put_n hn ha1
    exact ⟨undef, a2', h, by simp [ha2], ha2, ha1, .inl ⟨rfl, rfl⟩⟩
  · cases hs

/-! ### Blocks that have been laid ahead -/

def look (G : List (Nat × AObj)) (b : Nat) : Option AObj := (G.find? (·.1 == b)).map (·.2)

def over (G : List (Nat × AObj)) (h : AHeap) : AHeap := G.foldr (fun p H => H.put p.1 p.2) h

theorem look_cons (p : Nat × AObj) (G : List (Nat × AObj)) (b : Nat) : look (p :: G) b = if b = p.1 then some p.2 else look G b := by
  unfold look
  rw [List.find?_cons]
  by_cases e : b = p.1
  · subst e; simp
  · rw [if_neg e]
    have : (p.1 == b) = false := by simp; exact fun h => e h.symm
    rw [this]

theorem over_get (G : List (Nat × AObj)) (h : AHeap) (b : Nat) : (over G h).get b = match look G b with | some o => some o | none => h.get b := by
  induction G with
  | nil => rfl
  | cons p G ih =>
    show ((over G h).put p.1 p.2).get b = _
    rw [AHeap.get_put, look_cons]
    split
    · rfl
    · exact ih

theorem over_next (G : List (Nat × AObj)) (h : AHeap) : (over G h).next = h.next := by
  induction G with
  | nil => rfl
  | cons p G ih => exact ih

theorem look_filter (G : List (Nat × AObj)) (c b : Nat) : look (G.filter fun p => !(p.1 == c)) b = if b = c then none else look G b := by
  induction G with
  | nil => simp [look]
  | cons p G ih =>
    rw [List.filter_cons]
    by_cases e : p.1 = c
    · rw [if_neg (by simp [e]), ih, look_cons]
      split
      · rfl
      · rename_i h1; rw [if_neg (by rw [e]; exact h1)]
    · rw [if_pos (by simp [e]), look_cons, look_cons, ih]
      by_cases h1 : b = c
      · rw [if_pos h1, if_pos h1, if_neg (by rw [h1]; exact fun h => e h.symm)]
      · rw [if_neg h1, if_neg h1]

end
end Go.Ev
