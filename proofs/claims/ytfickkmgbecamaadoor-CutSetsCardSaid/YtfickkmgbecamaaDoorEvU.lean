/- What an operation depends on. -/
import Derived.Test.YtfickkmgbecamaaDoorEvT
namespace Go.Ev

section
variable {P : Program} {h h' : AHeap} {v : Value} {id : Nat} {e e' : Tr Value} {o : Oper}

/-! ### The environment -/

theorem evalsO_congr {G : Nat} : ∀ {xs : List Operand}, (∀ x ∈ xs, evalO G e x = evalO G e' x) → evalsO G e xs = evalsO G e' xs
  | [], _ => rfl
  | x :: xs, hx => by
    simp only [evalsO]
    rw [hx x (by simp), evalsO_congr (xs := xs) fun y hy => hx y (by simp [hy])]

theorem mapO_congr {G : Nat} {xs : Array Operand} (hx : ∀ x ∈ xs, evalO G e x = evalO G e' x) : mapO G e xs = mapO G e' xs := by
  unfold mapO
  rw [evalsO_congr fun x hm => hx x (by simpa using hm)]

theorem partsO_congr {G : Nat} : ∀ {xs : List (Nat × Operand)}, (∀ x ∈ xs, evalO G e x.2 = evalO G e' x.2) → partsO G e xs = partsO G e' xs
  | [], _ => rfl
  | (i, x) :: xs, hx => by
    simp only [partsO]
    rw [hx (i, x) (by simp), partsO_congr (xs := xs) fun y hy => hx y (by simp [hy])]

theorem optO_congr {G : Nat} {x : Option Operand} (hx : ∀ y, x = some y → evalO G e y = evalO G e' y) : optO G e x = optO G e' x := by
  cases x with
  | none => rfl
  | some y => simp only [optO]; rw [hx y rfl]

theorem opA_congr (hx : ∀ x ∈ o.op.operands, evalO P.globals.size e x = evalO P.globals.size e' x) : opA P h id e o = opA P h id e' o := by
  unfold opA
  generalize o.op = op at hx
  cases op <;> simp only [Op.operands] at hx <;> (try dsimp only) <;> (try rfl) <;> try (first
    | rw [hx _ (by simp)]
    | (rw [hx _ (by simp)]; rw [hx _ (by simp)]))
  all_goals skip
  case makeMap t r => cases r <;> rfl
  case pick c a b =>
    have h1 := hx c (by simp); have h2 := hx a (by simp); have h3 := hx b (by simp)
    simp only [h1, h2, h3]
  case store t a x =>
    have h1 := hx a (by simp); have h2 := hx x (by simp)
    simp only [h1, h2]
  case binOp op t a x ty =>
    have h1 := hx a (by simp); have h2 := hx x (by simp)
    simp only [h1, h2]
  case makeSlice t a x =>
    have h1 := hx a (by simp); have h2 := hx x (by simp)
    simp only [h1, h2]
  case indexAddr t a x =>
    have h1 := hx a (by simp); have h2 := hx x (by simp)
    simp only [h1, h2]
  case index t a x =>
    have h1 := hx a (by simp); have h2 := hx x (by simp)
    simp only [h1, h2]
  case lookup t a x ok =>
    have h1 := hx a (by simp); have h2 := hx x (by simp)
    simp only [h1, h2]
  case mapEntry t a x =>
    have h1 := hx a (by simp); have h2 := hx x (by simp)
    simp only [h1, h2]
  case mapUpdate t m k x =>
    have h1 := hx m (by simp); have h2 := hx k (by simp); have h3 := hx x (by simp)
    simp only [h1, h2, h3]
  case insert t m k x =>
    have h1 := hx m (by simp); have h2 := hx k (by simp); have h3 := hx x (by simp)
    simp only [h1, h2, h3]
  case entryStore t m k x =>
    have h1 := hx m (by simp); have h2 := hx k (by simp); have h3 := hx x (by simp)
    simp only [h1, h2, h3]
  case build t parts =>
    simp only [mapParts]
    rw [partsO_congr fun x hm => hx x.2 (by simp; exact ⟨x.1, by simpa using hm⟩)]
  case buildSlice t l parts =>
    simp only [mapParts]
    rw [partsO_congr fun x hm => hx x.2 (by simp; exact ⟨x.1, by simpa using hm⟩)]
  case makeFunc fn first captured =>
    have h1 := mapO_congr (e := e) (e' := e') (xs := first) fun x hm => hx x (by simp [hm])
    have h2 := mapO_congr (e := e) (e' := e') (xs := captured) fun x hm => hx x (by simp [hm])
    cases fn <;> (try rfl)
    simp only [h1, h2]
  case slice t x lo hi mx =>
    have h1 := hx x (by simp)
    have h2 := optO_congr (e := e) (e' := e') (x := lo) fun y hy => hx y (by simp [hy])
    have h3 := optO_congr (e := e) (e' := e') (x := hi) fun y hy => hx y (by simp [hy])
    have h4 := optO_congr (e := e) (e' := e') (x := mx) fun y hy => hx y (by simp [hy])
    simp only [h1, h2, h3, h4]
  case call c =>
    obtain ⟨callee, args, ts⟩ := c
    have h1 := mapO_congr (e := e) (e' := e') (xs := args) fun x hm => hx x (by cases callee <;> simp [Call.operands, hm])
    cases callee <;> simp only [h1]

/-! ### The heap -/

theorem new_some {b : Nat} {ob : AObj} (hn : h.new b ob = some h') : h' = h.put b ob ∧ ∀ H : AHeap, H.get b = none → H.new b ob = some (H.put b ob) := by
  refine ⟨new_ok hn, fun H hH => ?_⟩
  unfold AHeap.new
  rw [hH]

theorem newA_some {t : TypeId} {cs : List Value} {g : Bool} {u : Value} (hn : newA P h id t cs g u = some (v, h')) :
    ∃ ob, mutO ob = true ∧ h' = h.put id ob ∧ ∀ H : AHeap, H.get id = none → newA P H id t cs g u = some (v, H.put id ob) := by
  unfold newA at hn ⊢
  split at hn
  · rename_i j hj
    simp only [Option.map_eq_some_iff, Prod.mk.injEq] at hn
    obtain ⟨h2, hh, rfl, rfl⟩ := hn
    obtain ⟨e1, e2⟩ := new_some hh
    refine ⟨.cells cs t false g, rfl, e1, fun H hH => ?_⟩
    simp only [e2 H hH]; rfl
  · cases hn

theorem opA_new (hn : isNew o.op = true) (hv : opA P h id e o = some (v, h')) : ∃ ob, mutO ob = true ∧ h' = h.put id ob ∧ ∀ H : AHeap, H.get id = none → opA P H id e o = some (v, H.put id ob) := by
  unfold opA at hv ⊢
  generalize o.op = op at hn hv
  cases op <;> simp only [isNew, Bool.false_eq_true] at hn <;> (try dsimp only at hv ⊢)
  case alloc t =>
    split at hv
    · rename_i z hz
      split at hv
      · rename_i hc
        simp only [hz, hc, if_true]
        exact newA_some hv
      · cases hv
    · cases hv
  case box t x =>
    obtain ⟨u, hu, hv⟩ := Option.bind_eq_some_iff.1 hv
    simp only [hu, Option.bind_some]
    exact newA_some hv
  case buildSlice t l parts =>
    obtain ⟨u, hu, hv⟩ := Option.bind_eq_some_iff.1 hv
    simp only [hu, Option.bind_some]
    unfold buildSliceA at hv ⊢
    repeat' split at hv
    all_goals first | (cases hv; done) | skip
    simp only [*, and_self, if_true]
    exact newA_some hv
  case makeMap t r =>
    cases r with
    | some r => simp at hv
    | none =>
      dsimp only at hv ⊢
      simp only [Option.map_eq_some_iff, Prod.mk.injEq] at hv
      obtain ⟨h2, hh, rfl, rfl⟩ := hv
      obtain ⟨e1, e2⟩ := new_some hh
      exact ⟨.map [] 0, rfl, e1, fun H hH => by simp only [e2 H hH]; rfl⟩
  case makeSlice t l c =>
    obtain ⟨u, hu, hv⟩ := Option.bind_eq_some_iff.1 hv
    obtain ⟨z, hz, hv⟩ := Option.bind_eq_some_iff.1 hv
    simp only [hu, hz, Option.bind_some]
    unfold makeSliceA at hv ⊢
    repeat' split at hv
    all_goals first | (cases hv; done) | skip
    simp only [*, and_self, if_true]
    exact newA_some hv

theorem opA_old (hn : isNew o.op = false) (hc : isEff o.op = false) (hv : opA P h id e o = some (v, h')) : h' = h := by
  unfold opA at hv
  generalize o.op = op at hn hc hv
  cases op <;> simp only [isNew, isEff, Bool.false_eq_true, Bool.true_eq_false] at hn hc <;> (try dsimp only at hv) <;> (try (simp at hv; done))
  case makeFunc fn a b =>
    cases fn <;> (try dsimp only at hv) <;> (try (simp at hv; done))
    simp only [Option.map_eq_some_iff, Option.bind_eq_some_iff, Prod.mk.injEq] at hv
    obtain ⟨_, _, _, _, _, rfl⟩ := hv; rfl
  case call c =>
    obtain ⟨callee, args, ts⟩ := c
    cases callee <;> (try dsimp only at hv hc) <;> (try (simp at hv; done))
    rename_i b
    obtain ⟨vs, _, hv⟩ := Option.bind_eq_some_iff.1 hv
    cases b <;> simp only [Bool.true_eq_false] at hc <;> unfold builtinA at hv <;> dsimp only at hv
    all_goals (repeat' split at hv)
    all_goals first
      | (cases hv; done)
      | (simp only [Option.map_eq_some_iff, Prod.mk.injEq] at hv; obtain ⟨_, _, _, rfl⟩ := hv; rfl)
  all_goals (repeat' split at hv)
  all_goals (try simp only [Option.map_eq_some_iff, Option.bind_eq_some_iff, Prod.mk.injEq, Option.some.injEq] at hv)
  all_goals first
    | (cases hv; done)
    | (obtain ⟨_, rfl⟩ := hv; rfl)
    | (obtain ⟨_, _, _, rfl⟩ := hv; rfl)
    | (obtain ⟨_, _, _, _, _, rfl⟩ := hv; rfl)
    | (obtain ⟨_, _, _, _, _, _, _, rfl⟩ := hv; rfl)
    | (obtain ⟨_, _, _, _, _, _, _, _, _, _, _, rfl⟩ := hv; rfl)
    | skip

theorem binA_free {op : BinOp} {t : TypeId} {x y u : Value} (hr : op ≠ .eql ∧ op ≠ .neq) (hv : binA P h op t x y = some u) (H : AHeap) : binA P H op t x y = some u := by
  obtain ⟨h1, h2⟩ := hr
  rw [← hv]
  unfold binA
  split
  · rfl
  · rfl
  · cases op <;> first | rfl | exact absurd rfl h1 | exact absurd rfl h2

theorem opA_free (hn : isNew o.op = false) (hc : isEff o.op = false) (hr : readsH o.op = false) (hv : opA P h id e o = some (v, h')) (H : AHeap) : opA P H id e o = some (v, H) := by
  obtain rfl := opA_old hn hc hv
  unfold opA at hv ⊢
  generalize o.op = op at hn hc hr hv
  cases op <;> simp only [isNew, isEff, readsH, Bool.false_eq_true, Bool.true_eq_false] at hn hc hr <;> (try dsimp only at hv ⊢) <;> (try (simp at hv; done))
  case makeFunc fn a b =>
    cases fn <;> (try dsimp only at hv ⊢) <;> (try (simp at hv; done))
    simp only [Option.map_eq_some_iff, Option.bind_eq_some_iff, Prod.mk.injEq] at hv ⊢
    obtain ⟨x, hx, y, hy, rfl, _⟩ := hv; exact ⟨x, hx, y, hy, rfl, trivial⟩
  case binOp op t x y ty =>
    simp only [Option.map_eq_some_iff, Option.bind_eq_some_iff, Prod.mk.injEq] at hv ⊢
    obtain ⟨a, ha, b, hb, c, hcc, rfl, _⟩ := hv
    refine ⟨a, ha, b, hb, c, binA_free ⟨fun e => ?_, fun e => ?_⟩ hcc H, rfl, trivial⟩
    · subst e; simp at hr
    · subst e; simp at hr
  case call c =>
    obtain ⟨callee, args, ts⟩ := c
    cases callee <;> (try dsimp only at hv hc hr ⊢) <;> (try (simp at hv; done))
    rename_i b
    obtain ⟨vs, hvs, hv⟩ := Option.bind_eq_some_iff.1 hv
    rw [hvs, Option.bind_some]
    cases b <;> simp only [Bool.true_eq_false] at hc hr <;> unfold builtinA at hv ⊢ <;> dsimp only at hv ⊢
    all_goals (repeat' split at hv)
    all_goals first | (simp at hv; done) | skip
    all_goals (simp only [Option.map_eq_some_iff, Prod.mk.injEq] at hv ⊢; obtain ⟨r, hr2, rfl, _⟩ := hv; exact ⟨r, hr2, rfl, trivial⟩)
  case pick c a b =>
    cases hcv : evalO P.globals.size e c with
    | none => rw [hcv] at hv; simp at hv
    | some cv =>
      rw [hcv] at hv
      cases cv <;> (try (simp at hv; done))
      rename_i t
      cases t <;> (simp only [Option.map_eq_some_iff, Prod.mk.injEq] at hv ⊢; obtain ⟨r, hr2, rfl, _⟩ := hv; exact ⟨r, hr2, rfl, trivial⟩)
  case nilCheck x =>
    cases hcv : evalO P.globals.size e x with
    | none => rw [hcv] at hv; simp at hv
    | some cv =>
      rw [hcv] at hv
      split at hv
      all_goals first | (simp at hv; done) | skip
      all_goals (rename_i he; simp only [Option.some.injEq] at he; subst he; simp only [Option.some.injEq, Prod.mk.injEq] at hv ⊢; exact ⟨hv.1, trivial⟩)
  case extract t i =>
    cases hcv : evalO P.globals.size e t with
    | none => rw [hcv] at hv; simp at hv
    | some cv =>
      rw [hcv] at hv
      cases cv <;> (try (simp at hv; done))
      simp only [Option.map_eq_some_iff, Prod.mk.injEq] at hv ⊢; obtain ⟨r, hr2, rfl, _⟩ := hv; exact ⟨r, hr2, rfl, trivial⟩
  all_goals (simp only [Option.map_eq_some_iff, Option.bind_eq_some_iff, Prod.mk.injEq] at hv ⊢)
  all_goals first
    | (obtain ⟨a, ha, rfl, _⟩ := hv; exact ⟨a, ha, rfl, trivial⟩)
    | (obtain ⟨a, ha, b, hb, rfl, _⟩ := hv; exact ⟨a, ha, b, hb, rfl, trivial⟩)
    | (obtain ⟨a, ha, b, hb, c, hc2, rfl, _⟩ := hv; exact ⟨a, ha, b, hb, c, hc2, rfl, trivial⟩)
    | skip

end
end Go.Ev
