/- What an operation depends on. -/
import Derived.Test.YtfickkmgbecamaaGreatDoorEv3
namespace Go.Ev

section
variable {P : Program} {h h' : AHeap} {v : Value} {id : Nat} {e e' : Tr Value} {o : Oper}

/-! ### The environment -/

theorem evalsO_congr {G : Nat} : ∀ {xs : List Operand}, (∀ x ∈ xs, evalO G e x = evalO G e' x) → evalsO G e xs = evalsO G e' xs
  | [], _ => rfl
  | x :: xs, hx => by
    simp only [evalsO]
    rw [hx x (by simp), evalsO_congr (xs := xs) fun y hy => hx y (by simp [hy])]

theorem mapO_congr {G : Nat} {xs : Array Operand} (hx : ∀ x ∈ xs, evalO G e x = evalO G e' x) : mapO G e xs = mapO G e' xs := by
  unfold mapO
  rw [evalsO_congr fun x hm => hx x (by simpa using hm)]

theorem partsO_congr {G : Nat} : ∀ {xs : List (Nat × Operand)}, (∀ x ∈ xs, evalO G e x.2 = evalO G e' x.2) → partsO G e xs = partsO G e' xs
  | [], _ => rfl
  | (i, x) :: xs, hx => by
    simp only [partsO]
    rw [hx (i, x) (by simp), partsO_congr (xs := xs) fun y hy => hx y (by simp [hy])]

theorem optO_congr {G : Nat} {x : Option Operand} (hx : ∀ y, x = some y → evalO G e y = evalO G e' y) : optO G e x = optO G e' x := by
  cases x with
  | none => rfl
  | some y => simp only [optO]; rw [hx y rfl]

theorem opA_congr (hx : ∀ x ∈ o.op.operands, evalO P.globals.size e x = evalO P.globals.size e' x) : opA P h id e o = opA P h id e' o := by
  unfold opA
  generalize o.op = op at hx
  cases op <;> simp only [Op.operands] at hx <;> (try dsimp only) <;> (try rfl) <;> try (first
    | rw [hx _ (by simp)]
    | (rw [hx _ (by simp)]; rw [hx _ (by simp)]))
  all_goals skip
  case makeMap t r => cases r <;> rfl
  case pick c a b =>
    have h1 := hx c (by simp); have h2 := hx a (by simp); have h3 := hx b (by simp)
    simp only [h1, h2, h3]
  case store t a x =>
    have h1 := hx a (by simp); have h2 := hx x (by simp)
    simp only [h1, h2]
  case binOp op t a x ty =>
    have h1 := hx a (by simp); have h2 := hx x (by simp)
    simp only [h1, h2]
  case makeSlice t a x =>
    have h1 := hx a (by simp); have h2 := hx x (by simp)
    simp only [h1, h2]
  case indexAddr t a x =>
    have h1 := hx a (by simp); have h2 := hx x (by simp)
    simp only [h1, h2]
  case index t a x =>
    have h1 := hx a (by simp); have h2 := hx x (by simp)
    simp only [h1, h2]
  case lookup t a x ok =>
    have h1 := hx a (by simp); have h2 := hx x (by simp)
    simp only [h1, h2]
  case mapEntry t a x =>
    have h1 := hx a (by simp); have h2 := hx x (by simp)
    simp only [h1, h2]
  case mapUpdate t m k x =>
    have h1 := hx m (by simp); have h2 := hx k (by simp); have h3 := hx x (by simp)
    simp only [h1, h2, h3]
  case insert t m k x =>
    have h1 := hx m (by simp); have h2 := hx k (by simp); have h3 := hx x (by simp)
    simp only [h1, h2, h3]
  case entryStore t m k x =>
    have h1 := hx m (by simp); have h2 := hx k (by simp); have h3 := hx x (by simp)
    simp only [h1, h2, h3]
  case build t parts =>
    simp only [mapParts]
    rw [partsO_congr fun x hm => hx x.2 (by simp; exact ⟨x.1, by simpa using hm⟩)]
  case buildSlice t l parts =>
    simp only [mapParts]
    rw [partsO_congr fun x hm => hx x.2 (by simp; exact ⟨x.1, by simpa using hm⟩)]
  case makeFunc fn first captured =>
    have h1 := mapO_congr (e := e) (e' := e') (xs := first) fun x hm => hx x (by simp [hm])
    have h2 := mapO_congr (e := e) (e' := e') (xs := captured) fun x hm => hx x (by simp [hm])
    cases fn <;> (try rfl)
    simp only [h1, h2]
  case slice t x lo hi mx =>
    have h1 := hx x (by simp)
    have h2 := optO_congr (e := e) (e' := e') (x := lo) fun y hy => hx y (by simp [hy])
    have h3 := optO_congr (e := e) (e' := e') (x := hi) fun y hy => hx y (by simp [hy])
    have h4 := optO_congr (e := e) (e' := e') (x := mx) fun y hy => hx y (by simp [hy])
    simp only [h1, h2, h3, h4]
  case call c =>
    obtain ⟨callee, args, ts⟩ := c
    have h1 := mapO_congr (e := e) (e' := e') (xs := args) fun x hm => hx x (by cases callee <;> simp [Call.operands, hm])
    cases callee <;> simp only [h1]

/-! ### The heap -/

theorem new_some {b : Nat} {ob : AObj} (hn : h.new b ob = some h') : h' = h.put b ob ∧ ∀ H : AHeap, H.get b = none → H.new b ob = some (H.put b ob) := by
  refine ⟨new_ok hn, fun H hH => ?_⟩
  unfold AHeap.new
  rw [hH]

theorem newA_some {t : TypeId} {cs : List Value} {g : Bool} {u : Value} (hn : newA P h id t cs g u = some (v, h')) :
    ∃ ob, mutO ob = true ∧ h' = h.put id ob ∧ ∀ H : AHeap, H.get id = none → newA P H id t cs g u = some (v, H.put id ob) := by
  unfold newA at hn ⊢
  split at hn
  · rename_i j hj
    simp only [Option.map_eq_some_iff, Prod.mk.injEq] at hn
    obtain ⟨h2, hh, rfl, rfl⟩ := hn
    obtain ⟨e1, e2⟩ := new_some hh
    refine ⟨.cells cs t false g, rfl, e1, fun H hH => ?_⟩
    simp only [e2 H hH]; rfl
  · cases hn

theorem opA_new (hn : isNew o.op = true) (hv : opA P h id e o = some (v, h')) : ∃ ob, mutO ob = true ∧ h' = h.put id ob ∧ ∀ H : AHeap, H.get id = none → opA P H id e o = some (v, H.put id ob) := by
  unfold opA at hv ⊢
  generalize o.op = op at hn hv
  cases op <;> simp only [isNew, Bool.false_eq_true] at hn <;> (try dsimp only at hv ⊢)
  case alloc t =>
    split at hv
    · rename_i z hz
      split at hv
      · rename_i hc
        simp only [hz, hc, if_true]
        exact newA_some hv
      · cases hv
    · cases hv
  case box t x =>
    obtain ⟨u, hu, hv⟩ := Option.bind_eq_some_iff.1 hv
    simp only [hu, Option.bind_some]
    exact newA_some hv
  case buildSlice t l parts =>
    obtain ⟨u, hu, hv⟩ := Option.bind_eq_some_iff.1 hv
    simp only [hu, Option.bind_some]
    unfold buildSliceA at hv ⊢
    repeat' split at hv
    all_goals first | (cases hv; done) | skip
    simp only [*, and_self, if_true]
    exact newA_some hv
  case makeMap t r =>
    cases r with
    | some r => simp at hv
    | none =>
      dsimp only at hv ⊢
      simp only [Option.map_eq_some_iff, Prod.mk.injEq] at hv
      obtain ⟨h2, hh, rfl, rfl⟩ := hv
      obtain ⟨e1, e2⟩ := new_some hh
      exact ⟨.map [] 0, rfl, e1, fun H hH => by simp only [e2 H hH]; rfl⟩
  case makeSlice t l c =>
    obtain ⟨u, hu, hv⟩ := Option.bind_eq_some_iff.1 hv
    obtain ⟨z, hz, hv⟩ := Option.bind_eq_some_iff.1 hv
    simp only [hu, hz, Option.bind_some]
    unfold makeSliceA at hv ⊢
    repeat' split at hv
    all_goals first | (cases hv; done) | skip
    simp only [*, and_self, if_true]
    exact newA_some hv

theorem opA_old (hn : isNew o.op = false) (hc : isEff o.op = false) (hv : opA P h id e o = some (v, h')) : h' = h := by
  unfold opA at hv
  generalize o.op = op at hn hc hv
  cases op <;> simp only [isNew, isEff, Bool.false_eq_true, Bool.true_eq_false] at hn hc <;> (try dsimp only at hv) <;> (try (simp at hv; done))
  case makeFunc fn a b =>
    cases fn <;> (try dsimp only at hv) <;> (try (simp at hv; done))
    simp only [Option.map_eq_some_iff, Option.bind_eq_some_iff, Prod.mk.injEq] at hv
    obtain ⟨_, _, _, _, _, rfl⟩ := hv; rfl
  case call c =>
    obtain ⟨callee, args, ts⟩ := c
    cases callee <;> (try dsimp only at hv hc) <;> (try (simp at hv; done))
    rename_i b
    obtain ⟨vs, _, hv⟩ := Option.bind_eq_some_iff.1 hv
    cases b <;> simp only [Bool.true_eq_false] at hc <;> unfold builtinA at hv <;> dsimp only at hv
    all_goals (repeat' split at hv)
    all_goals first
      | (cases hv; done)
      | (simp only [Option.map_eq_some_iff, Prod.mk.injEq] at hv; obtain ⟨_, _, _, rfl⟩ := hv; rfl)
  all_goals (repeat' split at hv)
  all_goals (try simp only [Option.map_eq_some_iff, Option.bind_eq_some_iff, Prod.mk.injEq, Option.some.injEq] at hv)
  all_goals first
    | (cases hv; done)
    | (obtain ⟨_, rfl⟩ := hv; rfl)
    | (obtain ⟨_, _, _, rfl⟩ := hv; rfl)
    | (obtain ⟨_, _, _, _, _, rfl⟩ := hv; rfl)
    | (obtain ⟨_, _, _, _, _, _, _, rfl⟩ := hv; rfl)
    | (obtain ⟨_, _, _, _, _, _, _, _, _, _, _, rfl⟩ := hv; rfl)
    | skip

theorem binA_free {op : BinOp} {t : TypeId} {x y u : Value} (hr : op ≠ .eql ∧ op ≠ .neq) (hv : binA P h op t x y = some u) (H : AHeap) : binA P H op t x y = some u := by
  obtain ⟨h1, h2⟩ := hr
  rw [← hv]
  unfold binA
  split
  · rfl
  · rfl
  · cases op <;> first | rfl | exact absurd rfl h1 | exact absurd rfl h2

theorem opA_free (hn : isNew o.op = false) (hc : isEff o.op = false) (hr : readsH o.op = false) (hv : opA P h id e o = some (v, h')) (H : AHeap) : opA P H id e o = some (v, H) := by
  obtain rfl := opA_old hn hc hv
  unfold opA at hv ⊢
  generalize o.op = op at hn hc hr hv
  cases op <;> simp only [isNew, isEff, readsH, Bool.false_eq_true, Bool.true_eq_false] at hn hc hr <;> (try dsimp only at hv ⊢) <;> (try (simp at hv; done))
  case makeFunc fn a b =>
    cases fn <;> (try dsimp only at hv ⊢) <;> (try (simp at hv; done))
    simp only [Option.map_eq_some_iff, Option.bind_eq_some_iff, Prod.mk.injEq] at hv ⊢
    obtain ⟨x, hx, y, hy, rfl, _⟩ := hv; exact ⟨x, hx, y, hy, rfl, trivial⟩
  case binOp op t x y ty =>
    simp only [Option.map_eq_some_iff, Option.bind_eq_some_iff, Prod.mk.injEq] at hv ⊢
    obtain ⟨a, ha, b, hb, c, hcc, rfl, _⟩ := hv
    refine ⟨a, ha, b, hb, c, binA_free ⟨fun e => ?_, fun e => ?_⟩ hcc H, rfl, trivial⟩
    · subst e; simp at hr
    · subst e; simp at hr
  case call c =>
    obtain ⟨callee, args, ts⟩ := c
    cases callee <;> (try dsimp only at hv hc hr ⊢) <;> (try (simp at hv; done))
    rename_i b
    obtain ⟨vs, hvs, hv⟩ := Option.bind_eq_some_iff.1 hv
    rw [hvs, Option.bind_some]
    cases b <;> simp only [Bool.true_eq_false] at hc hr <;> unfold builtinA at hv ⊢ <;> dsimp only at hv ⊢
    all_goals (repeat' split at hv)
    all_goals first | (simp at hv; done) | skip
    all_goals (simp only [Option.map_eq_some_iff, Prod.mk.injEq] at hv ⊢; obtain ⟨r, hr2, rfl, _⟩ := hv; exact ⟨r, hr2, rfl, trivial⟩)
  case pick c a b =>
    cases hcv : evalO P.globals.size e c with
    | none => rw [hcv] at hv; simp at hv
    | some cv =>
      rw [hcv] at hv
      cases cv <;> (try (simp at hv; done))
      rename_i t
      cases t <;> (simp only [Option.map_eq_some_iff, Prod.mk.injEq] at hv ⊢; obtain ⟨r, hr2, rfl, _⟩ := hv; exact ⟨r, hr2, rfl, trivial⟩)
  case nilCheck x =>
    cases hcv : evalO P.globals.size e x with
    | none => rw [hcv] at hv; simp at hv
    | some cv =>
      rw [hcv] at hv
      split at hv
      all_goals first | (simp at hv; done) | skip
      all_goals (rename_i he; simp only [Option.some.injEq] at he; subst he; simp only [Option.some.injEq, Prod.mk.injEq] at hv ⊢; exact ⟨hv.1, trivial⟩)
  case extract t i =>
    cases hcv : evalO P.globals.size e t with
    | none => rw [hcv] at hv; simp at hv
    | some cv =>
      rw [hcv] at hv
      cases cv <;> (try (simp at hv; done))
      simp only [Option.map_eq_some_iff, Prod.mk.injEq] at hv ⊢; obtain ⟨r, hr2, rfl, _⟩ := hv; exact ⟨r, hr2, rfl, trivial⟩
  all_goals (simp only [Option.map_eq_some_iff, Option.bind_eq_some_iff, Prod.mk.injEq] at hv ⊢)
  all_goals first
    | (obtain ⟨a, ha, rfl, _⟩ := hv; exact ⟨a, ha, rfl, trivial⟩)
    | (obtain ⟨a, ha, b, hb, rfl, _⟩ := hv; exact ⟨a, ha, b, hb, rfl, trivial⟩)
    | (obtain ⟨a, ha, b, hb, c, hc2, rfl, _⟩ := hv; exact ⟨a, ha, b, hb, c, hc2, rfl, trivial⟩)
    | skip

end
end Go.Ev

/- The evaluator's run in its own order, seen from some place in it. -/
namespace Go.Ev

/-! ### Equal values -/

theorem zip_same {n : Nat} (ih : ∀ u v, sameV n u v = true → u = v) : ∀ {a b : List Value}, a.length = b.length → (a.zip b).all (fun (x, y) => sameV n x y) = true → a = b
  | [], [], _, _ => rfl
  | [], _ :: _, h, _ => by simp at h
  | _ :: _, [], h, _ => by simp at h
  | x :: xs, y :: ys, hl, h => by
    simp only [List.zip_cons_cons, List.all_cons, Bool.and_eq_true] at h
    rw [ih x y h.1, zip_same ih (by simpa using hl) h.2]

theorem arr_same {n : Nat} (ih : ∀ u v, sameV n u v = true → u = v) {a b : Array Value} (hs : (a.size == b.size) = true) (h : (a.toList.zip b.toList).all (fun (x, y) => sameV n x y) = true) : a = b := by
  apply Array.toList_inj.1
  exact zip_same ih (by simpa using hs) h

theorem sameV_eq : ∀ (n : Nat) (u v : Value), sameV n u v = true → u = v := by
  intro n
  induction n with
  | zero =>
    intro u v h
    unfold sameV at h
    split at h <;> simp_all [ByteArray.ext_iff]
  | succ n ih =>
    intro u v h
    cases u <;> cases v <;> simp only [sameV, Bool.false_eq_true, Bool.and_eq_true] at h
    case func.func f a c g b d =>
      obtain ⟨⟨⟨⟨h1, h2⟩, h3⟩, h4⟩, h5⟩ := h
      rw [arr_same ih h2 h4, arr_same ih h3 h5]
      simp_all
    case agg.agg a b => rw [arr_same ih h.1 h.2]
    case tuple.tuple a b => rw [arr_same ih h.1 h.2]
    all_goals simp_all [ByteArray.ext_iff]

end Go.Ev

/- The evaluator's run in its own order, seen from some place in it: what each operation behind will yield. -/
namespace Go.Ev

structure Ent where
  m : Nat
  snaps : List AHeap
  a : AAct
  h : AHeap
  a' : AAct
  h' : AHeap

section
variable (P : Program) (S : Self) (base : Nat) (ops : Array Oper)

def futA (i : Nat) : List (Nat × Nat) → List AHeap → AAct → AHeap → Option Ent
  | [], _, _, _ => none
  | (j, m) :: rest, snaps, a, h =>
    match ops[j]? with
    | none => none
    | some o =>
      match stepA P S base ops j a h with
      | none => none
      | some (a', h') => if j = i then some ⟨m, snaps, a, h, a', h'⟩ else futA i rest (if isEff o.op then h' :: snaps else snaps) a' h'
end

section
variable {P : Program} {S : Self} {base : Nat} {ops : Array Oper}

theorem planA_cons {i m : Nat} {rest : List (Nat × Nat)} {snaps : List AHeap} {a : AAct} {h : AHeap} {r : AAct × AHeap} (hr : planA P S base ops ((i, m) :: rest) snaps a h = some r) :
    ∃ o a' h', ops[i]? = some o ∧ stepA P S base ops i a h = some (a', h') ∧ planA P S base ops rest (if isEff o.op then h' :: snaps else snaps) a' h' = some r ∧
      (isEff o.op = true → lateOk base ops rest h' = true) ∧ (isEff o.op = false → calmOk P base ops o i m snaps a a' = true) := by
  simp only [planA] at hr
  split at hr
  · cases hr
  rename_i o ho
  split at hr
  · cases hr
  rename_i a' h' hs
  refine ⟨o, a', h', ho, hs, ?_⟩
  split at hr
  · rename_i he
    split at hr
    · rename_i hl
      exact ⟨by rw [if_pos he]; exact hr, fun _ => hl, fun hf => by rw [he] at hf; cases hf⟩
    · cases hr
  · rename_i he
    simp only [Bool.not_eq_true] at he
    split at hr
    · rename_i hc
      exact ⟨by rw [he]; exact hr, fun hf => (by rw [he] at hf; cases hf), fun _ => hc⟩
    · cases hr

theorem stepA_env {i : Nat} {a a' : AAct} {h h' : AHeap} (hs : stepA P S base ops i a h = some (a', h')) {o : Oper} (ho : ops[i]? = some o) :
    a'.n = a.n ∧ a'.marks = a.marks ∧ ∀ t, o.dst ≠ some t → a'.env.get t = a.env.get t := by
  have hput : ∀ {v : Value} {a1 : AAct}, a.put o.dst v = some a1 → a1.n = a.n ∧ a1.marks = a.marks ∧ ∀ t, o.dst ≠ some t → a1.env.get t = a.env.get t := fun {v a1} hp => by
    unfold AAct.put at hp
    split at hp
    · cases hp; exact ⟨rfl, rfl, fun _ _ => rfl⟩
    · rename_i d hd
      split at hp
      · cases hp
        exact ⟨rfl, rfl, fun t ht => Tr.get_set_ne _ _ fun e => ht (by rw [hd, e])⟩
      · cases hp
  unfold stepA at hs
  rw [ho] at hs
  simp only at hs
  split at hs
  · obtain ⟨⟨v, h1⟩, hv, hp⟩ := Option.bind_eq_some_iff.1 hs
    simp only [Option.map_eq_some_iff, Prod.mk.injEq] at hp
    obtain ⟨a1, ha1, rfl, rfl⟩ := hp
    exact hput ha1
  · simp only [Option.map_eq_some_iff, Prod.mk.injEq] at hs
    obtain ⟨a1, ha1, rfl, rfl⟩ := hs
    exact hput ha1
  · cases hs

theorem futA_here {i m : Nat} {rest : List (Nat × Nat)} {snaps : List AHeap} {a a' : AAct} {h h' : AHeap} {o : Oper} (ho : ops[i]? = some o) (hs : stepA P S base ops i a h = some (a', h')) :
    futA P S base ops i ((i, m) :: rest) snaps a h = some ⟨m, snaps, a, h, a', h'⟩ := by
  simp [futA, ho, hs]

theorem futA_there {i j m : Nat} {rest : List (Nat × Nat)} {snaps : List AHeap} {a a' : AAct} {h h' : AHeap} {o : Oper} (hne : j ≠ i) (ho : ops[j]? = some o) (hs : stepA P S base ops j a h = some (a', h')) :
    futA P S base ops i ((j, m) :: rest) snaps a h = futA P S base ops i rest (if isEff o.op then h' :: snaps else snaps) a' h' := by
  simp [futA, ho, hs, hne]

/-! ### Places in a checked order -/

theorem Fine.notin {pre es : List Nat} {rest : List (Nat × Nat)} (h : Fine ops pre es rest) : ∀ q ∈ idx rest, q ∉ pre := by
  induction h with
  | nil => intro q hq; simp [idx] at hq
  | cons hsp _ ih =>
    intro q hq
    simp only [idx, List.map_cons, List.mem_cons] at hq
    rcases hq with rfl | hq
    · exact hsp.new
    · exact fun hp => ih q hq (by simp [hp])

theorem Spot.closed {pre es : List Nat} {i m : Nat} {o : Oper} (h : Spot ops pre es i m o) (hc : Closed ops (· ∈ pre)) : Closed ops (· ∈ i :: pre) := fun j oj hj hoj e he hb => by
  rcases List.mem_cons.1 hj with rfl | hj
  · rw [h.op] at hoj; cases hoj
    exact List.mem_cons_of_mem _ (h.edges e he hb)
  · exact List.mem_cons_of_mem _ (hc j oj hj hoj e he hb)

theorem Spot.reach {pre es : List Nat} {i m : Nat} {o : Oper} (h : Spot ops pre es i m o) (hc : Closed ops (· ∈ pre)) {k : Nat} (hr : Reach ops i k) : k ∈ pre :=
  hr.met hc fun o' ho' e he hb => by rw [h.op] at ho'; cases ho'; exact h.edges e he hb

/-- What an operation behind will yield, and what it has been looked at in. -/
theorem fut_some {i : Nat} {r : AAct × AHeap} : ∀ {rest : List (Nat × Nat)} {pre es : List Nat} {snaps : List AHeap} {a : AAct} {h : AHeap}, Fine ops pre es rest → planA P S base ops rest snaps a h = some r → i ∈ idx rest →
    ∃ ent o pre' es' news new, futA P S base ops i rest snaps a h = some ent ∧ ops[i]? = some o ∧ stepA P S base ops i ent.a ent.h = some (ent.a', ent.h') ∧ (isEff o.op = false → calmOk P base ops o i ent.m ent.snaps ent.a ent.a' = true) ∧
      Spot ops pre' es' i ent.m o ∧ es' = es ++ new ∧ ent.snaps = news ++ snaps ∧ news.length = new.length ∧ (∀ q ∈ new, q ∈ idx rest ∧ ∀ oq, ops[q]? = some oq → isEff oq.op = true)
  | [], _, _, _, _, _, _, _, hi => by simp [idx] at hi
  | (j, m) :: rest, pre, es, snaps, a, h, .cons (o := o) hsp hfs, hr, hi => by
    obtain ⟨o', a', h', ho', hs, hr', _, hcalm⟩ := planA_cons hr
    have ho := hsp.op
    rw [ho] at ho'; cases ho'
    by_cases e : j = i
    · subst e
      exact ⟨_, o, pre, es, [], [], futA_here ho hs, ho, hs, hcalm, hsp, by simp, by simp, rfl, by simp⟩
    · have hi' : i ∈ idx rest := by simp only [idx, List.map_cons, List.mem_cons] at hi; exact hi.resolve_left fun h => e h.symm
      obtain ⟨ent, oi, pre', es', news, new, h1, h2, h3, h4, h5, h6, h7, h8, h9⟩ := fut_some hfs hr' hi'
      have h9' : ∀ q ∈ new, q ∈ idx ((j, m) :: rest) ∧ ∀ oq, ops[q]? = some oq → isEff oq.op = true := fun q hq => ⟨by simp only [idx, List.map_cons, List.mem_cons]; exact .inr (h9 q hq).1, (h9 q hq).2⟩
      by_cases he : isEff o.op = true
      · rw [if_pos he] at h6 h7
        refine ⟨ent, oi, pre', es', news ++ [h'], j :: new, by rw [futA_there e ho hs]; exact h1, h2, h3, h4, h5, by rw [h6]; simp, by rw [h7]; simp, by simp [h8], fun q hq => ?_⟩
        rcases List.mem_cons.1 hq with rfl | hq
        · exact ⟨by simp [idx], fun oq hoq => by rw [ho] at hoq; cases hoq; exact he⟩
        · exact h9' q hq
      · rw [if_neg he] at h6 h7
        exact ⟨ent, oi, pre', es', news, new, by rw [futA_there e ho hs]; exact h1, h2, h3, h4, h5, h6, h7, h8, h9'⟩

/-- Where the slots of an operation behind get what they have when it is its turn. -/
theorem fut_env {i : Nat} {r : AAct × AHeap} : ∀ {rest : List (Nat × Nat)} {pre es : List Nat} {snaps : List AHeap} {a : AAct} {h : AHeap} {ent : Ent}, Fine ops pre es rest → Closed ops (· ∈ pre) → planA P S base ops rest snaps a h = some r → i ∈ idx rest →
    futA P S base ops i rest snaps a h = some ent → ∀ t,
      (∃ q oq entq, q ∈ idx rest ∧ q ≠ i ∧ ¬ Reach ops q i ∧ ops[q]? = some oq ∧ oq.dst = some t ∧ futA P S base ops q rest snaps a h = some entq ∧ ent.a.env.get t = entq.a'.env.get t) ∨
      (ent.a.env.get t = a.env.get t ∧ ∀ q oq, q ∈ idx rest → ops[q]? = some oq → oq.dst = some t → q = i ∨ ¬ Reach ops i q)
  | [], _, _, _, _, _, _, _, _, _, hi, _ => by simp [idx] at hi
  | (j, m) :: rest, pre, es, snaps, a, h, ent, .cons (o := o) hsp hfs, hc, hr, hi, hf => by
    obtain ⟨o', a', h', ho', hs, hr', _, _⟩ := planA_cons hr
    have ho := hsp.op
    rw [ho] at ho'; cases ho'
    intro t
    by_cases e : j = i
    · subst e
      rw [futA_here ho hs] at hf
      cases hf
      refine .inr ⟨rfl, fun q oq hq _ _ => ?_⟩
      simp only [idx, List.map_cons, List.mem_cons] at hq
      rcases hq with rfl | hq
      · exact .inl rfl
      · exact .inr fun hre => hfs.notin q hq (List.mem_cons_of_mem _ (hsp.reach hc hre))
    · have hi' : i ∈ idx rest := by simp only [idx, List.map_cons, List.mem_cons] at hi; exact hi.resolve_left fun h => e h.symm
      rw [futA_there e ho hs] at hf
      rcases fut_env hfs (hsp.closed hc) hr' hi' hf t with ⟨q, oq, entq, h1, h2, h3, h4, h5, h6, h7⟩ | ⟨h1, h2⟩
      · have hqj : j ≠ q := fun e2 => hfs.notin q h1 (by rw [e2]; simp)
        exact .inl ⟨q, oq, entq, by simp only [idx, List.map_cons, List.mem_cons]; exact .inr h1, h2, h3, h4, h5, by rw [futA_there hqj ho hs]; exact h6, h7⟩
      · by_cases hd : o.dst = some t
        · exact .inl ⟨j, o, _, by simp [idx], e, fun hre => hfs.notin i hi' (List.mem_cons_of_mem _ (hsp.reach hc hre)), ho, hd, futA_here ho hs, h1⟩
        · refine .inr ⟨h1.trans ((stepA_env hs ho).2.2 t hd), fun q oq hq hoq hqd => ?_⟩
          simp only [idx, List.map_cons, List.mem_cons] at hq
          rcases hq with rfl | hq
          · rw [ho] at hoq; cases hoq; exact (hd hqd).elim
          · exact h2 q oq hq hoq hqd

end
end Go.Ev

/- An operation done earlier than the evaluator does it yields the same. -/
namespace Go.Ev

section
variable {P : Program} {S : Self} {base : Nat} {ops : Array Oper}

theorem evalO_of_reads {e e' : Tr Value} {o : Oper} (hx : ∀ t ∈ readsT ops o, e.get t = e'.get t) : ∀ x ∈ o.op.operands, evalO P.globals.size e x = evalO P.globals.size e' x := fun x hm => by
  cases x with
  | tmp t => exact hx t (List.mem_append_left _ (List.mem_filterMap.2 ⟨.tmp t, by simpa using hm, rfl⟩))
  | _ => rfl

theorem operA_congr {e e' : Tr Value} {o : Oper} {h : AHeap} {id : Nat} (hx : ∀ t ∈ readsT ops o, e.get t = e'.get t) : operA P S id e h o = operA P S id e' h o := by
  have hv := evalO_of_reads (P := P) hx
  unfold operA
  split
  · rename_i f args ts ho
    rw [ho] at hv
    have h1 : evalO P.globals.size e f = evalO P.globals.size e' f := hv f (by simp [Op.operands, Call.operands])
    have h2 : mapO P.globals.size e args = mapO P.globals.size e' args := mapO_congr fun x hm => hv x (by simp [Op.operands, Call.operands, hm])
    rw [h1, h2]
  · exact opA_congr hv

theorem wantedA_congr {e e' : Tr Value} {o : Oper} (hx : ∀ t ∈ readsT ops o, e.get t = e'.get t) : wantedA ops e o = wantedA ops e' o := by
  unfold wantedA
  split
  · rfl
  · rename_i j want hg
    split
    · rename_i d hd
      rw [hx d (List.mem_append_right _ (by rw [hg]; simp [hd]))]
    · rfl

theorem put_n {a a2 a' : AAct} {dst : Option Tmp} {v : Value} (hn : a2.n = a.n) (hp : a.put dst v = some a') : ∃ a2', a2.put dst v = some a2' := by
  unfold AAct.put at hp ⊢
  split at hp
  · exact ⟨_, rfl⟩
  · split at hp
    · rename_i hd; exact ⟨_, by rw [if_pos (by rw [hn]; exact hd)]⟩
    · cases hp

theorem put_env {a a' : AAct} {dst : Option Tmp} {v : Value} (hp : a.put dst v = some a') : a'.n = a.n ∧ a'.marks = a.marks ∧ (∀ d, dst = some d → a'.env.get d = some v) ∧ ∀ t, dst ≠ some t → a'.env.get t = a.env.get t := by
  unfold AAct.put at hp
  split at hp
  · cases hp; exact ⟨rfl, rfl, fun _ hd => (by cases hd), fun _ _ => rfl⟩
  · rename_i d
    split at hp
    · cases hp
      exact ⟨rfl, rfl, fun d' hd => by cases hd; exact Tr.get_set_self _ _ _, fun t ht => Tr.get_set_ne _ _ fun e => ht (by rw [e])⟩
    · cases hp

/-- The same step by another activation that agrees with the first one where the operation looks. -/
theorem stepA_congr {i : Nat} {a a' a2 : AAct} {h h' : AHeap} {o : Oper} (ho : ops[i]? = some o) (hs : stepA P S base ops i a h = some (a', h')) (hx : ∀ t ∈ readsT ops o, a2.env.get t = a.env.get t) (hn : a2.n = a.n) :
    ∃ v a2', stepA P S base ops i a2 h = some (a2', h') ∧ a2.put o.dst v = some a2' ∧ a.put o.dst v = some a' := by
  unfold stepA at hs ⊢
  rw [ho] at hs ⊢
  simp only at hs ⊢
  rw [wantedA_congr hx]
  split at hs
  · obtain ⟨⟨v, h1⟩, hv, hp⟩ := Option.bind_eq_some_iff.1 hs
    simp only [Option.map_eq_some_iff, Prod.mk.injEq] at hp
    obtain ⟨a1, ha1, rfl, rfl⟩ := hp
    obtain ⟨a2', ha2⟩ := put_n hn ha1
    exact ⟨v, a2', by rw [operA_congr hx, hv]; simp [ha2], ha2, ha1⟩
  · simp only [Option.map_eq_some_iff, Prod.mk.injEq] at hs
    obtain ⟨a1, ha1, rfl, rfl⟩ := hs
    obtain ⟨a2', ha2⟩ := put_n hn ha1
    exact ⟨undef, a2', by simp [ha2], ha2, ha1⟩
  · cases hs

theorem calm_plain {o : Oper} (he : isEff o.op = false) (f : Operand) (args : Array Operand) (ts : Array TypeId) : o.op ≠ .call { callee := .value f, args := args, argTypes := ts } := fun h => by
  rw [h] at he; simp [isEff] at he

/-- An operation that only computes, in a heap that it has been looked at in. -/
theorem calm_at {i m : Nat} {o : Oper} {sn : List AHeap} {ea ea' e2 : AAct} {eh eh' h : AHeap} (he : isEff o.op = false) (ho : ops[i]? = some o) (hs : stepA P S base ops i ea eh = some (ea', eh'))
    (hck : calmOk P base ops o i m sn ea ea' = true) (hh : h ∈ sn.take m) (hfree : h.get (base + i) = none) (hx : ∀ t ∈ readsT ops o, e2.env.get t = ea.env.get t) (hn : e2.n = ea.n) :
    ∃ v e2' hX, stepA P S base ops i e2 h = some (e2', hX) ∧ e2.put o.dst v = some e2' ∧ ea.put o.dst v = some ea' ∧
      ((eh' = eh ∧ hX = h) ∨ ∃ ob, mutO ob = true ∧ isNew o.op = true ∧ eh' = eh.put (base + i) ob ∧ hX = h.put (base + i) ob) := by
  unfold stepA at hs ⊢
  rw [ho] at hs ⊢
  simp only at hs ⊢
  rw [wantedA_congr hx]
  split at hs
  · rename_i hw
    obtain ⟨⟨v, h1⟩, hv, hp⟩ := Option.bind_eq_some_iff.1 hs
    simp only [Option.map_eq_some_iff, Prod.mk.injEq] at hp
    obtain ⟨a1, ha1, rfl, rfl⟩ := hp
    obtain ⟨a2', ha2⟩ := put_n hn ha1
    rw [operA_plain (calm_plain he)] at hv
    have hop : operA P S (base + i) e2.env h o = opA P h (base + i) ea.env o := by
      rw [operA_congr hx, operA_plain (calm_plain he)]
    rw [hop]
    by_cases hnew : isNew o.op = true
    · obtain ⟨ob, hm, e1, e3⟩ := opA_new hnew hv
      exact ⟨v, a2', _, by rw [e3 h hfree]; simp [ha2], ha2, ha1, .inr ⟨ob, hm, hnew, e1, rfl⟩⟩
    · simp only [Bool.not_eq_true] at hnew
      have hold := opA_old hnew he hv
      by_cases hr : readsH o.op = true
      · unfold calmOk at hck
        rw [hr, hw] at hck
        simp only [Bool.not_true, Bool.false_or, List.all_eq_true] at hck
        have := hck h hh
        split at this
        · rename_i u hX v' hu hv'
          obtain ⟨d, hd, hdv⟩ := Option.bind_eq_some_iff.1 hv'
          rw [(put_env ha1).2.2.1 d hd] at hdv
          cases hdv
          have huv := sameV_eq 3 _ _ this
          have hold2 := opA_old hnew he hu
          subst huv; subst hold2
          exact ⟨u, a2', _, by rw [hu]; simp [ha2], ha2, ha1, .inl ⟨hold, rfl⟩⟩
        · cases this
      · simp only [Bool.not_eq_true] at hr
        exact ⟨v, a2', h, by rw [opA_free hnew he hr hv h]; simp [ha2], ha2, ha1, .inl ⟨hold, rfl⟩⟩
  · simp only [Option.map_eq_some_iff, Prod.mk.injEq] at hs
    obtain ⟨a1, ha1, rfl, rfl⟩ := hs
    obtain ⟨a2', ha2⟩ := put_n hn ha1
    exact ⟨undef, a2', h, by simp [ha2], ha2, ha1, .inl ⟨rfl, rfl⟩⟩
  · cases hs

/-! ### Blocks that have been laid ahead -/

def look (G : List (Nat × AObj)) (b : Nat) : Option AObj := (G.find? (·.1 == b)).map (·.2)

def over (G : List (Nat × AObj)) (h : AHeap) : AHeap := G.foldr (fun p H => H.put p.1 p.2) h

theorem look_cons (p : Nat × AObj) (G : List (Nat × AObj)) (b : Nat) : look (p :: G) b = if b = p.1 then some p.2 else look G b := by
  unfold look
  rw [List.find?_cons]
  by_cases e : b = p.1
  · subst e; simp
  · rw [if_neg e]
    have : (p.1 == b) = false := by simp; exact fun h => e h.symm
    rw [this]

theorem over_get (G : List (Nat × AObj)) (h : AHeap) (b : Nat) : (over G h).get b = match look G b with | some o => some o | none => h.get b := by
  induction G with
  | nil => rfl
  | cons p G ih =>
    show ((over G h).put p.1 p.2).get b = _
    rw [AHeap.get_put, look_cons]
    split
    · rfl
    · exact ih

theorem over_next (G : List (Nat × AObj)) (h : AHeap) : (over G h).next = h.next := by
  induction G with
  | nil => rfl
  | cons p G ih => exact ih

theorem look_filter (G : List (Nat × AObj)) (c b : Nat) : look (G.filter fun p => !(p.1 == c)) b = if b = c then none else look G b := by
  induction G with
  | nil => simp [look]
  | cons p G ih =>
    rw [List.filter_cons]
    by_cases e : p.1 = c
    · rw [if_neg (by simp [e]), ih, look_cons]
      split
      · rfl
      · rename_i h1; rw [if_neg (by rw [e]; exact h1)]
    · rw [if_pos (by simp [e]), look_cons, look_cons, ih]
      by_cases h1 : b = c
      · rw [if_pos h1, if_pos h1, if_neg (by rw [h1]; exact fun h => e h.symm)]
      · rw [if_neg h1, if_neg h1]

end
end Go.Ev

/- A region whose order is drawn: where the run in whatever order stands, seen from a place in the evaluator's own order. -/
namespace Go.Ev

section
variable {P : Program} {S : Self} {base : Nat} {ops : Array Oper}

/-- The evaluator's own order has been gone up to some place (a, h), by its own run; the run in some other order has done D, and has eD; the blocks G have been laid ahead. -/
structure Cur (P : Program) (S : Self) (base : Nat) (ops : Array Oper) (r : AAct × AHeap) (pre es : List Nat) (rest : List (Nat × Nat)) (snaps : List AHeap) (a : AAct) (h : AHeap) (D : Nat → Prop) (eD : AAct) (G : List (Nat × AObj)) : Prop where
  fine : Fine ops pre es rest
  prec : Closed ops (· ∈ pre)
  run : planA P S base ops rest snaps a h = some r
  len : snaps.length = es.length + 1
  preD : ∀ j ∈ pre, D j
  dcl : Closed ops D
  calm : ∀ j ∈ idx rest, D j → ∀ o, ops[j]? = some o → isEff o.op = false
  frn : eD.n = a.n
  frm : eD.marks = a.marks
  env1 : ∀ q ∈ idx rest, D q → ∀ o d ent, ops[q]? = some o → o.dst = some d → futA P S base ops q rest snaps a h = some ent → eD.env.get d = ent.a'.env.get d
  env2 : ∀ d, (∀ q ∈ idx rest, D q → ∀ o, ops[q]? = some o → o.dst ≠ some d) → eD.env.get d = a.env.get d
  g1 : ∀ q ∈ idx rest, D q → ∀ ent, futA P S base ops q rest snaps a h = some ent → ent.h' = ent.h ∨ ∃ ob, ent.h' = ent.h.put (base + q) ob ∧ look G (base + q) = some ob
  g2 : ∀ b ob, look G b = some ob → h.get b = none ∧ mutO ob = true ∧ ∃ q ∈ idx rest, D q ∧ b = base + q ∧ (∀ o, ops[q]? = some o → isNew o.op = true) ∧ ∃ ent, futA P S base ops q rest snaps a h = some ent ∧ ent.h' = ent.h.put (base + q) ob

def NoneIn (G : List (Nat × AObj)) (h : AHeap) : Prop := ∀ b ob, look G b = some ob → h.get b = none ∧ mutO ob = true

variable {pl : List (Nat × Nat)} {r : AAct × AHeap} {pre es : List Nat} {rest : List (Nat × Nat)} {snaps : List AHeap} {a : AAct} {h : AHeap} {D : Nat → Prop} {eD : AAct} {G : List (Nat × AObj)}

/-- Where an operation that may be done now looks, both runs have the same. -/
theorem Cur.agree (F : PlanFacts ops pl) (C : Cur P S base ops r pre es rest snaps a h D eD G) {i : Nat} (hi : i ∈ idx rest) (hD : ¬ D i) {o : Oper} (ho : ops[i]? = some o)
    (hm : ∀ e ∈ o.after, Region.binds .any e = true → D e.on) {ent : Ent} (hf : futA P S base ops i rest snaps a h = some ent) : ∀ t ∈ readsT ops o, eD.env.get t = ent.a.env.get t := fun t ht => by
  have met : ∀ {k}, Reach ops i k → D k := fun hre => hre.met C.dcl fun o' ho' e he hb => by rw [ho] at ho'; cases ho'; exact hm e he hb
  rcases fut_env C.fine C.prec C.run hi hf t with ⟨q, oq, entq, h1, h2, h3, h4, h5, h6, h7⟩ | ⟨h1, h2⟩
  · rw [h7]
    rcases F.slots i q o oq t (fun e => h2 e.symm) ho h4 h5 ht with hre | hre
    · exact C.env1 q h1 (met hre) oq t entq h4 h5 h6
    · exact (h3 hre).elim
  · rw [h1]
    refine C.env2 t fun q hq hDq oq hoq hdq => ?_
    have hqi : q ≠ i := fun e => hD (e ▸ hDq)
    rcases h2 q oq hq hoq hdq with e | hnr
    · exact hqi e
    · rcases F.slots i q o oq t (fun e => hqi e.symm) ho hoq hdq ht with hre | hre
      · exact hnr hre
      · exact hD (hre.closed C.dcl hDq)

theorem idx_cons (j m : Nat) (rest : List (Nat × Nat)) : idx ((j, m) :: rest) = j :: idx rest := rfl

/-- The evaluator's own run goes past what the other one has done already. -/
theorem Cur.advance {j m : Nat} (C : Cur P S base ops r pre es ((j, m) :: rest) snaps a h D eD G) (hj : D j) :
    ∃ a' h' G', Cur P S base ops r (j :: pre) es rest snaps a' h' D eD G' ∧ (∀ b, (over G' h').get b = (over G h).get b) ∧ h'.next = h.next := by
  obtain ⟨o, a', h', ho, hs, hr, _, hck⟩ := planA_cons C.run
  cases C.fine with
  | @cons _ _ _ _ o2 _ hsp hfs =>
  have ho2 := hsp.op
  rw [ho] at ho2; cases ho2
  have he := C.calm j (by rw [idx_cons]; simp) hj o ho
  rw [he] at hfs hr
  simp only [Bool.false_eq_true, if_false] at hfs hr
  have hne : ∀ q ∈ idx rest, j ≠ q := fun q hq e => hfs.notin q hq (by rw [e]; simp)
  have hfut : ∀ q ∈ idx rest, futA P S base ops q ((j, m) :: rest) snaps a h = futA P S base ops q rest snaps a' h' := fun q hq => by
    rw [futA_there (hne q hq) ho hs, he]; simp
  have hent := futA_here (m := m) (rest := rest) (snaps := snaps) ho hs
  have hmem : ∀ q ∈ idx rest, q ∈ idx ((j, m) :: rest) := fun q hq => by rw [idx_cons]; exact List.mem_cons_of_mem _ hq
  have hjm : j ∈ idx ((j, m) :: rest) := by rw [idx_cons]; simp
  obtain ⟨e1, e2, e3⟩ := stepA_env hs ho
  have env2 : ∀ d, (∀ q ∈ idx rest, D q → ∀ o, ops[q]? = some o → o.dst ≠ some d) → eD.env.get d = a'.env.get d := fun d hd => by
    by_cases hdj : o.dst = some d
    · exact C.env1 j hjm hj o d _ ho hdj hent
    · rw [e3 d hdj]
      refine C.env2 d fun q hq hDq oq hoq => ?_
      rw [idx_cons] at hq
      rcases List.mem_cons.1 hq with rfl | hq
      · rw [ho] at hoq; cases hoq; exact hdj
      · exact hd q hq hDq oq hoq
  have hnext : h'.next = h.next := by
    have hs' := hs
    unfold stepA at hs'
    rw [ho] at hs'
    simp only at hs'
    split at hs'
    · obtain ⟨⟨v, h1⟩, hv, hp⟩ := Option.bind_eq_some_iff.1 hs'
      simp only [Option.map_eq_some_iff, Prod.mk.injEq] at hp
      obtain ⟨a1, ha1, rfl, rfl⟩ := hp
      rw [operA_plain (calm_plain he)] at hv
      exact opA_next hv
    · simp only [Option.map_eq_some_iff, Prod.mk.injEq] at hs'
      obtain ⟨a1, ha1, rfl, rfl⟩ := hs'
      rfl
    · cases hs'
  rcases C.g1 j hjm hj _ hent with hh | ⟨ob, hh, hl⟩
  · -- nothing laid
    have hh' : h' = h := hh
    subst hh'
    refine ⟨a', h', G, ⟨hfs, hsp.closed C.prec, hr, C.len, fun k hk => ?_, C.dcl, fun k hk => C.calm k (hmem k hk), by rw [C.frn, e1], by rw [C.frm, e2], fun q hq hDq oq d ent hoq hd hf => C.env1 q (hmem q hq) hDq oq d ent hoq hd (by rw [hfut q hq]; exact hf), env2,
      fun q hq hDq ent hf => C.g1 q (hmem q hq) hDq ent (by rw [hfut q hq]; exact hf), fun b ob hb => ?_⟩, fun _ => rfl, rfl⟩
    · rcases List.mem_cons.1 hk with rfl | hk
      · exact hj
      · exact C.preD k hk
    · obtain ⟨k1, k2, q, hq, hDq, hbq, hnew, ent, hf, hput⟩ := C.g2 b ob hb
      rw [idx_cons] at hq
      rcases List.mem_cons.1 hq with rfl | hq
      · rw [hent] at hf; cases hf
        have h5 := AHeap.get_put_self h' (base + q) ob
        dsimp only at hput
        rw [← hput, ← hbq, k1] at h5
        cases h5
      · exact ⟨k1, k2, q, hq, hDq, hbq, hnew, ent, by rw [← hfut q hq]; exact hf, hput⟩
  · have hh' : h' = h.put (base + j) ob := hh
    refine ⟨a', h', G.filter fun p => !(p.1 == base + j), ⟨hfs, hsp.closed C.prec, hr, C.len, fun k hk => ?_, C.dcl, fun k hk => C.calm k (hmem k hk), by rw [C.frn, e1], by rw [C.frm, e2], fun q hq hDq oq d ent hoq hd hf => C.env1 q (hmem q hq) hDq oq d ent hoq hd (by rw [hfut q hq]; exact hf), env2,
      fun q hq hDq ent hf => ?_, fun b ob' hb => ?_⟩, fun b => ?_, hnext⟩
    · rcases List.mem_cons.1 hk with rfl | hk
      · exact hj
      · exact C.preD k hk
    · rcases C.g1 q (hmem q hq) hDq ent (by rw [hfut q hq]; exact hf) with h0 | ⟨ob2, h0, h1⟩
      · exact .inl h0
      · exact .inr ⟨ob2, h0, by rw [look_filter, if_neg (by have := hne q hq; omega)]; exact h1⟩
    · rw [look_filter] at hb
      split at hb
      · cases hb
      · rename_i hbj
        obtain ⟨k1, k2, q, hq, hDq, hbq, hnew, ent, hf, hput⟩ := C.g2 b ob' hb
        rw [idx_cons] at hq
        rcases List.mem_cons.1 hq with rfl | hq
        · exact (hbj hbq).elim
        · exact ⟨by rw [hh', AHeap.get_put_ne _ _ hbj]; exact k1, k2, q, hq, hDq, hbq, hnew, ent, by rw [← hfut q hq]; exact hf, hput⟩
    · rw [over_get, over_get, look_filter, hh']
      by_cases hbj : b = base + j
      · subst hbj; rw [if_pos rfl, hl, AHeap.get_put_self]
      · rw [if_neg hbj]
        cases look G b with
        | none => simp only; rw [AHeap.get_put_ne _ _ hbj]
        | some x => rfl

/-- An operation that only computes is done ahead. -/
theorem Cur.early (F : PlanFacts ops pl) {sn : List AHeap} (hsn : snaps = h :: sn) (C : Cur P S base ops r pre es rest snaps a h D eD G) {i : Nat} (hi : i ∈ idx rest) (hD : ¬ D i) {o : Oper} (ho : ops[i]? = some o) (he : isEff o.op = false)
    (hm : ∀ e ∈ o.after, Region.binds .any e = true → D e.on) (hfree : h.get (base + i) = none) :
    ∃ eD' hX G', stepA P S base ops i eD h = some (eD', hX) ∧ Cur P S base ops r pre es rest snaps a h (fun k => k = i ∨ D k) eD' G' ∧ (∀ b, (over G hX).get b = (over G' h).get b) ∧ NoneIn G hX ∧ hX.next = h.next := by
  obtain ⟨ent, o', pre', es', news, new, h1, h2, h3, h4, h5, h6, h7, h8, h9⟩ := fut_some C.fine C.run hi
  rw [ho] at h2; cases h2
  have met : ∀ {k}, Reach ops i k → D k := fun hre => hre.met C.dcl fun o' ho' e he hb => by rw [ho] at ho'; cases ho'; exact hm e he hb
  have hin : h ∈ ent.snaps.take ent.m := by
    have hle : es'.length + 1 - ent.m ≤ es.length := by
      refine Nat.le_of_not_lt fun hlt => ?_
      have hpos := h5.pos he
      have hlen : es.length < es'.length := by omega
      have hx : es'[es.length]? = new[0]? := by rw [h6, List.getElem?_append_right (Nat.le_refl _)]; simp
      cases hn : new with
      | nil => rw [h6, hn] at hlen; simp at hlen
      | cons x xs =>
        rw [hn] at hx
        simp only [List.getElem?_cons_zero] at hx
        have hmem : x ∈ es'.take (es'.length + 1 - ent.m) := by
          rw [List.mem_iff_getElem?]
          exact ⟨es.length, by rw [List.getElem?_take, if_pos hlt]; exact hx⟩
        obtain ⟨q1, q2⟩ := h9 x (by rw [hn]; simp)
        have hxD := met (h5.calm he x hmem)
        have hxl : ∃ ox, ops[x]? = some ox := by
          obtain ⟨_, ox, _, _, _, _, _, hox, _⟩ := fut_some C.fine C.run q1
          exact ⟨ox, hox⟩
        obtain ⟨ox, hox⟩ := hxl
        have := C.calm x q1 hxD ox hox
        rw [q2 ox hox] at this
        cases this
    rw [h7, hsn]
    have hlen' : es'.length = es.length + new.length := by rw [h6]; simp
    rw [List.take_append]
    refine List.mem_append_right _ ?_
    have : ent.m - news.length = (ent.m - news.length - 1) + 1 := by omega
    rw [this, List.take_succ_cons]
    simp
  have hag := C.agree F hi hD ho hm h1
  have hnn : ent.a.n = a.n ∧ ent.a.marks = a.marks := by
    have key : ∀ {rest : List (Nat × Nat)} {snaps : List AHeap} {a : AAct} {h : AHeap} {ent : Ent}, futA P S base ops i rest snaps a h = some ent → ent.a.n = a.n ∧ ent.a.marks = a.marks := by
      intro rest
      induction rest with
      | nil => intro snaps a h ent hf; cases hf
      | cons p rest ih =>
        obtain ⟨j, m⟩ := p
        intro snaps a h ent hf
        simp only [futA] at hf
        split at hf
        · cases hf
        rename_i oj hoj
        split at hf
        · cases hf
        rename_i a1 h1 hs1
        split at hf
        · cases hf; exact ⟨rfl, rfl⟩
        · obtain ⟨k1, k2⟩ := ih hf
          obtain ⟨k3, k4, _⟩ := stepA_env hs1 hoj
          exact ⟨k1.trans k3, k2.trans k4⟩
    exact key h1
  obtain ⟨v, eD', hX, s1, s2, s3, s4⟩ := calm_at he ho h3 (h4 he) hin hfree hag (by rw [C.frn, hnn.1])
  obtain ⟨p1, p2, p3, p4⟩ := put_env s2
  obtain ⟨_, _, p7, p8⟩ := put_env s3
  have hDcl : Closed ops (fun k => k = i ∨ D k) := fun k ok hk hok e he' hb => by
    rcases hk with rfl | hk
    · rw [ho] at hok; cases hok; exact .inr (hm e he' hb)
    · exact .inr (C.dcl k ok hk hok e he' hb)
  have calm' : ∀ j ∈ idx rest, (j = i ∨ D j) → ∀ oj, ops[j]? = some oj → isEff oj.op = false := fun j hj hDj oj hoj => by
    rcases hDj with rfl | hDj
    · rw [ho] at hoj; cases hoj; exact he
    · exact C.calm j hj hDj oj hoj
  have env1' : ∀ q ∈ idx rest, (q = i ∨ D q) → ∀ oq d entq, ops[q]? = some oq → oq.dst = some d → futA P S base ops q rest snaps a h = some entq → eD'.env.get d = entq.a'.env.get d := fun q hq hDq oq d entq hoq hd hf => by
    by_cases hqi : q = i
    · subst hqi
      rw [h1] at hf; cases hf
      rw [ho] at hoq; cases hoq
      rw [p3 d hd, p7 d hd]
    · rw [p4 d (F.uniq i q o oq d (fun e => hqi e.symm) ho hoq hd)]
      exact C.env1 q hq (hDq.resolve_left hqi) oq d entq hoq hd hf
  have env2' : ∀ d, (∀ q ∈ idx rest, (q = i ∨ D q) → ∀ oq, ops[q]? = some oq → oq.dst ≠ some d) → eD'.env.get d = a.env.get d := fun d hd => by
    rw [p4 d (hd i hi (.inl rfl) o ho)]
    exact C.env2 d fun q hq hDq => hd q hq (.inr hDq)
  have hlook : look G (base + i) = none := by
    cases hl : look G (base + i) with
    | none => rfl
    | some ob =>
      obtain ⟨_, _, q, hq, hDq, hbq, _⟩ := C.g2 _ _ hl
      have : q = i := by omega
      subst this
      exact (hD hDq).elim
  rcases s4 with ⟨e1, e2⟩ | ⟨ob, hob, hnew, e1, e2⟩
  · subst e2
    refine ⟨eD', hX, G, s1, ⟨C.fine, C.prec, C.run, C.len, fun j hj => .inr (C.preD j hj), hDcl, calm', p1.trans C.frn, p2.trans C.frm, env1', env2', fun q hq hDq entq hf => ?_, fun b ob hb => ?_⟩, fun _ => rfl, fun b ob hb => ⟨(C.g2 b ob hb).1, (C.g2 b ob hb).2.1⟩, rfl⟩
    · by_cases hqi : q = i
      · subst hqi; rw [h1] at hf; cases hf; exact .inl e1
      · exact C.g1 q hq (hDq.resolve_left hqi) entq hf
    · obtain ⟨k1, k2, q, hq, hDq, k3⟩ := C.g2 b ob hb
      exact ⟨k1, k2, q, hq, .inr hDq, k3⟩
  · refine ⟨eD', hX, (base + i, ob) :: G, s1, ⟨C.fine, C.prec, C.run, C.len, fun j hj => .inr (C.preD j hj), hDcl, calm', p1.trans C.frn, p2.trans C.frm, env1', env2', fun q hq hDq entq hf => ?_, fun b ob' hb => ?_⟩, fun b => ?_, fun b ob' hb => ?_, by rw [e2]; rfl⟩
    · by_cases hqi : q = i
      · subst hqi; rw [h1] at hf; cases hf; exact .inr ⟨ob, e1, by rw [look_cons, if_pos rfl]⟩
      · rcases C.g1 q hq (hDq.resolve_left hqi) entq hf with k | ⟨ob2, k, k'⟩
        · exact .inl k
        · exact .inr ⟨ob2, k, by rw [look_cons, if_neg (by show ¬ base + q = base + i; omega)]; exact k'⟩
    · rw [look_cons] at hb
      split at hb
      · rename_i hbi
        cases hb
        exact ⟨by rw [hbi]; exact hfree, hob, i, hi, .inl rfl, hbi, fun oi hoi => (by rw [ho] at hoi; cases hoi; exact hnew), ent, h1, e1⟩
      · obtain ⟨k1, k2, q, hq, hDq, k3⟩ := C.g2 b ob' hb
        exact ⟨k1, k2, q, hq, .inr hDq, k3⟩
    · rw [over_get, over_get, look_cons, e2]
      by_cases hbi : b = base + i
      · subst hbi; rw [hlook, if_pos rfl]; exact AHeap.get_put_self _ _ _
      · rw [if_neg hbi]
        cases look G b with
        | none => simp only; rw [AHeap.get_put_ne _ _ hbi]
        | some x => rfl
    · obtain ⟨k1, k2, _⟩ := C.g2 b ob' hb
      refine ⟨?_, k2⟩
      rw [e2, AHeap.get_put_ne _ _ (fun e => by rw [e, hlook] at hb; cases hb)]
      exact k1

/-- An effect is done when it is the evaluator's next step too. -/
theorem Cur.effect (F : PlanFacts ops pl) {k m : Nat} (C : Cur P S base ops r pre es ((k, m) :: rest) snaps a h D eD G) (hD : ¬ D k) {o : Oper} (ho : ops[k]? = some o) (he : isEff o.op = true)
    (hm : ∀ e ∈ o.after, Region.binds .any e = true → D e.on) :
    ∃ eD' a' h', stepA P S base ops k eD h = some (eD', h') ∧ Cur P S base ops r (k :: pre) (es ++ [k]) rest (h' :: snaps) a' h' (fun j => j = k ∨ D j) eD' G ∧ NoneIn G h' := by
  obtain ⟨o', a', h', ho', hs, hr, hlate, _⟩ := planA_cons C.run
  rw [ho] at ho'; cases ho'
  cases C.fine with
  | @cons _ _ _ _ o2 _ hsp hfs =>
  have ho2 := hsp.op
  rw [ho] at ho2; cases ho2
  rw [if_pos he] at hfs hr
  have hne : ∀ q ∈ idx rest, k ≠ q := fun q hq e => hfs.notin q hq (by rw [e]; simp)
  have hfut : ∀ q ∈ idx rest, futA P S base ops q ((k, m) :: rest) snaps a h = futA P S base ops q rest (h' :: snaps) a' h' := fun q hq => by
    rw [futA_there (hne q hq) ho hs, if_pos he]
  have hent := futA_here (m := m) (rest := rest) (snaps := snaps) ho hs
  have hmem : ∀ q ∈ idx rest, q ∈ idx ((k, m) :: rest) := fun q hq => by rw [idx_cons]; exact List.mem_cons_of_mem _ hq
  have hag := C.agree F (by rw [idx_cons]; simp) hD ho hm hent
  obtain ⟨v, eD', s1, s2, s3⟩ := stepA_congr ho hs hag C.frn
  obtain ⟨p1, p2, p3, p4⟩ := put_env s2
  obtain ⟨p5, p6, p7, p8⟩ := put_env s3
  have hg : NoneIn G h' := fun b ob hb => by
    obtain ⟨_, k2, q, hq, hDq, hbq, hnew, _⟩ := C.g2 b ob hb
    refine ⟨?_, k2⟩
    have hqr : q ∈ idx rest := by
      rw [idx_cons] at hq
      rcases List.mem_cons.1 hq with rfl | hq
      · exact (hD hDq).elim
      · exact hq
    obtain ⟨⟨q2, mq⟩, hp, rfl⟩ := List.mem_map.1 hqr
    have := List.all_eq_true.1 (hlate he) _ hp
    obtain ⟨_, oq, _, _, _, _, _, hoq, _⟩ := fut_some C.fine C.run hq
    have hcalm := C.calm _ hq hDq oq hoq
    have hgd : ops.getD q2 default = oq := by
      have hlt : q2 < ops.size := (Array.getElem?_eq_some_iff.1 hoq).1
      have := (Array.getElem?_eq_some_iff.1 hoq).2
      simp [Array.getD, hlt, this]
    simp only [hgd, hcalm, hnew oq hoq, Bool.not_true, Bool.or_false, Bool.false_or] at this
    rw [hbq]
    simpa using this
  refine ⟨eD', a', h', s1, ⟨hfs, hsp.closed C.prec, hr, by simp [C.len], fun j hj => ?_, fun j oj hj hoj e he' hb => ?_, fun j hj hDj => ?_, by rw [p1, p5, C.frn], by rw [p2, p6, C.frm], fun q hq hDq oq d entq hoq hd hf => ?_, fun d hd => ?_, fun q hq hDq entq hf => ?_, fun b ob hb => ?_⟩, hg⟩
  · rcases List.mem_cons.1 hj with rfl | hj
    · exact .inl rfl
    · exact .inr (C.preD j hj)
  · rcases hj with rfl | hj
    · rw [ho] at hoj; cases hoj; exact .inr (hm e he' hb)
    · exact .inr (C.dcl j oj hj hoj e he' hb)
  · exact C.calm j (hmem j hj) (hDj.resolve_left fun e => hne j hj e.symm)
  · rw [p4 d (F.uniq k q o oq d (hne q hq) ho hoq hd)]
    exact C.env1 q (hmem q hq) (hDq.resolve_left fun e => hne q hq e.symm) oq d entq hoq hd (by rw [hfut q hq]; exact hf)
  · by_cases hdk : o.dst = some d
    · rw [p3 d hdk, p7 d hdk]
    · rw [p4 d hdk, p8 d hdk]
      refine C.env2 d fun q hq hDq oq hoq => ?_
      rw [idx_cons] at hq
      rcases List.mem_cons.1 hq with rfl | hq
      · exact (hD hDq).elim
      · exact hd q hq (.inr hDq) oq hoq
  · exact C.g1 q (hmem q hq) (hDq.resolve_left fun e => hne q hq e.symm) entq (by rw [hfut q hq]; exact hf)
  · obtain ⟨_, k2, q, hq, hDq, hbq, hnew, ent, hf, hput⟩ := C.g2 b ob hb
    rw [idx_cons] at hq
    rcases List.mem_cons.1 hq with rfl | hq
    · exact (hD hDq).elim
    · exact ⟨(hg b ob hb).1, k2, q, hq, .inr hDq, hbq, hnew, ent, by rw [← hfut q hq]; exact hf, hput⟩

end
end Go.Ev

/- Regions whose order is drawn: whatever the order, the model does what the evaluator answers. -/
namespace Go.Ev

section
variable {P : Program} {S : Self} {μ μ' : Mu} {h h' : AHeap} {w w' : World}

theorem Rel.sub {h1 : AHeap} (hs : ∀ b o, h1.get b = some o → h.get b = some o) (R : Rel P μ h w) : Rel P μ h1 w :=
  ⟨fun b o hb => R.obj b o (hs b o hb), fun b c o o' i j hb hc => R.inj b c o o' i j (hs b o hb) (hs c o' hc), R.glob⟩

theorem Ste.congr {h1 : AHeap} (hs : ∀ b, h1.get b = h'.get b) (s : Ste μ h w μ' h' w') : Ste μ h w μ' h1 w' :=
  ⟨s.le, s.size, s.tape, s.os, s.output, s.kept, fun b o i hb => s.own b o i (by rw [← hs b]; exact hb)⟩

theorem over_sub {G : List (Nat × AObj)} (hg : NoneIn G h) : ∀ b o, h.get b = some o → (over G h).get b = some o := fun b o hb => by
  rw [over_get]
  cases hl : look G b with
  | none => exact hb
  | some ob => rw [(hg b ob hl).1] at hb; cases hb

/-- A step that knows nothing of the blocks that have been laid ahead leaves them. -/
theorem Rel.join {G : List (Nat × AObj)} {id : Nat} (R : Rel P μ (over G h) w) (hg : NoneIn G h) (_hg' : NoneIn G h') (f : FinAt P id μ h w μ' h' w') :
    Rel P μ' (over G h') w' ∧ Ste μ (over G h) w μ' (over G h') w' := by
  have inG : ∀ b ob, look G b = some ob → (over G h).get b = some ob := fun b ob hl => by rw [over_get, hl]
  have cases' : ∀ b o, (over G h').get b = some o → (look G b = some o ∧ (over G h).get b = some o) ∨ (look G b = none ∧ h'.get b = some o) := fun b o hb => by
    rw [over_get] at hb
    cases hl : look G b with
    | none => rw [hl] at hb; exact .inr ⟨rfl, hb⟩
    | some ob => rw [hl] at hb; simp only [Option.some.injEq] at hb; subst hb; exact .inl ⟨rfl, inG b ob hl⟩
  have at' : ∀ b o i, (over G h).get b = some o → μ' b = some i → ∃ i0, μ b = some i0 ∧ i0 = i := fun b o i hb hi => by
    obtain ⟨i0, h0, _⟩ := R.obj b o hb
    have := f.ste.le b i0 h0
    rw [hi] at this; cases this
    exact ⟨i, h0, rfl⟩
  have imgG : ∀ b ob i, look G b = some ob → μ' b = some i → μ b = some i ∧ i.blk < w.heap.size := fun b ob i hl hi => by
    obtain ⟨i0, h0, rfl⟩ := at' b ob i (inG b ob hl) hi
    obtain ⟨i1, h1, ho⟩ := R.obj b ob (inG b ob hl)
    rw [h0] at h1; cases h1
    exact ⟨h0, ho.lt (liveO_of_mutO (hg b ob hl).2)⟩
  refine ⟨⟨fun b o hb => ?_, fun b c o o' i j hb hc hm hl hi hj e => ?_, f.rel.glob⟩, ⟨f.ste.le, f.ste.size, f.ste.tape, f.ste.os, f.ste.output, fun k hk hn => f.ste.kept k hk fun b o i hb hm hi => hn b o i (over_sub hg b o hb) hm hi, fun b o i hb hl hi hlt => ?_⟩⟩
  · rcases cases' b o hb with ⟨h1, h2⟩ | ⟨_, h2⟩
    · obtain ⟨i, hi, ho⟩ := R.obj b o h2
      refine ⟨i, f.ste.le _ _ hi, (ho.mono f.ste.le).congr ?_⟩
      have hm := (hg b o h1).2
      refine f.ste.kept i.blk (ho.lt (liveO_of_mutO hm)) fun c oc j hc hmc hj e => ?_
      have := R.inj c b oc o j i (over_sub hg c oc hc) h2 hmc (liveO_of_mutO hm) hj hi e
      subst this
      rw [(hg c o h1).1] at hc; cases hc
    · exact f.rel.obj b o h2
  · rcases cases' b o hb with ⟨h1, h2⟩ | ⟨h1, h2⟩
    · obtain ⟨hi', hlt⟩ := imgG b o i h1 hi
      rcases cases' c o' hc with ⟨h3, h4⟩ | ⟨h3, h4⟩
      · obtain ⟨hj', _⟩ := imgG c o' j h3 hj
        exact R.inj b c o o' i j h2 h4 hm hl hi' hj' e
      · obtain ⟨c0, o0, j0, k1, k2, _, k4, k5⟩ := f.ste.own c o' j h4 hl hj (e ▸ hlt)
        have := R.inj b c0 o o0 i j0 h2 (over_sub hg c0 o0 k1) hm k2 hi' k4 (e.trans k5.symm)
        subst this
        rw [(hg b o h1).1] at k1; cases k1
    · rcases cases' c o' hc with ⟨h3, h4⟩ | ⟨h3, h4⟩
      · obtain ⟨hj', hlt⟩ := imgG c o' j h3 hj
        obtain ⟨b0, o0, i0, k1, k2, k3, k4, k5⟩ := f.ste.own b o i h2 (liveO_of_mutO hm) hi (e ▸ hlt)
        have := R.inj b0 c o0 o' i0 j (over_sub hg b0 o0 k1) h4 (k3 hm) hl k4 hj' (k5.trans e)
        subst this
        rw [(hg b0 o' h3).1] at k1; cases k1
      · exact f.rel.inj b c o o' i j h2 h4 hm hl hi hj e
  · rcases cases' b o hb with ⟨h1, h2⟩ | ⟨h1, h2⟩
    · exact ⟨b, o, i, h2, hl, _root_.id, (imgG b o i h1 hi).1, rfl⟩
    · obtain ⟨c, o', j, k1, k2, k3, k4, k5⟩ := f.ste.own b o i h2 hl hi hlt
      exact ⟨c, o', j, over_sub hg c o' k1, k2, k3, k4, k5⟩

variable {base : Nat} {ops : Array Oper} {pl : List (Nat × Nat)} {r : AAct × AHeap}

/-- Some operation that has not been done may be done. -/
theorem Fine.ready {D : Nat → Prop} [DecidablePred D] {pre es : List Nat} {rest : List (Nat × Nat)} (hf : Fine ops pre es rest) : (∀ j ∈ pre, D j) → (∃ q ∈ idx rest, ¬ D q) →
    ∃ i o, i ∈ idx rest ∧ ¬ D i ∧ ops[i]? = some o ∧ ∀ e ∈ o.after, Region.binds .any e = true → D e.on := by
  induction hf with
  | nil => intro _ ⟨q, hq, _⟩; simp [idx] at hq
  | @cons pre es i m o rest hsp _ ih =>
    intro hp ⟨q, hq, hnq⟩
    by_cases hi : D i
    · obtain ⟨i', o', h1, h2⟩ := ih (fun j hj => by rcases List.mem_cons.1 hj with rfl | hj; exact hi; exact hp j hj) ⟨q, by
        rw [idx_cons] at hq
        rcases List.mem_cons.1 hq with rfl | hq
        · exact (hnq hi).elim
        · exact hq, hnq⟩
      exact ⟨i', o', by rw [idx_cons]; exact List.mem_cons_of_mem _ h1, h2⟩
    · exact ⟨i, o, by rw [idx_cons]; simp, hi, hsp.op, fun e he hb => hp _ (hsp.edges e he hb)⟩

theorem Fine.behind {pre es : List Nat} {rest : List (Nat × Nat)} {i : Nat} {o : Oper} (ho : ops[i]? = some o) (he : isEff o.op = true) (hf : Fine ops pre es rest) : i ∈ idx rest → ∀ j ∈ pre, Reach ops i j := by
  induction hf with
  | nil => intro hi; simp [idx] at hi
  | @cons pre es k m ok rest hsp _ ih =>
    intro hi j hj
    rw [idx_cons] at hi
    rcases List.mem_cons.1 hi with rfl | hi
    · have := hsp.op
      rw [ho] at this; cases this
      exact hsp.eff he j hj
    · exact ih hi j (List.mem_cons_of_mem _ hj)

theorem Cur.finish {D : Nat → Prop} {eD : AAct} : ∀ {rest : List (Nat × Nat)} {pre es : List Nat} {snaps : List AHeap} {a : AAct} {h : AHeap} {G : List (Nat × AObj)}, Cur P S base ops r pre es rest snaps a h D eD G → (∀ j ∈ idx rest, D j) →
    eD.n = r.1.n ∧ eD.marks = r.1.marks ∧ (∀ d, eD.env.get d = r.1.env.get d) ∧ (∀ b, r.2.get b = (over G h).get b) ∧ r.2.next = h.next
  | [], _, _, _, a, h, G, C, _ => by
    have hr := C.run
    simp only [planA, Option.some.injEq] at hr
    subst hr
    refine ⟨C.frn, C.frm, fun d => C.env2 d fun q hq => by simp [idx] at hq, fun b => ?_, rfl⟩
    rw [over_get]
    cases hl : look G b with
    | none => rfl
    | some ob => obtain ⟨_, _, q, hq, _⟩ := C.g2 b ob hl; simp [idx] at hq
  | (j, m) :: rest, _, _, _, a, h, G, C, hall => by
    obtain ⟨a', h', G', C', e1, e2⟩ := C.advance (hall j (by rw [idx_cons]; simp))
    obtain ⟨k1, k2, k3, k4, k5⟩ := C'.finish fun q hq => hall q (by rw [idx_cons]; exact List.mem_cons_of_mem _ hq)
    exact ⟨k1, k2, k3, fun b => (k4 b).trans (e1 b), k5.trans e2⟩

theorem Cur.upto {D : Nat → Prop} {eD : AAct} {i : Nat} {o : Oper} (hD : ¬ D i) (ho : ops[i]? = some o) (he : isEff o.op = true) (hm : ∀ e ∈ o.after, Region.binds .any e = true → D e.on) :
    ∀ {rest : List (Nat × Nat)} {pre es : List Nat} {snaps : List AHeap} {a : AAct} {h : AHeap} {G : List (Nat × AObj)}, Cur P S base ops r pre es rest snaps a h D eD G → i ∈ idx rest → (∀ k, k < ops.size → k ∈ pre ∨ k ∈ idx rest) →
    ∃ pre' m rest' a' h' G', Cur P S base ops r pre' es ((i, m) :: rest') snaps a' h' D eD G' ∧ (∀ b, (over G' h').get b = (over G h).get b) ∧ h'.next = h.next ∧ ∀ k, k < ops.size → k ∈ pre' ∨ k ∈ idx ((i, m) :: rest')
  | [], _, _, _, _, _, _, _, hi, _ => by simp [idx] at hi
  | (j, m) :: rest, pre, es, snaps, a, h, G, C, hi, hall => by
    by_cases e : j = i
    · subst e
      exact ⟨pre, m, rest, a, h, G, C, fun _ => rfl, rfl, hall⟩
    · have hi' : i ∈ idx rest := by rw [idx_cons] at hi; exact (List.mem_cons.1 hi).resolve_left fun h => e h.symm
      have hj : D j := by
        have hf := C.fine
        cases hf with
        | cons _ hfs => exact (hfs.behind ho he hi' j (by simp)).met C.dcl fun o' ho' e' he' hb => by rw [ho] at ho'; cases ho'; exact hm e' he' hb
      obtain ⟨a1, h1, G1, C1, e1, e2⟩ := C.advance hj
      obtain ⟨pre', m', rest', a', h', G', C', e3, e4, e5⟩ := C1.upto hD ho he hm hi' fun k hk => by
        rcases hall k hk with h | h
        · exact .inl (List.mem_cons_of_mem _ h)
        · rw [idx_cons] at h
          rcases List.mem_cons.1 h with rfl | h
          · exact .inl (by simp)
          · exact .inr h
      exact ⟨pre', m', rest', a', h', G', C', fun b => (e3 b).trans (e1 b), e4.trans e2, e5⟩

end
end Go.Ev

/- The law of regions whose order is drawn; the evaluator is sound. -/
namespace Go.Ev

section
variable {P : Program} {S : Self}

def done (listed : Array Bool) (j : Nat) : Prop := listed.getD j false = true
instance (listed : Array Bool) : DecidablePred (done listed) := fun j => inferInstanceAs (Decidable (listed.getD j false = true))

theorem done_set {listed : Array Bool} {i : Nat} (hi : i < listed.size) : done (listed.setIfInBounds i true) = fun k => k = i ∨ done listed k := by
  funext k
  unfold done
  by_cases e : k = i
  · subst e; simp [Array.getD, hi]
  · rw [getD_set_ne false (fun h => e h.symm)]; simp [e]

theorem draw_any {base : Nat} {ops : Array Oper} {pl : List (Nat × Nat)} {r : AAct × AHeap} (PF : PlanFacts ops pl) (hS : SelfOk P S) {rd : Option Nat} {Fe : Fence} {μ0 : Mu} {h0 : AHeap} {w0 : World} {Q : Exit → Act → World → Prop}
    (hQ : ∀ μ' w' act', FinB P base μ0 h0 w0 μ' r.2 w' → ARel μ' r.1 act' → Q .normal act' w') :
    ∀ (fuel : Nat) (listed : Array Bool) (μ : Mu) (w : World) (act : Act) (pre es : List Nat) (rest : List (Nat × Nat)) (snaps sn : List AHeap) (a : AAct) (h : AHeap) (eD : AAct) (G : List (Nat × AObj)),
      Cur P S base ops r pre es rest snaps a h (done listed) eD G → snaps = h :: sn → (∀ k, k < ops.size → k ∈ pre ∨ k ∈ idx rest) → listed.size = ops.size →
      ((List.range ops.size).filter fun j => !listed.getD j false).length ≤ fuel →
      FOk μ rd Fe → FinB P base μ0 h0 w0 μ (over G h) w → NoneIn G h → ARel μ eD act → base + ops.size ≤ h.next → (∀ j, j < ops.size → ¬ done listed j → μ (base + j) = none) →
      wpAnyIn Fe 0 P .any ops Q fuel listed act w := by
  -- the end
  have fin : ∀ (listed : Array Bool) (μ : Mu) (w : World) (act : Act) (pre es : List Nat) (rest : List (Nat × Nat)) (snaps : List AHeap) (a : AAct) (h : AHeap) (eD : AAct) (G : List (Nat × AObj)),
      Cur P S base ops r pre es rest snaps a h (done listed) eD G → (∀ j ∈ idx rest, done listed j) → FinB P base μ0 h0 w0 μ (over G h) w → ARel μ eD act → Q .normal act w := by
    intro listed μ w act pre es rest snaps a h eD G C hall f hA
    obtain ⟨k1, k2, k3, k4, k5⟩ := C.finish hall
    refine hQ μ w act ⟨f.rel.sub fun b o hb => by rw [← k4 b]; exact hb, f.ste.congr k4, fun b hb => f.top b (by rw [over_next]; rw [k5] at hb; exact hb), f.low, by rw [k5]; have := f.nxt; rw [over_next] at this; exact this⟩ ⟨⟨by rw [hA.tmps.size, k1], fun t v hv => hA.tmps.get t v (by rw [k3]; exact hv)⟩, by rw [← k2]; exact hA.defs⟩
  have inl : ∀ {listed : Array Bool} {rest : List (Nat × Nat)} {pre es : List Nat}, Fine ops pre es rest → ∀ q ∈ idx rest, q < ops.size := by
    intro listed rest pre es hf
    induction hf with
    | nil => intro q hq; simp [idx] at hq
    | cons hsp _ ih =>
      intro q hq
      rw [idx_cons] at hq
      rcases List.mem_cons.1 hq with rfl | hq
      · exact (Array.getElem?_eq_some_iff.1 hsp.op).1
      · exact ih q hq
  have atEnd : ∀ (listed : Array Bool) (μ : Mu) (w : World) (act : Act) (pre es : List Nat) (rest : List (Nat × Nat)) (snaps : List AHeap) (a : AAct) (h : AHeap) (eD : AAct) (G : List (Nat × AObj)),
      Cur P S base ops r pre es rest snaps a h (done listed) eD G → listed.size = ops.size → FinB P base μ0 h0 w0 μ (over G h) w → ARel μ eD act → Region.ready .any ops listed = [] → Q .normal act w := by
    intro listed μ w act pre es rest snaps a h eD G C hsz f hA hr
    by_cases hall : ∀ j ∈ idx rest, done listed j
    · exact fin listed μ w act pre es rest snaps a h eD G C hall f hA
    · exfalso
      have hex : ∃ q ∈ idx rest, ¬ done listed q := by
        false_or_by_contra
        rename_i hn
        exact hall fun j hj => by
          false_or_by_contra
          rename_i hnj
          exact hn ⟨j, hj, hnj⟩
      obtain ⟨i, o, h1, h2, h3, h4⟩ := C.fine.ready C.preD hex
      have hil := inl (listed := listed) C.fine i h1
      have : i ∈ Region.ready .any ops listed := mem_ready.2 ⟨by
        unfold done at h2
        simp only [Array.getD, hsz, hil, dite_true] at h2 ⊢
        simpa using h2, o, h3, h4⟩
      rw [hr] at this
      cases this
  intro fuel
  induction fuel with
  | zero =>
    intro listed μ w act pre es rest snaps sn a h eD G C hsn hcov hsz hlen hF f hN hA hb hfree
    have hlisted : ∀ j, j < ops.size → done listed j := fun j hj => by
      have hnil := List.eq_nil_of_length_eq_zero (Nat.le_zero.1 hlen)
      rw [List.filter_eq_nil_iff] at hnil
      have := hnil j (by simpa using hj)
      simpa [done] using this
    have hr : Region.ready .any ops listed = [] := by
      rw [List.eq_nil_iff_forall_not_mem]
      intro i hi
      obtain ⟨h1, o, h2, _⟩ := mem_ready.1 hi
      have hil : i < ops.size := (Array.getElem?_eq_some_iff.1 h2).1
      have := hlisted i hil
      unfold done at this
      simp only [Array.getD, hsz, hil, dite_true] at h1 this
      rw [h1] at this; cases this
    exact ⟨hr, fin listed μ w act pre es rest snaps a h eD G C (fun j hj => hlisted j (inl (listed := listed) C.fine j hj)) f hA⟩
  | succ fuel ih =>
    intro listed μ w act pre es rest snaps sn a h eD G C hsn hcov hsz hlen hF f hN hA hb hfree
    refine ⟨fun hr => atEnd listed μ w act pre es rest snaps a h eD G C hsz f hA hr, fun i hi => ?_⟩
    obtain ⟨h1, o, h2, h3⟩ := mem_ready.1 hi
    have hil : i < ops.size := (Array.getElem?_eq_some_iff.1 h2).1
    have hnd : ¬ done listed i := by
      unfold done
      simp only [Array.getD, hsz, hil, dite_true] at h1 ⊢
      rw [h1]; simp
    have hμi := hfree i hil hnd
    have hset := done_set (listed := listed) (i := i) (by rw [hsz]; exact hil)
    have hir : i ∈ idx rest := by
      rcases hcov i hil with h | h
      · exact (hnd (C.preD i h)).elim
      · exact h
    have hlen' : ((List.range ops.size).filter fun j => !(listed.setIfInBounds i true).getD j false).length ≤ fuel := by
      have e1 : ((List.range ops.size).filter fun j => !(listed.setIfInBounds i true).getD j false) = ((List.range ops.size).filter fun j => !listed.getD j false).filter fun j => !(j == i) := by
        rw [List.filter_filter]
        refine List.filter_congr fun j hj => ?_
        have := congrFun hset j
        unfold done at this
        by_cases hji : j = i
        · subst hji; simp [Array.getD, hsz, hil]
        · rw [getD_set_ne false (fun h => hji h.symm)]; simp [hji]
      have e2 : ((List.range ops.size).filter fun j => !listed.getD j false).length > (((List.range ops.size).filter fun j => !listed.getD j false).filter fun j => !(j == i)).length := by
        refine List.length_filter_lt_length_iff_exists.2 ⟨i, ?_, by simp⟩
        rw [List.mem_filter]
        refine ⟨by simpa using hil, ?_⟩
        unfold done at hnd
        simpa using hnd
      rw [e1]; omega
    -- one step of the model's, by which the evaluator stands there
    have go : ∀ (eD' : AAct) (a1 a2 : AAct) (g hX : AHeap) (pre1 es1 pre2 es2 : List Nat) (rest1 rest2 : List (Nat × Nat)) (snaps2 sn2 : List AHeap) (G1 G2 : List (Nat × AObj)) (h2' : AHeap),
        FinB P base μ0 h0 w0 μ (over G1 g) w → NoneIn G1 g → g.next = h.next → stepA P S base ops i eD g = some (eD', hX) → NoneIn G1 hX → (∀ b, (over G1 hX).get b = (over G2 h2').get b) → hX.next = h2'.next →
        Cur P S base ops r pre2 es2 rest2 snaps2 a2 h2' (fun k => k = i ∨ done listed k) eD' G2 → snaps2 = h2' :: sn2 → (∀ k, k < ops.size → k ∈ pre2 ∨ k ∈ idx rest2) → NoneIn G2 h2' →
        wpOpIn Fe 0 P ops Q i (wpAnyIn Fe 0 P .any ops Q fuel (listed.setIfInBounds i true)) act w := by
      intro eD' a1 a2 g hX pre1 es1 pre2 es2 rest1 rest2 snaps2 sn2 G1 G2 h2' f1 n1 hgn hstep n2 heq hnx C2 hsn2 hcov2 hN2
      have hRg : Rel P μ g w := f1.rel.sub (over_sub n1)
      have hTg : Top μ g := fun b hb => f1.top b (by rw [over_next]; exact hb)
      refine stepA_wpIn hS hF hRg hTg hA hμi (by rw [hgn]; omega) hstep fun μ1 w1 act1 fa r1 => ?_
      obtain ⟨j1, j2⟩ := f1.rel.join n1 n2 fa
      have hn2 := fa.nxt
      refine ih (listed.setIfInBounds i true) μ1 w1 act1 pre2 es2 rest2 snaps2 sn2 a2 h2' eD' G2 (by rw [hset]; exact C2) hsn2 hcov2 (by simpa using hsz) hlen' (hF.mono fa.ste.le)
        ⟨j1.sub fun b o hb => by rw [heq]; exact hb, (f1.ste.trans j2).congr fun b => (heq b).symm, fun b hb => fa.top b (by rw [over_next] at hb; rw [hnx]; exact hb), fun b hb0 h00 => fa.low b (by omega) (by rw [hgn]; omega) (f1.low b hb0 h00), by rw [over_next, ← hnx]; have := f1.nxt; rw [over_next] at this; omega⟩
        hN2 r1 (by rw [← hnx]; omega) fun j hj hnj => ?_
      rw [hset] at hnj
      have hnj1 : j ≠ i := fun e => hnj (.inl e)
      have hnj2 : ¬ done listed j := fun e => hnj (.inr e)
      exact fa.low _ (by omega) (by rw [hgn]; omega) (hfree j hj hnj2)
    by_cases he : isEff o.op = true
    · obtain ⟨pre1, m1, rest1, a1, g, G1, C1, e1, e2, hcov1⟩ := C.upto hnd h2 he h3 hir hcov
      obtain ⟨eD', a2, hX, s1, C2, n2⟩ := C1.effect PF hnd h2 he h3
      have n1 : NoneIn G1 g := fun b ob hl => ⟨(C1.g2 b ob hl).1, (C1.g2 b ob hl).2.1⟩
      refine go eD' a1 a2 g hX pre1 es (i :: pre1) (es ++ [i]) rest1 rest1 _ _ G1 G1 hX ⟨f.rel.sub fun b o hb => by rw [← e1 b]; exact hb, f.ste.congr e1, fun b hb => f.top b (by rw [over_next] at hb ⊢; rw [← e2]; exact hb), f.low, by have := f.nxt; rw [over_next] at this ⊢; omega⟩ n1 e2 s1 n2 (fun _ => rfl) rfl C2 rfl (fun k hk => ?_) n2
      rcases hcov1 k hk with h | h
      · exact .inl (List.mem_cons_of_mem _ h)
      · rw [idx_cons] at h
        rcases List.mem_cons.1 h with rfl | h
        · exact .inl (by simp)
        · exact .inr h
    · simp only [Bool.not_eq_true] at he
      have hRh : Rel P μ h w := f.rel.sub (over_sub hN)
      have hfr : h.get (base + i) = none := by
        cases hg : h.get (base + i) with
        | none => rfl
        | some x => obtain ⟨j, hj, _⟩ := hRh.obj _ _ hg; rw [hμi] at hj; cases hj
      obtain ⟨eD', hX, G', s1, C2, e1, n2, e2⟩ := C.early PF hsn hir hnd h2 he h3 hfr
      exact go eD' a a h hX pre es pre es rest rest snaps sn G G' h f hN rfl s1 n2 e1 e2 C2 hsn hcov (fun b ob hl => ⟨(C2.g2 b ob hl).1, (C2.g2 b ob hl).2.1⟩)

theorem drawLaw (P : Program) : DrawLaw P := by
  intro S hS rd F μ h h' w a a' act ops id Q hF hR hT hA hv hQ
  unfold regionA at hv
  simp only [if_true] at hv
  split at hv
  case h_2 => cases hv
  rename_i pl hpl
  split at hv
  case isFalse => cases hv
  rename_i hm
  have PF := planOf_facts hpl
  refine wpIn_region_any hm ?_
  have hT' : Top μ (h.aside ops.size) := fun b hb => hT b (by simp [AHeap.aside] at hb; omega)
  have hno : ∀ j, ¬ done (Array.replicate ops.size false) j := fun j => by
    unfold done
    rw [Array.getD_eq_getD_getElem?]
    by_cases hj : j < ops.size
    · simp [hj]
    · simp [hj]
  have hlook : ∀ b, look ([] : List (Nat × AObj)) b = none := fun b => rfl
  refine draw_any (base := h.next) (r := (a', h')) PF hS (rd := rd) (μ0 := μ) (h0 := h.aside ops.size) (w0 := w) (fun μ' w' act' f r => hQ μ' w' act' (f.fin rfl) r) ops.size _ μ _ act [] [] pl [h.aside ops.size] [] a (h.aside ops.size) a []
    ⟨PF.fine, fun i o hi => by simp at hi, hv, rfl, fun j hj => by simp at hj, fun i o hi => (hno i hi).elim, fun j _ hj => (hno j hj).elim, rfl, rfl, fun q _ hq => (hno q hq).elim, fun d _ => rfl, fun q _ hq => (hno q hq).elim, fun b ob hl => by rw [hlook] at hl; cases hl⟩
    rfl (fun k hk => .inr (PF.all k hk)) (by simp) (Nat.le_trans (List.length_filter_le _ _) (by simp)) hF ?_ (fun b ob hl => by rw [hlook] at hl; cases hl) hA (by simp [AHeap.aside]) (fun j hj _ => hT _ (by omega))
  exact ⟨(hR.next _).drew _, (Ste.drew _ _ _ _), hT', fun _ _ h => h, Nat.le_refl _⟩

/-- **The evaluator is sound.** -/
theorem ev_sound (P : Program) (k : Nat) : SelfOk P (ev P k) := ev_ok (drawLaw P) k

end
#print axioms ev_sound
end Go.Ev
