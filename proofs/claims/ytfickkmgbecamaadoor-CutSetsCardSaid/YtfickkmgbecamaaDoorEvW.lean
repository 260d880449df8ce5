/- The evaluator's run in its own order, seen from some place in it: what each operation behind will yield. -/
import Derived.Test.YtfickkmgbecamaaDoorEvV
namespace Go.Ev

structure Ent where
  m : Nat
  snaps : List AHeap
  a : AAct
  h : AHeap
  a' : AAct
  h' : AHeap

section
variable (P : Program) (S : Self) (base : Nat) (ops : Array Oper)

def futA (i : Nat) : List (Nat × Nat) → List AHeap → AAct → AHeap → Option Ent
  | [], _, _, _ => none
  | (j, m) :: rest, snaps, a, h =>
    match ops[j]? with
    | none => none
    | some o =>
      match stepA P S base ops j a h with
      | none => none
      | some (a', h') => if j = i then some ⟨m, snaps, a, h, a', h'⟩ else futA i rest (if isEff o.op then h' :: snaps else snaps) a' h'
end

section
variable {P : Program} {S : Self} {base : Nat} {ops : Array Oper}

theorem planA_cons {i m : Nat} {rest : List (Nat × Nat)} {snaps : List AHeap} {a : AAct} {h : AHeap} {r : AAct × AHeap} (hr : planA P S base ops ((i, m) :: rest) snaps a h = some r) :
    ∃ o a' h', ops[i]? = some o ∧ stepA P S base ops i a h = some (a', h') ∧ planA P S base ops rest (if isEff o.op then h' :: snaps else snaps) a' h' = some r ∧
      (isEff o.op = true → lateOk base ops rest h' = true) ∧ (isEff o.op = false → calmOk P base ops o i m snaps a a' = true) := by
  simp only [planA] at hr
  split at hr
  · cases hr
  rename_i o ho
  split at hr
  · cases hr
  rename_i a' h' hs
  refine ⟨o, a', h', ho, hs, ?_⟩
  split at hr
  · rename_i he
    split at hr
    · rename_i hl
      exact ⟨by rw [if_pos he]; exact hr, fun _ => hl, fun hf => by rw [he] at hf; cases hf⟩
    · cases hr
  · rename_i he
    simp only [Bool.not_eq_true] at he
    split at hr
    · rename_i hc
      exact ⟨by rw [he]; exact hr, fun hf => (by rw [he] at hf; cases hf), fun _ => hc⟩
    · cases hr

theorem stepA_env {i : Nat} {a a' : AAct} {h h' : AHeap} (hs : stepA P S base ops i a h = some (a', h')) {o : Oper} (ho : ops[i]? = some o) :
    a'.n = a.n ∧ a'.marks = a.marks ∧ ∀ t, o.dst ≠ some t → a'.env.get t = a.env.get t := by
  have hput : ∀ {v : Value} {a1 : AAct}, a.put o.dst v = some a1 → a1.n = a.n ∧ a1.marks = a.marks ∧ ∀ t, o.dst ≠ some t → a1.env.get t = a.env.get t := fun {v a1} hp => by
    unfold AAct.put at hp
    split at hp
    · cases hp; exact ⟨rfl, rfl, fun _ _ => rfl⟩
    · rename_i d hd
      split at hp
      · cases hp
        exact ⟨rfl, rfl, fun t ht => Tr.get_set_ne _ _ fun e => ht (by rw [hd, e])⟩
      · cases hp
  unfold stepA at hs
  rw [ho] at hs
  simp only at hs
  split at hs
  · obtain ⟨⟨v, h1⟩, hv, hp⟩ := Option.bind_eq_some_iff.1 hs
    simp only [Option.map_eq_some_iff, Prod.mk.injEq] at hp
    obtain ⟨a1, ha1, rfl, rfl⟩ := hp
    exact hput ha1
  · simp only [Option.map_eq_some_iff, Prod.mk.injEq] at hs
    obtain ⟨a1, ha1, rfl, rfl⟩ := hs
    exact hput ha1
  · cases hs

theorem futA_here {i m : Nat} {rest : List (Nat × Nat)} {snaps : List AHeap} {a a' : AAct} {h h' : AHeap} {o : Oper} (ho : ops[i]? = some o) (hs : stepA P S base ops i a h = some (a', h')) :
    futA P S base ops i ((i, m) :: rest) snaps a h = some ⟨m, snaps, a, h, a', h'⟩ := by
  simp [futA, ho, hs]

theorem futA_there {i j m : Nat} {rest : List (Nat × Nat)} {snaps : List AHeap} {a a' : AAct} {h h' : AHeap} {o : Oper} (hne : j ≠ i) (ho : ops[j]? = some o) (hs : stepA P S base ops j a h = some (a', h')) :
    futA P S base ops i ((j, m) :: rest) snaps a h = futA P S base ops i rest (if isEff o.op then h' :: snaps else snaps) a' h' := by
  simp [futA, ho, hs, hne]

/-! ### Places in a checked order -/

theorem Fine.notin {pre es : List Nat} {rest : List (Nat × Nat)} (h : Fine ops pre es rest) : ∀ q ∈ idx rest, q ∉ pre := by
  induction h with
  | nil => intro q hq; simp [idx] at hq
  | cons hsp _ ih =>
    intro q hq
    simp only [idx, List.map_cons, List.mem_cons] at hq
    rcases hq with rfl | hq
    · exact hsp.new
    · exact fun hp => ih q hq (by simp [hp])

theorem Spot.closed {pre es : List Nat} {i m : Nat} {o : Oper} (h : Spot ops pre es i m o) (hc : Closed ops (· ∈ pre)) : Closed ops (· ∈ i :: pre) := fun j oj hj hoj e he hb => by
  rcases List.mem_cons.1 hj with rfl | hj
  · rw [h.op] at hoj; cases hoj
    exact List.mem_cons_of_mem _ (h.edges e he hb)
  · exact List.mem_cons_of_mem _ (hc j oj hj hoj e he hb)

theorem Spot.reach {pre es : List Nat} {i m : Nat} {o : Oper} (h : Spot ops pre es i m o) (hc : Closed ops (· ∈ pre)) {k : Nat} (hr : Reach ops i k) : k ∈ pre :=
  hr.met hc fun o' ho' e he hb => by rw [h.op] at ho'; cases ho'; exact h.edges e he hb

/-- What an operation behind will yield, and what it has been looked at in. -/
theorem fut_some {i : Nat} {r : AAct × AHeap} : ∀ {rest : List (Nat × Nat)} {pre es : List Nat} {snaps : List AHeap} {a : AAct} {h : AHeap}, Fine ops pre es rest → planA P S base ops rest snaps a h = some r → i ∈ idx rest →
    ∃ ent o pre' es' news new, futA P S base ops i rest snaps a h = some ent ∧ ops[i]? = some o ∧ stepA P S base ops i ent.a ent.h = some (ent.a', ent.h') ∧ (isEff o.op = false → calmOk P base ops o i ent.m ent.snaps ent.a ent.a' = true) ∧
      Spot ops pre' es' i ent.m o ∧ es' = es ++ new ∧ ent.snaps = news ++ snaps ∧ news.length = new.length ∧ (∀ q ∈ new, q ∈ idx rest ∧ ∀ oq, ops[q]? = some oq → isEff oq.op = true)
  | [], _, _, _, _, _, _, _, hi => by simp [idx] at hi
  | (j, m) :: rest, pre, es, snaps, a, h, .cons (o := o) hsp hfs, hr, hi => by
    obtain ⟨o', a', h', ho', hs, hr', _, hcalm⟩ := planA_cons hr
    have ho := hsp.op
    rw [ho] at ho'; cases ho'
    by_cases e : j = i
    · subst e
      exact ⟨_, o, pre, es, [], [], futA_here ho hs, ho, hs, hcalm, hsp, by simp, by simp, rfl, by simp⟩
    · have hi' : i ∈ idx rest := by simp only [idx, List.map_cons, List.mem_cons] at hi; exact hi.resolve_left fun h => e h.symm
      obtain ⟨ent, oi, pre', es', news, new, h1, h2, h3, h4, h5, h6, h7, h8, h9⟩ := fut_some hfs hr' hi'
      have h9' : ∀ q ∈ new, q ∈ idx ((j, m) :: rest) ∧ ∀ oq, ops[q]? = some oq → isEff oq.op = true := fun q hq => ⟨by simp only [idx, List.map_cons, List.mem_cons]; exact .inr (h9 q hq).1, (h9 q hq).2⟩
      by_cases he : isEff o.op = true
      · rw [if_pos he] at h6 h7
        refine ⟨ent, oi, pre', es', news ++ [h'], j :: new, by rw [futA_there e ho hs]; exact h1, h2, h3, h4, h5, by rw [h6]; simp, by rw [h7]; simp, by simp [h8], fun q hq => ?_⟩
        rcases List.mem_cons.1 hq with rfl | hq
        · exact ⟨by simp [idx], fun oq hoq => by rw [ho] at hoq; cases hoq; exact he⟩
        · exact h9' q hq
      · rw [if_neg he] at h6 h7
        exact ⟨ent, oi, pre', es', news, new, by rw [futA_there e ho hs]; exact h1, h2, h3, h4, h5, h6, h7, h8, h9'⟩

/-- Where the slots of an operation behind get what they have when it is its turn. -/
theorem fut_env {i : Nat} {r : AAct × AHeap} : ∀ {rest : List (Nat × Nat)} {pre es : List Nat} {snaps : List AHeap} {a : AAct} {h : AHeap} {ent : Ent}, Fine ops pre es rest → Closed ops (· ∈ pre) → planA P S base ops rest snaps a h = some r → i ∈ idx rest →
    futA P S base ops i rest snaps a h = some ent → ∀ t,
      (∃ q oq entq, q ∈ idx rest ∧ q ≠ i ∧ ¬ Reach ops q i ∧ ops[q]? = some oq ∧ oq.dst = some t ∧ futA P S base ops q rest snaps a h = some entq ∧ ent.a.env.get t = entq.a'.env.get t) ∨
      (ent.a.env.get t = a.env.get t ∧ ∀ q oq, q ∈ idx rest → ops[q]? = some oq → oq.dst = some t → q = i ∨ ¬ Reach ops i q)
  | [], _, _, _, _, _, _, _, _, _, hi, _ => by simp [idx] at hi
  | (j, m) :: rest, pre, es, snaps, a, h, ent, .cons (o := o) hsp hfs, hc, hr, hi, hf => by
    obtain ⟨o', a', h', ho', hs, hr', _, _⟩ := planA_cons hr
    have ho := hsp.op
    rw [ho] at ho'; cases ho'
    intro t
    by_cases e : j = i
    · subst e
      rw [futA_here ho hs] at hf
      cases hf
      refine .inr ⟨rfl, fun q oq hq _ _ => ?_⟩
      simp only [idx, List.map_cons, List.mem_cons] at hq
      rcases hq with rfl | hq
      · exact .inl rfl
      · exact .inr fun hre => hfs.notin q hq (List.mem_cons_of_mem _ (hsp.reach hc hre))
    · have hi' : i ∈ idx rest := by simp only [idx, List.map_cons, List.mem_cons] at hi; exact hi.resolve_left fun h => e h.symm
      rw [futA_there e ho hs] at hf
      rcases fut_env hfs (hsp.closed hc) hr' hi' hf t with ⟨q, oq, entq, h1, h2, h3, h4, h5, h6, h7⟩ | ⟨h1, h2⟩
      · have hqj : j ≠ q := fun e2 => hfs.notin q h1 (by rw [e2]; simp)
        exact .inl ⟨q, oq, entq, by simp only [idx, List.map_cons, List.mem_cons]; exact .inr h1, h2, h3, h4, h5, by rw [futA_there hqj ho hs]; exact h6, h7⟩
      · by_cases hd : o.dst = some t
        · exact .inl ⟨j, o, _, by simp [idx], e, fun hre => hfs.notin i hi' (List.mem_cons_of_mem _ (hsp.reach hc hre)), ho, hd, futA_here ho hs, h1⟩
        · refine .inr ⟨h1.trans ((stepA_env hs ho).2.2 t hd), fun q oq hq hoq hqd => ?_⟩
          simp only [idx, List.map_cons, List.mem_cons] at hq
          rcases hq with rfl | hq
          · rw [ho] at hoq; cases hoq; exact (hd hqd).elim
          · exact h2 q oq hq hoq hqd

end
end Go.Ev
