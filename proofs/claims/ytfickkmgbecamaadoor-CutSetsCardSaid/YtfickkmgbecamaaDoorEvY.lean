/- A region whose order is drawn: where the run in whatever order stands, seen from a place in the evaluator's own order. -/
import Derived.Test.YtfickkmgbecamaaDoorEvX
namespace Go.Ev

section
variable {P : Program} {S : Self} {base : Nat} {ops : Array Oper}

/-- The evaluator's own order has been gone up to some place (a, h), by its own run; the run in some other order has done D, and has eD; the blocks G have been laid ahead. -/
structure Cur (P : Program) (S : Self) (base : Nat) (ops : Array Oper) (r : AAct × AHeap) (pre es : List Nat) (rest : List (Nat × Nat)) (snaps : List AHeap) (a : AAct) (h : AHeap) (D : Nat → Prop) (eD : AAct) (G : List (Nat × AObj)) : Prop where
  fine : Fine ops pre es rest
  prec : Closed ops (· ∈ pre)
  run : planA P S base ops rest snaps a h = some r
  len : snaps.length = es.length + 1
  preD : ∀ j ∈ pre, D j
  dcl : Closed ops D
  calm : ∀ j ∈ idx rest, D j → ∀ o, ops[j]? = some o → isEff o.op = false
  frn : eD.n = a.n
  frm : eD.marks = a.marks
  env1 : ∀ q ∈ idx rest, D q → ∀ o d ent, ops[q]? = some o → o.dst = some d → futA P S base ops q rest snaps a h = some ent → eD.env.get d = ent.a'.env.get d
  env2 : ∀ d, (∀ q ∈ idx rest, D q → ∀ o, ops[q]? = some o → o.dst ≠ some d) → eD.env.get d = a.env.get d
  g1 : ∀ q ∈ idx rest, D q → ∀ ent, futA P S base ops q rest snaps a h = some ent → ent.h' = ent.h ∨ ∃ ob, ent.h' = ent.h.put (base + q) ob ∧ look G (base + q) = some ob
  g2 : ∀ b ob, look G b = some ob → h.get b = none ∧ mutO ob = true ∧ ∃ q ∈ idx rest, D q ∧ b = base + q ∧ (∀ o, ops[q]? = some o → isNew o.op = true) ∧ ∃ ent, futA P S base ops q rest snaps a h = some ent ∧ ent.h' = ent.h.put (base + q) ob

def NoneIn (G : List (Nat × AObj)) (h : AHeap) : Prop := ∀ b ob, look G b = some ob → h.get b = none ∧ mutO ob = true

variable {pl : List (Nat × Nat)} {r : AAct × AHeap} {pre es : List Nat} {rest : List (Nat × Nat)} {snaps : List AHeap} {a : AAct} {h : AHeap} {D : Nat → Prop} {eD : AAct} {G : List (Nat × AObj)}

/-- Where an operation that may be done now looks, both runs have the same. -/
theorem Cur.agree (F : PlanFacts ops pl) (C : Cur P S base ops r pre es rest snaps a h D eD G) {i : Nat} (hi : i ∈ idx rest) (hD : ¬ D i) {o : Oper} (ho : ops[i]? = some o)
    (hm : ∀ e ∈ o.after, Region.binds .any e = true → D e.on) {ent : Ent} (hf : futA P S base ops i rest snaps a h = some ent) : ∀ t ∈ readsT ops o, eD.env.get t = ent.a.env.get t := fun t ht => by
  have met : ∀ {k}, Reach ops i k → D k := fun hre => hre.met C.dcl fun o' ho' e he hb => by rw [ho] at ho'; cases ho'; exact hm e he hb
  rcases fut_env C.fine C.prec C.run hi hf t with ⟨q, oq, entq, h1, h2, h3, h4, h5, h6, h7⟩ | ⟨h1, h2⟩
  · rw [h7]
    rcases F.slots i q o oq t (fun e => h2 e.symm) ho h4 h5 ht with hre | hre
    · exact C.env1 q h1 (met hre) oq t entq h4 h5 h6
    · exact (h3 hre).elim
  · rw [h1]
    refine C.env2 t fun q hq hDq oq hoq hdq => ?_
    have hqi : q ≠ i := fun e => hD (e ▸ hDq)
    rcases h2 q oq hq hoq hdq with e | hnr
    · exact hqi e
    · rcases F.slots i q o oq t (fun e => hqi e.symm) ho hoq hdq ht with hre | hre
      · exact hnr hre
      · exact hD (hre.closed C.dcl hDq)

theorem idx_cons (j m : Nat) (rest : List (Nat × Nat)) : idx ((j, m) :: rest) = j :: idx rest := rfl

/-- The evaluator's own run goes past what the other one has done already. -/
theorem Cur.advance {j m : Nat} (C : Cur P S base ops r pre es ((j, m) :: rest) snaps a h D eD G) (hj : D j) :
    ∃ a' h' G', Cur P S base ops r (j :: pre) es rest snaps a' h' D eD G' ∧ (∀ b, (over G' h').get b = (over G h).get b) ∧ h'.next = h.next := by
  obtain ⟨o, a', h', ho, hs, hr, _, hck⟩ := planA_cons C.run
  cases C.fine with
  | @cons _ _ _ _ o2 _ hsp hfs =>
  have ho2 := hsp.op
  rw [ho] at ho2; cases ho2
  have he := C.calm j (by rw [idx_cons]; simp) hj o ho
  rw [he] at hfs hr
  simp only [Bool.false_eq_true, if_false] at hfs hr
  have hne : ∀ q ∈ idx rest, j ≠ q := fun q hq e => hfs.notin q hq (by rw [e]; simp)
  have hfut : ∀ q ∈ idx rest, futA P S base ops q ((j, m) :: rest) snaps a h = futA P S base ops q rest snaps a' h' := fun q hq => by
    rw [futA_there (hne q hq) ho hs, he]; simp
  have hent := futA_here (m := m) (rest := rest) (snaps := snaps) ho hs
  have hmem : ∀ q ∈ idx rest, q ∈ idx ((j, m) :: rest) := fun q hq => by rw [idx_cons]; exact List.mem_cons_of_mem _ hq
  have hjm : j ∈ idx ((j, m) :: rest) := by rw [idx_cons]; simp
  obtain ⟨e1, e2, e3⟩ := stepA_env hs ho
  have env2 : ∀ d, (∀ q ∈ idx rest, D q → ∀ o, ops[q]? = some o → o.dst ≠ some d) → eD.env.get d = a'.env.get d := fun d hd => by
    by_cases hdj : o.dst = some d
    · exact C.env1 j hjm hj o d _ ho hdj hent
    · rw [e3 d hdj]
      refine C.env2 d fun q hq hDq oq hoq => ?_
      rw [idx_cons] at hq
      rcases List.mem_cons.1 hq with rfl | hq
      · rw [ho] at hoq; cases hoq; exact hdj
      · exact hd q hq hDq oq hoq
  have hnext : h'.next = h.next := by
    have hs' := hs
    unfold stepA at hs'
    rw [ho] at hs'
    simp only at hs'
    split at hs'
    · obtain ⟨⟨v, h1⟩, hv, hp⟩ := Option.bind_eq_some_iff.1 hs'
      simp only [Option.map_eq_some_iff, Prod.mk.injEq] at hp
      obtain ⟨a1, ha1, rfl, rfl⟩ := hp
      rw [operA_plain (calm_plain he)] at hv
      exact opA_next hv
    · simp only [Option.map_eq_some_iff, Prod.mk.injEq] at hs'
      obtain ⟨a1, ha1, rfl, rfl⟩ := hs'
      rfl
    · cases hs'
  rcases C.g1 j hjm hj _ hent with hh | ⟨ob, hh, hl⟩
  · -- nothing laid
    have hh' : h' = h := hh
    subst hh'
    refine ⟨a', h', G, ⟨hfs, hsp.closed C.prec, hr, C.len, fun k hk => ?_, C.dcl, fun k hk => C.calm k (hmem k hk), by rw [C.frn, e1], by rw [C.frm, e2], fun q hq hDq oq d ent hoq hd hf => C.env1 q (hmem q hq) hDq oq d ent hoq hd (by rw [hfut q hq]; exact hf), env2,
      fun q hq hDq ent hf => C.g1 q (hmem q hq) hDq ent (by rw [hfut q hq]; exact hf), fun b ob hb => ?_⟩, fun _ => rfl, rfl⟩
    · rcases List.mem_cons.1 hk with rfl | hk
      · exact hj
      · exact C.preD k hk
    · obtain ⟨k1, k2, q, hq, hDq, hbq, hnew, ent, hf, hput⟩ := C.g2 b ob hb
      rw [idx_cons] at hq
      rcases List.mem_cons.1 hq with rfl | hq
      · rw [hent] at hf; cases hf
        have h5 := AHeap.get_put_self h' (base + q) ob
        dsimp only at hput
        rw [← hput, ← hbq, k1] at h5
        cases h5
      · exact ⟨k1, k2, q, hq, hDq, hbq, hnew, ent, by rw [← hfut q hq]; exact hf, hput⟩
  · have hh' : h' = h.put (base + j) ob := hh
    refine ⟨a', h', G.filter fun p => !(p.1 == base + j), ⟨hfs, hsp.closed C.prec, hr, C.len, fun k hk => ?_, C.dcl, fun k hk => C.calm k (hmem k hk), by rw [C.frn, e1], by rw [C.frm, e2], fun q hq hDq oq d ent hoq hd hf => C.env1 q (hmem q hq) hDq oq d ent hoq hd (by rw [hfut q hq]; exact hf), env2,
      fun q hq hDq ent hf => ?_, fun b ob' hb => ?_⟩, fun b => ?_, hnext⟩
    · rcases List.mem_cons.1 hk with rfl | hk
      · exact hj
      · exact C.preD k hk
    · rcases C.g1 q (hmem q hq) hDq ent (by rw [hfut q hq]; exact hf) with h0 | ⟨ob2, h0, h1⟩
      · exact .inl h0
      · exact .inr ⟨ob2, h0, by rw [look_filter, if_neg (by have := hne q hq; omega)]; exact h1⟩
    · rw [look_filter] at hb
      split at hb
      · cases hb
      · rename_i hbj
        obtain ⟨k1, k2, q, hq, hDq, hbq, hnew, ent, hf, hput⟩ := C.g2 b ob' hb
        rw [idx_cons] at hq
        rcases List.mem_cons.1 hq with rfl | hq
        · exact (hbj hbq).elim
        · exact ⟨by rw [hh', AHeap.get_put_ne _ _ hbj]; exact k1, k2, q, hq, hDq, hbq, hnew, ent, by rw [← hfut q hq]; exact hf, hput⟩
    · rw [over_get, over_get, look_filter, hh']
      by_cases hbj : b = base + j
      · subst hbj; rw [if_pos rfl, hl, AHeap.get_put_self]
      · rw [if_neg hbj]
        cases look G b with
        | none => simp only; rw [AHeap.get_put_ne _ _ hbj]
        | some x => rfl

/-- An operation that only computes is done ahead. -/
theorem Cur.early (F : PlanFacts ops pl) {sn : List AHeap} (hsn : snaps = h :: sn) (C : Cur P S base ops r pre es rest snaps a h D eD G) {i : Nat} (hi : i ∈ idx rest) (hD : ¬ D i) {o : Oper} (ho : ops[i]? = some o) (he : isEff o.op = false)
    (hm : ∀ e ∈ o.after, Region.binds .any e = true → D e.on) (hfree : h.get (base + i) = none) :
    ∃ eD' hX G', stepA P S base ops i eD h = some (eD', hX) ∧ Cur P S base ops r pre es rest snaps a h (fun k => k = i ∨ D k) eD' G' ∧ (∀ b, (over G hX).get b = (over G' h).get b) ∧ NoneIn G hX ∧ hX.next = h.next := by
  obtain ⟨ent, o', pre', es', news, new, h1, h2, h3, h4, h5, h6, h7, h8, h9⟩ := fut_some C.fine C.run hi
  rw [ho] at h2; cases h2
  have met : ∀ {k}, Reach ops i k → D k := fun hre => hre.met C.dcl fun o' ho' e he hb => by rw [ho] at ho'; cases ho'; exact hm e he hb
  have hin : h ∈ ent.snaps.take ent.m := by
    have hle : es'.length + 1 - ent.m ≤ es.length := by
      refine Nat.le_of_not_lt fun hlt => ?_
      have hpos := h5.pos he
      have hlen : es.length < es'.length := by omega
      have hx : es'[es.length]? = new[0]? := by rw [h6, List.getElem?_append_right (Nat.le_refl _)]; simp
      cases hn : new with
      | nil => rw [h6, hn] at hlen; simp at hlen
      | cons x xs =>
        rw [hn] at hx
        simp only [List.getElem?_cons_zero] at hx
        have hmem : x ∈ es'.take (es'.length + 1 - ent.m) := by
          rw [List.mem_iff_getElem?]
          exact ⟨es.length, by rw [List.getElem?_take, if_pos hlt]; exact hx⟩
        obtain ⟨q1, q2⟩ := h9 x (by rw [hn]; simp)
        have hxD := met (h5.calm he x hmem)
        have hxl : ∃ ox, ops[x]? = some ox := by
          obtain ⟨_, ox, _, _, _, _, _, hox, _⟩ := fut_some C.fine C.run q1
          exact ⟨ox, hox⟩
        obtain ⟨ox, hox⟩ := hxl
        have := C.calm x q1 hxD ox hox
        rw [q2 ox hox] at this
        cases this
    rw [h7, hsn]
    have hlen' : es'.length = es.length + new.length := by rw [h6]; simp
    rw [List.take_append]
    refine List.mem_append_right _ ?_
    have : ent.m - news.length = (ent.m - news.length - 1) + 1 := by omega
    rw [this, List.take_succ_cons]
    simp
  have hag := C.agree F hi hD ho hm h1
  have hnn : ent.a.n = a.n ∧ ent.a.marks = a.marks := by
    have key : ∀ {rest : List (Nat × Nat)} {snaps : List AHeap} {a : AAct} {h : AHeap} {ent : Ent}, futA P S base ops i rest snaps a h = some ent → ent.a.n = a.n ∧ ent.a.marks = a.marks := by
      intro rest
      induction rest with
      | nil => intro snaps a h ent hf; cases hf
      | cons p rest ih =>
        obtain ⟨j, m⟩ := p
        intro snaps a h ent hf
        simp only [futA] at hf
        split at hf
        · cases hf
        rename_i oj hoj
        split at hf
        · cases hf
        rename_i a1 h1 hs1
        split at hf
        · cases hf; exact ⟨rfl, rfl⟩
        · obtain ⟨k1, k2⟩ := ih hf
          obtain ⟨k3, k4, _⟩ := stepA_env hs1 hoj
          exact ⟨k1.trans k3, k2.trans k4⟩
    exact key h1
  obtain ⟨v, eD', hX, s1, s2, s3, s4⟩ := calm_at he ho h3 (h4 he) hin hfree hag (by rw [C.frn, hnn.1])
  obtain ⟨p1, p2, p3, p4⟩ := put_env s2
  obtain ⟨_, _, p7, p8⟩ := put_env s3
  have hDcl : Closed ops (fun k => k = i ∨ D k) := fun k ok hk hok e he' hb => by
    rcases hk with rfl | hk
    · rw [ho] at hok; cases hok; exact .inr (hm e he' hb)
    · exact .inr (C.dcl k ok hk hok e he' hb)
  have calm' : ∀ j ∈ idx rest, (j = i ∨ D j) → ∀ oj, ops[j]? = some oj → isEff oj.op = false := fun j hj hDj oj hoj => by
    rcases hDj with rfl | hDj
    · rw [ho] at hoj; cases hoj; exact he
    · exact C.calm j hj hDj oj hoj
  have env1' : ∀ q ∈ idx rest, (q = i ∨ D q) → ∀ oq d entq, ops[q]? = some oq → oq.dst = some d → futA P S base ops q rest snaps a h = some entq → eD'.env.get d = entq.a'.env.get d := fun q hq hDq oq d entq hoq hd hf => by
    by_cases hqi : q = i
    · subst hqi
      rw [h1] at hf; cases hf
      rw [ho] at hoq; cases hoq
      rw [p3 d hd, p7 d hd]
    · rw [p4 d (F.uniq i q o oq d (fun e => hqi e.symm) ho hoq hd)]
      exact C.env1 q hq (hDq.resolve_left hqi) oq d entq hoq hd hf
  have env2' : ∀ d, (∀ q ∈ idx rest, (q = i ∨ D q) → ∀ oq, ops[q]? = some oq → oq.dst ≠ some d) → eD'.env.get d = a.env.get d := fun d hd => by
    rw [p4 d (hd i hi (.inl rfl) o ho)]
    exact C.env2 d fun q hq hDq => hd q hq (.inr hDq)
  have hlook : look G (base + i) = none := by
    cases hl : look G (base + i) with
    | none => rfl
    | some ob =>
      obtain ⟨_, _, q, hq, hDq, hbq, _⟩ := C.g2 _ _ hl
      have : q = i := by omega
      subst this
      exact (hD hDq).elim
  rcases s4 with ⟨e1, e2⟩ | ⟨ob, hob, hnew, e1, e2⟩
  · subst e2
    refine ⟨eD', hX, G, s1, ⟨C.fine, C.prec, C.run, C.len, fun j hj => .inr (C.preD j hj), hDcl, calm', p1.trans C.frn, p2.trans C.frm, env1', env2', fun q hq hDq entq hf => ?_, fun b ob hb => ?_⟩, fun _ => rfl, fun b ob hb => ⟨(C.g2 b ob hb).1, (C.g2 b ob hb).2.1⟩, rfl⟩
    · by_cases hqi : q = i
      · subst hqi; rw [h1] at hf; cases hf; exact .inl e1
      · exact C.g1 q hq (hDq.resolve_left hqi) entq hf
    · obtain ⟨k1, k2, q, hq, hDq, k3⟩ := C.g2 b ob hb
      exact ⟨k1, k2, q, hq, .inr hDq, k3⟩
  · refine ⟨eD', hX, (base + i, ob) :: G, s1, ⟨C.fine, C.prec, C.run, C.len, fun j hj => .inr (C.preD j hj), hDcl, calm', p1.trans C.frn, p2.trans C.frm, env1', env2', fun q hq hDq entq hf => ?_, fun b ob' hb => ?_⟩, fun b => ?_, fun b ob' hb => ?_, by rw [e2]; rfl⟩
    · by_cases hqi : q = i
      · subst hqi; rw [h1] at hf; cases hf; exact .inr ⟨ob, e1, by rw [look_cons, if_pos rfl]⟩
      · rcases C.g1 q hq (hDq.resolve_left hqi) entq hf with k | ⟨ob2, k, k'⟩
        · exact .inl k
        · exact .inr ⟨ob2, k, by rw [look_cons, if_neg (by show ¬ base + q = base + i; omega)]; exact k'⟩
    · rw [look_cons] at hb
      split at hb
      · rename_i hbi
        cases hb
        exact ⟨by rw [hbi]; exact hfree, hob, i, hi, .inl rfl, hbi, fun oi hoi => (by rw [ho] at hoi; cases hoi; exact hnew), ent, h1, e1⟩
      · obtain ⟨k1, k2, q, hq, hDq, k3⟩ := C.g2 b ob' hb
        exact ⟨k1, k2, q, hq, .inr hDq, k3⟩
    · rw [over_get, over_get, look_cons, e2]
      by_cases hbi : b = base + i
      · subst hbi; rw [hlook, if_pos rfl]; exact AHeap.get_put_self _ _ _
      · rw [if_neg hbi]
        cases look G b with
        | none => simp only; rw [AHeap.get_put_ne _ _ hbi]
        | some x => rfl
    · obtain ⟨k1, k2, _⟩ := C.g2 b ob' hb
      refine ⟨?_, k2⟩
      rw [e2, AHeap.get_put_ne _ _ (fun e => by rw [e, hlook] at hb; cases hb)]
      exact k1

/-- An effect is done when it is the evaluator's next step too. -/
theorem Cur.effect (F : PlanFacts ops pl) {k m : Nat} (C : Cur P S base ops r pre es ((k, m) :: rest) snaps a h D eD G) (hD : ¬ D k) {o : Oper} (ho : ops[k]? = some o) (he : isEff o.op = true)
    (hm : ∀ e ∈ o.after, Region.binds .any e = true → D e.on) :
    ∃ eD' a' h', stepA P S base ops k eD h = some (eD', h') ∧ Cur P S base ops r (k :: pre) (es ++ [k]) rest (h' :: snaps) a' h' (fun j => j = k ∨ D j) eD' G ∧ NoneIn G h' := by
  obtain ⟨o', a', h', ho', hs, hr, hlate, _⟩ := planA_cons C.run
  rw [ho] at ho'; cases ho'
  cases C.fine with
  | @cons _ _ _ _ o2 _ hsp hfs =>
  have ho2 := hsp.op
  rw [ho] at ho2; cases ho2
  rw [if_pos he] at hfs hr
  have hne : ∀ q ∈ idx rest, k ≠ q := fun q hq e => hfs.notin q hq (by rw [e]; simp)
  have hfut : ∀ q ∈ idx rest, futA P S base ops q ((k, m) :: rest) snaps a h = futA P S base ops q rest (h' :: snaps) a' h' := fun q hq => by
    rw [futA_there (hne q hq) ho hs, if_pos he]
  have hent := futA_here (m := m) (rest := rest) (snaps := snaps) ho hs
  have hmem : ∀ q ∈ idx rest, q ∈ idx ((k, m) :: rest) := fun q hq => by rw [idx_cons]; exact List.mem_cons_of_mem _ hq
  have hag := C.agree F (by rw [idx_cons]; simp) hD ho hm hent
  obtain ⟨v, eD', s1, s2, s3⟩ := stepA_congr ho hs hag C.frn
  obtain ⟨p1, p2, p3, p4⟩ := put_env s2
  obtain ⟨p5, p6, p7, p8⟩ := put_env s3
  have hg : NoneIn G h' := fun b ob hb => by
    obtain ⟨_, k2, q, hq, hDq, hbq, hnew, _⟩ := C.g2 b ob hb
    refine ⟨?_, k2⟩
    have hqr : q ∈ idx rest := by
      rw [idx_cons] at hq
      rcases List.mem_cons.1 hq with rfl | hq
      · exact (hD hDq).elim
      · exact hq
    obtain ⟨⟨q2, mq⟩, hp, rfl⟩ := List.mem_map.1 hqr
    have := List.all_eq_true.1 (hlate he) _ hp
    obtain ⟨_, oq, _, _, _, _, _, hoq, _⟩ := fut_some C.fine C.run hq
    have hcalm := C.calm _ hq hDq oq hoq
    have hgd : ops.getD q2 default = oq := by
      have hlt : q2 < ops.size := (Array.getElem?_eq_some_iff.1 hoq).1
      have := (Array.getElem?_eq_some_iff.1 hoq).2
      simp [Array.getD, hlt, this]
    simp only [hgd, hcalm, hnew oq hoq, Bool.not_true, Bool.or_false, Bool.false_or] at this
    rw [hbq]
    simpa using this
  refine ⟨eD', a', h', s1, ⟨hfs, hsp.closed C.prec, hr, by simp [C.len], fun j hj => ?_, fun j oj hj hoj e he' hb => ?_, fun j hj hDj => ?_, by rw [p1, p5, C.frn], by rw [p2, p6, C.frm], fun q hq hDq oq d entq hoq hd hf => ?_, fun d hd => ?_, fun q hq hDq entq hf => ?_, fun b ob hb => ?_⟩, hg⟩
  · rcases List.mem_cons.1 hj with rfl | hj
    · exact .inl rfl
    · exact .inr (C.preD j hj)
  · rcases hj with rfl | hj
    · rw [ho] at hoj; cases hoj; exact .inr (hm e he' hb)
    · exact .inr (C.dcl j oj hj hoj e he' hb)
  · exact C.calm j (hmem j hj) (hDj.resolve_left fun e => hne j hj e.symm)
  · rw [p4 d (F.uniq k q o oq d (hne q hq) ho hoq hd)]
    exact C.env1 q (hmem q hq) (hDq.resolve_left fun e => hne q hq e.symm) oq d entq hoq hd (by rw [hfut q hq]; exact hf)
  · by_cases hdk : o.dst = some d
    · rw [p3 d hdk, p7 d hdk]
    · rw [p4 d hdk, p8 d hdk]
      refine C.env2 d fun q hq hDq oq hoq => ?_
      rw [idx_cons] at hq
      rcases List.mem_cons.1 hq with rfl | hq
      · exact (hD hDq).elim
      · exact hd q hq (.inr hDq) oq hoq
  · exact C.g1 q (hmem q hq) (hDq.resolve_left fun e => hne q hq e.symm) entq (by rw [hfut q hq]; exact hf)
  · obtain ⟨_, k2, q, hq, hDq, hbq, hnew, ent, hf, hput⟩ := C.g2 b ob hb
    rw [idx_cons] at hq
    rcases List.mem_cons.1 hq with rfl | hq
    · exact (hD hDq).elim
    · exact ⟨(hg b ob hb).1, k2, q, hq, .inr hDq, hbq, hnew, ent, by rw [← hfut q hq]; exact hf, hput⟩

end
end Go.Ev
