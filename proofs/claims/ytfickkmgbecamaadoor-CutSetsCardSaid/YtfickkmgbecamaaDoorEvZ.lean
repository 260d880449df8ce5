/- Regions whose order is drawn: whatever the order, the model does what the evaluator answers. -/
import Derived.Test.YtfickkmgbecamaaDoorEvY
namespace Go.Ev

section
variable {P : Program} {S : Self} {μ μ' : Mu} {h h' : AHeap} {w w' : World}

theorem Rel.sub {h1 : AHeap} (hs : ∀ b o, h1.get b = some o → h.get b = some o) (R : Rel P μ h w) : Rel P μ h1 w :=
  ⟨fun b o hb => R.obj b o (hs b o hb), fun b c o o' i j hb hc => R.inj b c o o' i j (hs b o hb) (hs c o' hc), R.glob⟩

theorem Ste.congr {h1 : AHeap} (hs : ∀ b, h1.get b = h'.get b) (s : Ste μ h w μ' h' w') : Ste μ h w μ' h1 w' :=
  ⟨s.le, s.size, s.tape, s.os, s.output, s.kept, fun b o i hb => s.own b o i (by rw [← hs b]; exact hb)⟩

theorem over_sub {G : List (Nat × AObj)} (hg : NoneIn G h) : ∀ b o, h.get b = some o → (over G h).get b = some o := fun b o hb => by
  rw [over_get]
  cases hl : look G b with
  | none => exact hb
  | some ob => rw [(hg b ob hl).1] at hb; cases hb

/-- A step that knows nothing of the blocks that have been laid ahead leaves them. -/
theorem Rel.join {G : List (Nat × AObj)} {id : Nat} (R : Rel P μ (over G h) w) (hg : NoneIn G h) (_hg' : NoneIn G h') (f : FinAt P id μ h w μ' h' w') :
    Rel P μ' (over G h') w' ∧ Ste μ (over G h) w μ' (over G h') w' := by
  have inG : ∀ b ob, look G b = some ob → (over G h).get b = some ob := fun b ob hl => by rw [over_get, hl]
  have cases' : ∀ b o, (over G h').get b = some o → (look G b = some o ∧ (over G h).get b = some o) ∨ (look G b = none ∧ h'.get b = some o) := fun b o hb => by
    rw [over_get] at hb
    cases hl : look G b with
    | none => rw [hl] at hb; exact .inr ⟨rfl, hb⟩
    | some ob => rw [hl] at hb; simp only [Option.some.injEq] at hb; subst hb; exact .inl ⟨rfl, inG b ob hl⟩
  have at' : ∀ b o i, (over G h).get b = some o → μ' b = some i → ∃ i0, μ b = some i0 ∧ i0 = i := fun b o i hb hi => by
    obtain ⟨i0, h0, _⟩ := R.obj b o hb
    have := f.ste.le b i0 h0
    rw [hi] at this; cases this
    exact ⟨i, h0, rfl⟩
  have imgG : ∀ b ob i, look G b = some ob → μ' b = some i → μ b = some i ∧ i.blk < w.heap.size := fun b ob i hl hi => by
    obtain ⟨i0, h0, rfl⟩ := at' b ob i (inG b ob hl) hi
    obtain ⟨i1, h1, ho⟩ := R.obj b ob (inG b ob hl)
    rw [h0] at h1; cases h1
    exact ⟨h0, ho.lt (liveO_of_mutO (hg b ob hl).2)⟩
  refine ⟨⟨fun b o hb => ?_, fun b c o o' i j hb hc hm hl hi hj e => ?_, f.rel.glob⟩, ⟨f.ste.le, f.ste.size, f.ste.tape, f.ste.os, f.ste.output, fun k hk hn => f.ste.kept k hk fun b o i hb hm hi => hn b o i (over_sub hg b o hb) hm hi, fun b o i hb hl hi hlt => ?_⟩⟩
  · rcases cases' b o hb with ⟨h1, h2⟩ | ⟨_, h2⟩
    · obtain ⟨i, hi, ho⟩ := R.obj b o h2
      refine ⟨i, f.ste.le _ _ hi, (ho.mono f.ste.le).congr ?_⟩
      have hm := (hg b o h1).2
      refine f.ste.kept i.blk (ho.lt (liveO_of_mutO hm)) fun c oc j hc hmc hj e => ?_
      have := R.inj c b oc o j i (over_sub hg c oc hc) h2 hmc (liveO_of_mutO hm) hj hi e
      subst this
      rw [(hg c o h1).1] at hc; cases hc
    · exact f.rel.obj b o h2
  · rcases cases' b o hb with ⟨h1, h2⟩ | ⟨h1, h2⟩
    · obtain ⟨hi', hlt⟩ := imgG b o i h1 hi
      rcases cases' c o' hc with ⟨h3, h4⟩ | ⟨h3, h4⟩
      · obtain ⟨hj', _⟩ := imgG c o' j h3 hj
        exact R.inj b c o o' i j h2 h4 hm hl hi' hj' e
      · obtain ⟨c0, o0, j0, k1, k2, _, k4, k5⟩ := f.ste.own c o' j h4 hl hj (e ▸ hlt)
        have := R.inj b c0 o o0 i j0 h2 (over_sub hg c0 o0 k1) hm k2 hi' k4 (e.trans k5.symm)
        subst this
        rw [(hg b o h1).1] at k1; cases k1
    · rcases cases' c o' hc with ⟨h3, h4⟩ | ⟨h3, h4⟩
      · obtain ⟨hj', hlt⟩ := imgG c o' j h3 hj
        obtain ⟨b0, o0, i0, k1, k2, k3, k4, k5⟩ := f.ste.own b o i h2 (liveO_of_mutO hm) hi (e ▸ hlt)
        have := R.inj b0 c o0 o' i0 j (over_sub hg b0 o0 k1) h4 (k3 hm) hl k4 hj' (k5.trans e)
        subst this
        rw [(hg b0 o' h3).1] at k1; cases k1
      · exact f.rel.inj b c o o' i j h2 h4 hm hl hi hj e
  · rcases cases' b o hb with ⟨h1, h2⟩ | ⟨h1, h2⟩
    · exact ⟨b, o, i, h2, hl, _root_.id, (imgG b o i h1 hi).1, rfl⟩
    · obtain ⟨c, o', j, k1, k2, k3, k4, k5⟩ := f.ste.own b o i h2 hl hi hlt
      exact ⟨c, o', j, over_sub hg c o' k1, k2, k3, k4, k5⟩

variable {base : Nat} {ops : Array Oper} {pl : List (Nat × Nat)} {r : AAct × AHeap}

/-- Some operation that has not been done may be done. -/
theorem Fine.ready {D : Nat → Prop} [DecidablePred D] {pre es : List Nat} {rest : List (Nat × Nat)} (hf : Fine ops pre es rest) : (∀ j ∈ pre, D j) → (∃ q ∈ idx rest, ¬ D q) →
    ∃ i o, i ∈ idx rest ∧ ¬ D i ∧ ops[i]? = some o ∧ ∀ e ∈ o.after, Region.binds .any e = true → D e.on := by
  induction hf with
  | nil => intro _ ⟨q, hq, _⟩; simp [idx] at hq
  | @cons pre es i m o rest hsp _ ih =>
    intro hp ⟨q, hq, hnq⟩
    by_cases hi : D i
    · obtain ⟨i', o', h1, h2⟩ := ih (fun j hj => by rcases List.mem_cons.1 hj with rfl | hj; exact hi; exact hp j hj) ⟨q, by
        rw [idx_cons] at hq
        rcases List.mem_cons.1 hq with rfl | hq
        · exact (hnq hi).elim
        · exact hq, hnq⟩
      exact ⟨i', o', by rw [idx_cons]; exact List.mem_cons_of_mem _ h1, h2⟩
    · exact ⟨i, o, by rw [idx_cons]; simp, hi, hsp.op, fun e he hb => hp _ (hsp.edges e he hb)⟩

theorem Fine.behind {pre es : List Nat} {rest : List (Nat × Nat)} {i : Nat} {o : Oper} (ho : ops[i]? = some o) (he : isEff o.op = true) (hf : Fine ops pre es rest) : i ∈ idx rest → ∀ j ∈ pre, Reach ops i j := by
  induction hf with
  | nil => intro hi; simp [idx] at hi
  | @cons pre es k m ok rest hsp _ ih =>
    intro hi j hj
    rw [idx_cons] at hi
    rcases List.mem_cons.1 hi with rfl | hi
    · have := hsp.op
      rw [ho] at this; cases this
      exact hsp.eff he j hj
    · exact ih hi j (List.mem_cons_of_mem _ hj)

theorem Cur.finish {D : Nat → Prop} {eD : AAct} : ∀ {rest : List (Nat × Nat)} {pre es : List Nat} {snaps : List AHeap} {a : AAct} {h : AHeap} {G : List (Nat × AObj)}, Cur P S base ops r pre es rest snaps a h D eD G → (∀ j ∈ idx rest, D j) →
    eD.n = r.1.n ∧ eD.marks = r.1.marks ∧ (∀ d, eD.env.get d = r.1.env.get d) ∧ (∀ b, r.2.get b = (over G h).get b) ∧ r.2.next = h.next
  | [], _, _, _, a, h, G, C, _ => by
    have hr := C.run
    simp only [planA, Option.some.injEq] at hr
    subst hr
    refine ⟨C.frn, C.frm, fun d => C.env2 d fun q hq => by simp [idx] at hq, fun b => ?_, rfl⟩
    rw [over_get]
    cases hl : look G b with
    | none => rfl
    | some ob => obtain ⟨_, _, q, hq, _⟩ := C.g2 b ob hl; simp [idx] at hq
  | (j, m) :: rest, _, _, _, a, h, G, C, hall => by
    obtain ⟨a', h', G', C', e1, e2⟩ := C.advance (hall j (by rw [idx_cons]; simp))
    obtain ⟨k1, k2, k3, k4, k5⟩ := C'.finish fun q hq => hall q (by rw [idx_cons]; exact List.mem_cons_of_mem _ hq)
    exact ⟨k1, k2, k3, fun b => (k4 b).trans (e1 b), k5.trans e2⟩

theorem Cur.upto {D : Nat → Prop} {eD : AAct} {i : Nat} {o : Oper} (hD : ¬ D i) (ho : ops[i]? = some o) (he : isEff o.op = true) (hm : ∀ e ∈ o.after, Region.binds .any e = true → D e.on) :
    ∀ {rest : List (Nat × Nat)} {pre es : List Nat} {snaps : List AHeap} {a : AAct} {h : AHeap} {G : List (Nat × AObj)}, Cur P S base ops r pre es rest snaps a h D eD G → i ∈ idx rest → (∀ k, k < ops.size → k ∈ pre ∨ k ∈ idx rest) →
    ∃ pre' m rest' a' h' G', Cur P S base ops r pre' es ((i, m) :: rest') snaps a' h' D eD G' ∧ (∀ b, (over G' h').get b = (over G h).get b) ∧ h'.next = h.next ∧ ∀ k, k < ops.size → k ∈ pre' ∨ k ∈ idx ((i, m) :: rest')
  | [], _, _, _, _, _, _, _, hi, _ => by simp [idx] at hi
  | (j, m) :: rest, pre, es, snaps, a, h, G, C, hi, hall => by
    by_cases e : j = i
    · subst e
      exact ⟨pre, m, rest, a, h, G, C, fun _ => rfl, rfl, hall⟩
    · have hi' : i ∈ idx rest := by rw [idx_cons] at hi; exact (List.mem_cons.1 hi).resolve_left fun h => e h.symm
      have hj : D j := by
        have hf := C.fine
        cases hf with
        | cons _ hfs => exact (hfs.behind ho he hi' j (by simp)).met C.dcl fun o' ho' e' he' hb => by rw [ho] at ho'; cases ho'; exact hm e' he' hb
      obtain ⟨a1, h1, G1, C1, e1, e2⟩ := C.advance hj
      obtain ⟨pre', m', rest', a', h', G', C', e3, e4, e5⟩ := C1.upto hD ho he hm hi' fun k hk => by
        rcases hall k hk with h | h
        · exact .inl (List.mem_cons_of_mem _ h)
        · rw [idx_cons] at h
          rcases List.mem_cons.1 h with rfl | h
          · exact .inl (by simp)
          · exact .inr h
      exact ⟨pre', m', rest', a', h', G', C', fun b => (e3 b).trans (e1 b), e4.trans e2, e5⟩

end
end Go.Ev
