/- The relation between the evaluator's heap and the model's world, and how steps keep it. -/
import Derived.Test.YtfickkmgbecamaaDoorEvC
namespace Go.Ev

def mutO : AObj → Bool
  | .cells _ _ ro _ => !ro
  | .map .. | .loop _ | .marks => true
  | .dead => false

def liveO : AObj → Bool
  | .dead => false
  | _ => true

theorem liveO_of_mutO {o : AObj} (h : mutO o = true) : liveO o = true := by cases o <;> simp_all [mutO, liveO]

structure EntRel (μ : Mu) (e e' : MapEntry) : Prop where
  key : e'.key = e.key
  qv : qv e.key = true
  val : VRel μ e.val e'.val
  born : e'.born = e.born

inductive EntsRel (μ : Mu) : List MapEntry → List MapEntry → Prop where
  | nil : EntsRel μ [] []
  | cons {e e' : MapEntry} {es es' : List MapEntry} (h : EntRel μ e e') (hs : EntsRel μ es es') : EntsRel μ (e :: es) (e' :: es')

theorem EntRel.mono {μ μ' : Mu} (hμ : μ.le μ') {e e' : MapEntry} (h : EntRel μ e e') : EntRel μ' e e' := ⟨h.key, h.qv, h.val.mono hμ, h.born⟩
theorem EntsRel.mono {μ μ' : Mu} (hμ : μ.le μ') : ∀ {a b : List MapEntry}, EntsRel μ a b → EntsRel μ' a b
  | _, _, .nil => .nil
  | _, _, .cons h hs => .cons (h.mono hμ) (EntsRel.mono hμ hs)

structure TmpsRel (μ : Mu) (e : Tr Value) (n : Nat) (tmps : Array Value) : Prop where
  size : tmps.size = n
  get : ∀ t v, e.get t = some v → ∃ v', tmps[t]? = some v' ∧ VRel μ v v'

theorem TmpsRel.mono {μ μ' : Mu} (hμ : μ.le μ') {e : Tr Value} {n : Nat} {tmps : Array Value} (h : TmpsRel μ e n tmps) : TmpsRel μ' e n tmps :=
  ⟨h.size, fun t v hv => let ⟨v', a, b⟩ := h.get t v hv; ⟨v', a, b.mono hμ⟩⟩

/-- What an object of the evaluator's is in the model's heap. -/
def ORel (P : Program) (μ : Mu) (o : AObj) (i : Img) (w : World) : Prop :=
  match o with
  | .cells c e ro g => ∃ C fz, w.heap[i.blk]? = some (.cells C e fz) ∧ (ro = false → fz = (0, 0)) ∧ i.d + i.lim = C.size ∧ c.length ≤ i.lim ∧
      (∀ k v, c[k]? = some v → ∃ v', C[i.d + k]? = some v' ∧ VRel μ v v') ∧ (g = false → i.exact = true) ∧ (ro = false ∨ g = true → (P.info? e).map (·.size) = some i.sz)
  | .map es clock => ∃ E, w.heap[i.blk]? = some (.map E clock) ∧ EntsRel μ es E.toList
  | .loop l => ∃ L, w.heap[i.blk]? = some (.loop L) ∧ L.state = l.state ∧ L.pending = l.pending ∧ L.params = l.params ∧ L.assign = l.assign ∧ L.body = l.body ∧
      TmpsRel μ l.env l.n L.tmps ∧ ∃ j, μ l.defers = some j ∧ L.defers = j.blk
  | .marks => w.heap[i.blk]? = some (.deferred (some []))
  | .dead => True

theorem ORel.mono {P : Program} {μ μ' : Mu} (hμ : μ.le μ') {o : AObj} {i : Img} {w : World} (h : ORel P μ o i w) : ORel P μ' o i w := by
  cases o with
  | cells c e ro g =>
    obtain ⟨C, fz, h1, h2, h3, h4, h5, h6, h7⟩ := h
    exact ⟨C, fz, h1, h2, h3, h4, fun k v hv => let ⟨v', a, b⟩ := h5 k v hv; ⟨v', a, b.mono hμ⟩, h6, h7⟩
  | map es clock => obtain ⟨E, h1, h2⟩ := h; exact ⟨E, h1, h2.mono hμ⟩
  | loop l =>
    obtain ⟨L, h1, h2, h3, h4, h5, h6, h7, j, h8, h9⟩ := h
    exact ⟨L, h1, h2, h3, h4, h5, h6, h7.mono hμ, j, hμ _ _ h8, h9⟩
  | marks => exact h
  | dead => trivial

theorem ORel.congr {P : Program} {μ : Mu} {o : AObj} {i : Img} {w w' : World} (h : ORel P μ o i w) (e : w'.heap[i.blk]? = w.heap[i.blk]?) : ORel P μ o i w' := by
  cases o with
  | cells c t ro g => obtain ⟨C, fz, h1, h2⟩ := h; exact ⟨C, fz, e.trans h1, h2⟩
  | map es clock => obtain ⟨E, h1, h2⟩ := h; exact ⟨E, e.trans h1, h2⟩
  | loop l => obtain ⟨L, h1, h2⟩ := h; exact ⟨L, e.trans h1, h2⟩
  | marks => exact Eq.trans e h
  | dead => trivial

theorem ORel.lt {P : Program} {μ : Mu} {o : AObj} {i : Img} {w : World} (h : ORel P μ o i w) (hl : liveO o = true) : i.blk < w.heap.size := by
  have key : ∀ {x : Obj}, w.heap[i.blk]? = some x → i.blk < w.heap.size := fun hx => (Array.getElem?_eq_some_iff.1 hx).1
  cases o with
  | cells c t ro g => obtain ⟨C, fz, h1, _⟩ := h; exact key h1
  | map es clock => obtain ⟨E, h1, _⟩ := h; exact key h1
  | loop l => obtain ⟨L, h1, _⟩ := h; exact key h1
  | marks => exact key h
  | dead => simp [liveO] at hl

structure Rel (P : Program) (μ : Mu) (h : AHeap) (w : World) : Prop where
  obj : ∀ b o, h.get b = some o → ∃ i, μ b = some i ∧ ORel P μ o i w
  inj : ∀ b c o o' i j, h.get b = some o → h.get c = some o' → mutO o = true → liveO o' = true → μ b = some i → μ c = some j → i.blk = j.blk → b = c
  glob : ∀ g, g < P.globals.size → ∃ i, μ g = some i ∧ i.blk = g ∧ i.d = 0

/-- What a step of the evaluator's, and the model's beside it, have turned. -/
structure Ste (μ : Mu) (h : AHeap) (w : World) (μ' : Mu) (h' : AHeap) (w' : World) : Prop where
  le : μ.le μ'
  size : w.heap.size ≤ w'.heap.size
  tape : w'.tape = w.tape
  os : w'.os = w.os
  output : w'.output = w.output
  kept : ∀ k, k < w.heap.size → (∀ b o i, h.get b = some o → mutO o = true → μ b = some i → i.blk ≠ k) → w'.heap[k]? = w.heap[k]?
  own : ∀ b o i, h'.get b = some o → liveO o = true → μ' b = some i → i.blk < w.heap.size → ∃ c o' j, h.get c = some o' ∧ liveO o' = true ∧ (mutO o = true → mutO o' = true) ∧ μ c = some j ∧ j.blk = i.blk

theorem Ste.refl (μ : Mu) (h : AHeap) (w : World) : Ste μ h w μ h w :=
  ⟨Mu.le_refl _, Nat.le_refl _, rfl, rfl, rfl, fun _ _ _ => rfl, fun b o i hb hm hi _ => ⟨b, o, i, hb, hm, id, hi, rfl⟩⟩

theorem Ste.trans {μ μ' μ'' : Mu} {h h' h'' : AHeap} {w w' w'' : World} (a : Ste μ h w μ' h' w') (b : Ste μ' h' w' μ'' h'' w'') : Ste μ h w μ'' h'' w'' where
  le := Mu.le_trans a.le b.le
  size := Nat.le_trans a.size b.size
  tape := b.tape.trans a.tape
  os := b.os.trans a.os
  output := b.output.trans a.output
  kept k hk hn := by
    refine (b.kept k (Nat.lt_of_lt_of_le hk a.size) fun x o i hx hm hi e => ?_).trans (a.kept k hk hn)
    obtain ⟨c, o', j, hc, _, hm', hj, hjb⟩ := a.own x o i hx (liveO_of_mutO hm) hi (e ▸ hk)
    exact hn c o' j hc (hm' hm) hj (hjb.trans e)
  own x o i hx hm hi hlt := by
    obtain ⟨c, o', j, hc, hm', hmm, hj, hjb⟩ := b.own x o i hx hm hi (Nat.lt_of_lt_of_le hlt a.size)
    obtain ⟨d, o'', k, hd, hm'', hmm', hk, hkb⟩ := a.own c o' j hc hm' hj (hjb ▸ hlt)
    exact ⟨d, o'', k, hd, hm'', fun h => hmm' (hmm h), hk, hkb.trans hjb⟩

/-- Another count of draws is no other world to the relation. -/
theorem Rel.drew {P : Program} {μ : Mu} {h : AHeap} {w : World} (r : Rel P μ h w) (n : Nat) : Rel P μ h { w with drawn := n } :=
  ⟨fun b o hb => let ⟨i, hi, ho⟩ := r.obj b o hb; ⟨i, hi, ho.congr rfl⟩, r.inj, r.glob⟩
theorem Ste.drew (μ : Mu) (h : AHeap) (w : World) (n : Nat) : Ste μ h w μ h { w with drawn := n } :=
  ⟨Mu.le_refl _, Nat.le_refl _, rfl, rfl, rfl, fun _ _ _ => rfl, fun b o i hb hm hi _ => ⟨b, o, i, hb, hm, id, hi, rfl⟩⟩

/-- The number of the next block is nothing to the relation. -/
theorem Rel.next {P : Program} {μ : Mu} {h : AHeap} {w : World} (r : Rel P μ h w) (n : Nat) : Rel P μ { h with next := n } w := ⟨r.obj, r.inj, r.glob⟩
theorem Ste.next (μ : Mu) (h : AHeap) (w : World) (n : Nat) : Ste μ h w μ { h with next := n } w :=
  ⟨Mu.le_refl _, Nat.le_refl _, rfl, rfl, rfl, fun _ _ _ => rfl, fun b o i hb hm hi _ => ⟨b, o, i, hb, hm, id, hi, rfl⟩⟩

/-- (R1) An object of the call's own is turned. -/
theorem Rel.update {P : Program} {μ : Mu} {h : AHeap} {w w' : World} (r : Rel P μ h w) {b : Nat} {o o' : AObj} {i : Img}
    (hb : h.get b = some o) (hm : mutO o = true) (hi : μ b = some i) (ho' : ORel P μ o' i w')
    (hs : w'.heap.size = w.heap.size) (ht : w'.tape = w.tape) (hos : w'.os = w.os) (hout : w'.output = w.output)
    (hk : ∀ k, k ≠ i.blk → w'.heap[k]? = w.heap[k]?) : Rel P μ (h.put b o') w' ∧ Ste μ h w μ (h.put b o') w' := by
  have oth : ∀ c oc, c ≠ b → h.get c = some oc → ∃ j, μ c = some j ∧ ORel P μ oc j w' := fun c oc hc hg => by
    obtain ⟨j, hj, ho⟩ := r.obj c oc hg
    refine ⟨j, hj, ?_⟩
    by_cases hl : liveO oc = true
    · refine ho.congr (hk _ fun e => hc ?_)
      exact (r.inj b c o oc i j hb hg hm hl hi hj e.symm).symm
    · cases oc <;> simp [liveO] at hl; trivial
  refine ⟨⟨fun c oc hg => ?_, fun c d oc od j k hc hd hmc hld hj hk' e => ?_, r.glob⟩, ⟨Mu.le_refl _, Nat.le_of_eq hs.symm, ht, hos, hout, fun k _ hn => hk k fun e => hn b o i hb hm hi e.symm, fun c oc j hc hmc hj _ => ?_⟩⟩
  · rw [AHeap.get_put] at hg
    split at hg
    · rename_i e; subst e; cases hg; exact ⟨i, hi, ho'⟩
    · rename_i e; exact oth c oc e hg
  · rw [AHeap.get_put] at hc hd
    have key : ∀ x ox, (if x = b then some o' else h.get x) = some ox → liveO ox = true → ∃ oy, h.get x = some oy ∧ liveO oy = true ∧ (mutO ox = true → mutO oy = true) := fun x ox hx hl => by
      split at hx
      · rename_i e; subst e; exact ⟨o, hb, liveO_of_mutO hm, fun _ => hm⟩
      · exact ⟨ox, hx, hl, id⟩
    obtain ⟨oc', h1, _, h3⟩ := key c oc hc (liveO_of_mutO hmc)
    obtain ⟨od', h4, h5, _⟩ := key d od hd hld
    exact r.inj c d oc' od' j k h1 h4 (h3 hmc) h5 hj hk' e
  · rw [AHeap.get_put] at hc
    split at hc
    · rename_i e; subst e; exact ⟨c, o, j, hb, liveO_of_mutO hm, fun _ => hm, hj, rfl⟩
    · exact ⟨c, oc, j, hc, hmc, id, hj, rfl⟩

/-- μ, and where the new block lies. -/
def Mu.add (μ : Mu) (b : Nat) (i : Img) : Mu := fun c => if c = b then some i else μ c
theorem Mu.add_self (μ : Mu) (b : Nat) (i : Img) : μ.add b i b = some i := by simp [Mu.add]
/-- Nothing but id has been placed. -/
def Fr (μ μ' : Mu) (id : Nat) : Prop := ∀ b, b ≠ id → μ b = none → μ' b = none
theorem Fr.refl (μ : Mu) (id : Nat) : Fr μ μ id := fun _ _ h => h
theorem Fr.add (μ : Mu) (id : Nat) (i : Img) : Fr μ (μ.add id i) id := fun b hb h => by unfold Mu.add; rw [if_neg hb]; exact h
theorem Mu.le_add {μ : Mu} {b : Nat} (i : Img) (h : μ b = none) : μ.le (μ.add b i) := fun c j hc => by
  unfold Mu.add
  split
  · rename_i e; subst e; rw [h] at hc; cases hc
  · exact hc

/-- (R2) A new object, in a block that is new too. -/
theorem Rel.grow {P : Program} {μ : Mu} {h h' : AHeap} {w w' : World} (r : Rel P μ h w) {b : Nat} (hμ : μ b = none) {o : AObj} {i : Img} (hn : h.new b o = some h')
    (hbl : w.heap.size ≤ i.blk) (ho : ORel P (μ.add b i) o i w')
    (hs : w.heap.size ≤ w'.heap.size) (ht : w'.tape = w.tape) (hos : w'.os = w.os) (hout : w'.output = w.output)
    (hk : ∀ k, k < w.heap.size → w'.heap[k]? = w.heap[k]?) : Rel P (μ.add b i) h' w' ∧ Ste μ h w (μ.add b i) h' w' := by
  unfold AHeap.new at hn
  split at hn
  · rename_i hbn
    obtain rfl := Option.some.inj hn
    have hle := Mu.le_add i hμ
    have old : ∀ c oc, c ≠ b → h.get c = some oc → ∃ j, μ c = some j ∧ μ.add b i c = some j ∧ ORel P μ oc j w ∧ (liveO oc = true → j.blk < w.heap.size) := fun c oc hc hg => by
      obtain ⟨j, hj, hoj⟩ := r.obj c oc hg
      exact ⟨j, hj, hle _ _ hj, hoj, fun hl => hoj.lt hl⟩
    refine ⟨⟨fun c oc hg => ?_, fun c d oc od j k hc hd hmc hld hj hk' e => ?_, fun g hg => ?_⟩, ⟨hle, hs, ht, hos, hout, fun k hk' _ => hk k hk', fun c oc j hc hmc hj hlt => ?_⟩⟩
    · rw [AHeap.get_put] at hg
      split at hg
      · rename_i e; subst e; cases hg; exact ⟨i, Mu.add_self _ _ _, ho⟩
      · rename_i e
        obtain ⟨j, hj, hj', hoj, hlt⟩ := old c oc e hg
        refine ⟨j, hj', ?_⟩
        by_cases hl : liveO oc = true
        · exact (hoj.mono hle).congr (hk _ (hlt hl))
        · cases oc <;> simp [liveO] at hl; trivial
    · rw [AHeap.get_put] at hc hd
      by_cases ec : c = b
      · by_cases ed : d = b
        · rw [ec, ed]
        · rw [if_neg ed] at hd
          obtain ⟨k2, _, hk2, _, hlt⟩ := old d od ed hd
          rw [hk2] at hk'; cases hk'
          subst ec
          rw [Mu.add_self] at hj; cases hj
          have := hlt hld
          omega
      · rw [if_neg ec] at hc
        obtain ⟨j2, hj1, hj2, _, hltc⟩ := old c oc ec hc
        rw [hj2] at hj; cases hj
        by_cases ed : d = b
        · subst ed
          rw [Mu.add_self] at hk'; cases hk'
          have := hltc (liveO_of_mutO hmc)
          omega
        · rw [if_neg ed] at hd
          obtain ⟨k2, hk1, hk2, _, _⟩ := old d od ed hd
          rw [hk2] at hk'; cases hk'
          exact r.inj c d oc od j k hc hd hmc hld hj1 hk1 e
    · obtain ⟨j, h1, h2⟩ := r.glob g hg
      exact ⟨j, hle _ _ h1, h2⟩
    · rw [AHeap.get_put] at hc
      by_cases ec : c = b
      · subst ec; rw [Mu.add_self] at hj; cases hj; omega
      · rw [if_neg ec] at hc
        obtain ⟨j2, hj1, hj2, _, _⟩ := old c oc ec hc
        rw [hj2] at hj; cases hj
        exact ⟨c, oc, j, hc, hmc, id, hj1, rfl⟩
  · cases hn

/-- (R3) A row moves: its old number is dead, the new one lies in the same block. -/
theorem Rel.move {P : Program} {μ : Mu} {h h' : AHeap} {w w' : World} (r : Rel P μ h w) {b id : Nat} (hμ : μ id = none) {o o' : AObj} {i i' : Img}
    (hb : h.get b = some o) (hm : mutO o = true) (hi : μ b = some i) (hn : (h.put b .dead).new id o' = some h') (hbl : i'.blk = i.blk)
    (ho : ORel P (μ.add id i') o' i' w')
    (hs : w'.heap.size = w.heap.size) (ht : w'.tape = w.tape) (hos : w'.os = w.os) (hout : w'.output = w.output)
    (hk : ∀ k, k ≠ i.blk → w'.heap[k]? = w.heap[k]?) : Rel P (μ.add id i') h' w' ∧ Ste μ h w (μ.add id i') h' w' := by
  unfold AHeap.new at hn
  split at hn
  · rename_i hbn
    obtain rfl := Option.some.inj hn
    rw [AHeap.get_put] at hbn
    have hne : id ≠ b := fun e => by rw [if_pos e] at hbn; cases hbn
    rw [if_neg hne] at hbn
    have hle := Mu.le_add i' hμ
    have hgp : ∀ c, ((h.put b .dead).put id o').get c = if c = id then some o' else if c = b then some .dead else h.get c := fun c => by
      rw [AHeap.get_put, AHeap.get_put]
    have old : ∀ c oc, c ≠ b → h.get c = some oc → ∃ j, μ c = some j ∧ μ.add id i' c = some j ∧ ORel P μ oc j w' ∧ (liveO oc = true → j.blk ≠ i.blk) := fun c oc hc hg => by
      obtain ⟨j, hj, hoj⟩ := r.obj c oc hg
      have hd : liveO oc = true → j.blk ≠ i.blk := fun hl e => hc (r.inj b c o oc i j hb hg hm hl hi hj e.symm).symm
      refine ⟨j, hj, hle _ _ hj, ?_, hd⟩
      by_cases hl : liveO oc = true
      · exact hoj.congr (hk _ (hd hl))
      · cases oc <;> simp [liveO] at hl; trivial
    refine ⟨⟨fun c oc hg => ?_, fun c d oc od j k hc hd hmc hld hj hk' e => ?_, fun g hg => ?_⟩, ⟨hle, Nat.le_of_eq hs.symm, ht, hos, hout, fun k _ hn => hk k fun e => hn b o i hb hm hi e.symm, fun c oc j hc hmc hj hlt => ?_⟩⟩
    · rw [hgp] at hg
      by_cases e1 : c = id
      · subst e1; rw [if_pos rfl] at hg; cases hg; exact ⟨i', Mu.add_self _ _ _, ho⟩
      · rw [if_neg e1] at hg
        by_cases e2 : c = b
        · subst e2; rw [if_pos rfl] at hg; cases hg; exact ⟨i, hle _ _ hi, trivial⟩
        · rw [if_neg e2] at hg
          obtain ⟨j, _, hj', hoj, _⟩ := old c oc e2 hg
          exact ⟨j, hj', hoj.mono hle⟩
    · rw [hgp] at hc hd
      have cases' : ∀ x ox, (if x = id then some o' else if x = b then some .dead else h.get x) = some ox → liveO ox = true → x = id ∨ (x ≠ id ∧ x ≠ b ∧ h.get x = some ox) := fun x ox hx hl => by
        by_cases e1 : x = id
        · exact .inl e1
        · rw [if_neg e1] at hx
          by_cases e2 : x = b
          · rw [if_pos e2] at hx; cases hx; simp [liveO] at hl
          · rw [if_neg e2] at hx; exact .inr ⟨e1, e2, hx⟩
      rcases cases' c oc hc (liveO_of_mutO hmc) with e1 | ⟨c1, c2, c3⟩
      · rcases cases' d od hd hld with e2 | ⟨d1, d2, d3⟩
        · rw [e1, e2]
        · obtain ⟨k2, _, hk2, _, hne2⟩ := old d od d2 d3
          rw [hk2] at hk'; cases hk'
          subst e1; rw [Mu.add_self] at hj; cases hj
          exact (hne2 hld (e.symm.trans hbl)).elim
      · obtain ⟨j2, hj1, hj2, _, hne1⟩ := old c oc c2 c3
        rw [hj2] at hj; cases hj
        rcases cases' d od hd hld with e2 | ⟨d1, d2, d3⟩
        · subst e2; rw [Mu.add_self] at hk'; cases hk'
          exact (hne1 (liveO_of_mutO hmc) (e.trans hbl)).elim
        · obtain ⟨k2, hk1, hk2, _, _⟩ := old d od d2 d3
          rw [hk2] at hk'; cases hk'
          exact r.inj c d oc od j k c3 d3 hmc hld hj1 hk1 e
    · obtain ⟨j, h1, h2⟩ := r.glob g hg
      exact ⟨j, hle _ _ h1, h2⟩
    · rw [hgp] at hc
      by_cases e1 : c = id
      · subst e1; rw [Mu.add_self] at hj; cases hj; exact ⟨b, o, i, hb, liveO_of_mutO hm, fun _ => hm, hi, hbl.symm⟩
      · rw [if_neg e1] at hc
        by_cases e2 : c = b
        · rw [if_pos e2] at hc; cases hc; simp [liveO] at hmc
        · rw [if_neg e2] at hc
          obtain ⟨j2, hj1, hj2, _, _⟩ := old c oc e2 hc
          rw [hj2] at hj; cases hj
          exact ⟨c, oc, j, hc, hmc, _root_.id, hj1, rfl⟩
  · cases hn

end Go.Ev
