/- The law of regions whose order is drawn; the evaluator is sound. -/
import Derived.Test.YtfickkmgbecamaaDoorEvZ
namespace Go.Ev

section
variable {P : Program} {S : Self}

def done (listed : Array Bool) (j : Nat) : Prop := listed.getD j false = true
instance (listed : Array Bool) : DecidablePred (done listed) := fun j => inferInstanceAs (Decidable (listed.getD j false = true))

theorem done_set {listed : Array Bool} {i : Nat} (hi : i < listed.size) : done (listed.setIfInBounds i true) = fun k => k = i ∨ done listed k := by
  funext k
  unfold done
  by_cases e : k = i
  · subst e; simp [Array.getD, hi]
  · rw [getD_set_ne false (fun h => e h.symm)]; simp [e]

theorem draw_any {base : Nat} {ops : Array Oper} {pl : List (Nat × Nat)} {r : AAct × AHeap} (PF : PlanFacts ops pl) (hS : SelfOk P S) {rd : Option Nat} {Fe : Fence} {μ0 : Mu} {h0 : AHeap} {w0 : World} {Q : Exit → Act → World → Prop}
    (hQ : ∀ μ' w' act', FinB P base μ0 h0 w0 μ' r.2 w' → ARel μ' r.1 act' → Q .normal act' w') :
    ∀ (fuel : Nat) (listed : Array Bool) (μ : Mu) (w : World) (act : Act) (pre es : List Nat) (rest : List (Nat × Nat)) (snaps sn : List AHeap) (a : AAct) (h : AHeap) (eD : AAct) (G : List (Nat × AObj)),
      Cur P S base ops r pre es rest snaps a h (done listed) eD G → snaps = h :: sn → (∀ k, k < ops.size → k ∈ pre ∨ k ∈ idx rest) → listed.size = ops.size →
      ((List.range ops.size).filter fun j => !listed.getD j false).length ≤ fuel →
      FOk μ rd Fe → FinB P base μ0 h0 w0 μ (over G h) w → NoneIn G h → ARel μ eD act → base + ops.size ≤ h.next → (∀ j, j < ops.size → ¬ done listed j → μ (base + j) = none) →
      wpAnyIn Fe 0 P .any ops Q fuel listed act w := by
  -- the end
  have fin : ∀ (listed : Array Bool) (μ : Mu) (w : World) (act : Act) (pre es : List Nat) (rest : List (Nat × Nat)) (snaps : List AHeap) (a : AAct) (h : AHeap) (eD : AAct) (G : List (Nat × AObj)),
      Cur P S base ops r pre es rest snaps a h (done listed) eD G → (∀ j ∈ idx rest, done listed j) → FinB P base μ0 h0 w0 μ (over G h) w → ARel μ eD act → Q .normal act w := by
    intro listed μ w act pre es rest snaps a h eD G C hall f hA
    obtain ⟨k1, k2, k3, k4, k5⟩ := C.finish hall
    refine hQ μ w act ⟨f.rel.sub fun b o hb => by rw [← k4 b]; exact hb, f.ste.congr k4, fun b hb => f.top b (by rw [over_next]; rw [k5] at hb; exact hb), f.low, by rw [k5]; have := f.nxt; rw [over_next] at this; exact this⟩ ⟨⟨by rw [hA.tmps.size, k1], fun t v hv => hA.tmps.get t v (by rw [k3]; exact hv)⟩, by rw [← k2]; exact hA.defs⟩
  have inl : ∀ {listed : Array Bool} {rest : List (Nat × Nat)} {pre es : List Nat}, Fine ops pre es rest → ∀ q ∈ idx rest, q < ops.size := by
    intro listed rest pre es hf
    induction hf with
    | nil => intro q hq; simp [idx] at hq
    | cons hsp _ ih =>
      intro q hq
      rw [idx_cons] at hq
      rcases List.mem_cons.1 hq with rfl | hq
      · exact (Array.getElem?_eq_some_iff.1 hsp.op).1
      · exact ih q hq
  have atEnd : ∀ (listed : Array Bool) (μ : Mu) (w : World) (act : Act) (pre es : List Nat) (rest : List (Nat × Nat)) (snaps : List AHeap) (a : AAct) (h : AHeap) (eD : AAct) (G : List (Nat × AObj)),
      Cur P S base ops r pre es rest snaps a h (done listed) eD G → listed.size = ops.size → FinB P base μ0 h0 w0 μ (over G h) w → ARel μ eD act → Region.ready .any ops listed = [] → Q .normal act w := by
    intro listed μ w act pre es rest snaps a h eD G C hsz f hA hr
    by_cases hall : ∀ j ∈ idx rest, done listed j
    · exact fin listed μ w act pre es rest snaps a h eD G C hall f hA
    · exfalso
      have hex : ∃ q ∈ idx rest, ¬ done listed q := by
        false_or_by_contra
        rename_i hn
        exact hall fun j hj => by
          false_or_by_contra
          rename_i hnj
          exact hn ⟨j, hj, hnj⟩
      obtain ⟨i, o, h1, h2, h3, h4⟩ := C.fine.ready C.preD hex
      have hil := inl (listed := listed) C.fine i h1
      have : i ∈ Region.ready .any ops listed := mem_ready.2 ⟨by
        unfold done at h2
        simp only [Array.getD, hsz, hil, dite_true] at h2 ⊢
        simpa using h2, o, h3, h4⟩
      rw [hr] at this
      cases this
  intro fuel
  induction fuel with
  | zero =>
    intro listed μ w act pre es rest snaps sn a h eD G C hsn hcov hsz hlen hF f hN hA hb hfree
    have hlisted : ∀ j, j < ops.size → done listed j := fun j hj => by
      have hnil := List.eq_nil_of_length_eq_zero (Nat.le_zero.1 hlen)
      rw [List.filter_eq_nil_iff] at hnil
      have := hnil j (by simpa using hj)
      simpa [done] using this
    have hr : Region.ready .any ops listed = [] := by
      rw [List.eq_nil_iff_forall_not_mem]
      intro i hi
      obtain ⟨h1, o, h2, _⟩ := mem_ready.1 hi
      have hil : i < ops.size := (Array.getElem?_eq_some_iff.1 h2).1
      have := hlisted i hil
      unfold done at this
      simp only [Array.getD, hsz, hil, dite_true] at h1 this
      rw [h1] at this; cases this
    exact ⟨hr, fin listed μ w act pre es rest snaps a h eD G C (fun j hj => hlisted j (inl (listed := listed) C.fine j hj)) f hA⟩
  | succ fuel ih =>
    intro listed μ w act pre es rest snaps sn a h eD G C hsn hcov hsz hlen hF f hN hA hb hfree
    refine ⟨fun hr => atEnd listed μ w act pre es rest snaps a h eD G C hsz f hA hr, fun i hi => ?_⟩
    obtain ⟨h1, o, h2, h3⟩ := mem_ready.1 hi
    have hil : i < ops.size := (Array.getElem?_eq_some_iff.1 h2).1
    have hnd : ¬ done listed i := by
      unfold done
      simp only [Array.getD, hsz, hil, dite_true] at h1 ⊢
      rw [h1]; simp
    have hμi := hfree i hil hnd
    have hset := done_set (listed := listed) (i := i) (by rw [hsz]; exact hil)
    have hir : i ∈ idx rest := by
      rcases hcov i hil with h | h
      · exact (hnd (C.preD i h)).elim
      · exact h
    have hlen' : ((List.range ops.size).filter fun j => !(listed.setIfInBounds i true).getD j false).length ≤ fuel := by
      have e1 : ((List.range ops.size).filter fun j => !(listed.setIfInBounds i true).getD j false) = ((List.range ops.size).filter fun j => !listed.getD j false).filter fun j => !(j == i) := by
        rw [List.filter_filter]
        refine List.filter_congr fun j hj => ?_
        have := congrFun hset j
        unfold done at this
        by_cases hji : j = i
        · subst hji; simp [Array.getD, hsz, hil]
        · rw [getD_set_ne false (fun h => hji h.symm)]; simp [hji]
      have e2 : ((List.range ops.size).filter fun j => !listed.getD j false).length > (((List.range ops.size).filter fun j => !listed.getD j false).filter fun j => !(j == i)).length := by
        refine List.length_filter_lt_length_iff_exists.2 ⟨i, ?_, by simp⟩
        rw [List.mem_filter]
        refine ⟨by simpa using hil, ?_⟩
        unfold done at hnd
        simpa using hnd
      rw [e1]; omega
    -- one step of the model's, by which the evaluator stands there
    have go : ∀ (eD' : AAct) (a1 a2 : AAct) (g hX : AHeap) (pre1 es1 pre2 es2 : List Nat) (rest1 rest2 : List (Nat × Nat)) (snaps2 sn2 : List AHeap) (G1 G2 : List (Nat × AObj)) (h2' : AHeap),
        FinB P base μ0 h0 w0 μ (over G1 g) w → NoneIn G1 g → g.next = h.next → stepA P S base ops i eD g = some (eD', hX) → NoneIn G1 hX → (∀ b, (over G1 hX).get b = (over G2 h2').get b) → hX.next = h2'.next →
        Cur P S base ops r pre2 es2 rest2 snaps2 a2 h2' (fun k => k = i ∨ done listed k) eD' G2 → snaps2 = h2' :: sn2 → (∀ k, k < ops.size → k ∈ pre2 ∨ k ∈ idx rest2) → NoneIn G2 h2' →
        wpOpIn Fe 0 P ops Q i (wpAnyIn Fe 0 P .any ops Q fuel (listed.setIfInBounds i true)) act w := by
      intro eD' a1 a2 g hX pre1 es1 pre2 es2 rest1 rest2 snaps2 sn2 G1 G2 h2' f1 n1 hgn hstep n2 heq hnx C2 hsn2 hcov2 hN2
      have hRg : Rel P μ g w := f1.rel.sub (over_sub n1)
      have hTg : Top μ g := fun b hb => f1.top b (by rw [over_next]; exact hb)
      refine stepA_wpIn hS hF hRg hTg hA hμi (by rw [hgn]; omega) hstep fun μ1 w1 act1 fa r1 => ?_
      obtain ⟨j1, j2⟩ := f1.rel.join n1 n2 fa
      have hn2 := fa.nxt
      refine ih (listed.setIfInBounds i true) μ1 w1 act1 pre2 es2 rest2 snaps2 sn2 a2 h2' eD' G2 (by rw [hset]; exact C2) hsn2 hcov2 (by simpa using hsz) hlen' (hF.mono fa.ste.le)
        ⟨j1.sub fun b o hb => by rw [heq]; exact hb, (f1.ste.trans j2).congr fun b => (heq b).symm, fun b hb => fa.top b (by rw [over_next] at hb; rw [hnx]; exact hb), fun b hb0 h00 => fa.low b (by omega) (by rw [hgn]; omega) (f1.low b hb0 h00), by rw [over_next, ← hnx]; have := f1.nxt; rw [over_next] at this; omega⟩
        hN2 r1 (by rw [← hnx]; omega) fun j hj hnj => ?_
      rw [hset] at hnj
      have hnj1 : j ≠ i := fun e => hnj (.inl e)
      have hnj2 : ¬ done listed j := fun e => hnj (.inr e)
      exact fa.low _ (by omega) (by rw [hgn]; omega) (hfree j hj hnj2)
    by_cases he : isEff o.op = true
    · obtain ⟨pre1, m1, rest1, a1, g, G1, C1, e1, e2, hcov1⟩ := C.upto hnd h2 he h3 hir hcov
      obtain ⟨eD', a2, hX, s1, C2, n2⟩ := C1.effect PF hnd h2 he h3
      have n1 : NoneIn G1 g := fun b ob hl => ⟨(C1.g2 b ob hl).1, (C1.g2 b ob hl).2.1⟩
      refine go eD' a1 a2 g hX pre1 es (i :: pre1) (es ++ [i]) rest1 rest1 _ _ G1 G1 hX ⟨f.rel.sub fun b o hb => by rw [← e1 b]; exact hb, f.ste.congr e1, fun b hb => f.top b (by rw [over_next] at hb ⊢; rw [← e2]; exact hb), f.low, by have := f.nxt; rw [over_next] at this ⊢; omega⟩ n1 e2 s1 n2 (fun _ => rfl) rfl C2 rfl (fun k hk => ?_) n2
      rcases hcov1 k hk with h | h
      · exact .inl (List.mem_cons_of_mem _ h)
      · rw [idx_cons] at h
        rcases List.mem_cons.1 h with rfl | h
        · exact .inl (by simp)
        · exact .inr h
    · simp only [Bool.not_eq_true] at he
      have hRh : Rel P μ h w := f.rel.sub (over_sub hN)
      have hfr : h.get (base + i) = none := by
        cases hg : h.get (base + i) with
        | none => rfl
        | some x => obtain ⟨j, hj, _⟩ := hRh.obj _ _ hg; rw [hμi] at hj; cases hj
      obtain ⟨eD', hX, G', s1, C2, e1, n2, e2⟩ := C.early PF hsn hir hnd h2 he h3 hfr
      exact go eD' a a h hX pre es pre es rest rest snaps sn G G' h f hN rfl s1 n2 e1 e2 C2 hsn hcov (fun b ob hl => ⟨(C2.g2 b ob hl).1, (C2.g2 b ob hl).2.1⟩)

theorem drawLaw (P : Program) : DrawLaw P := by
  intro S hS rd F μ h h' w a a' act ops id Q hF hR hT hA hv hQ
  unfold regionA at hv
  simp only [if_true] at hv
  split at hv
  case h_2 => cases hv
  rename_i pl hpl
  split at hv
  case isFalse => cases hv
  rename_i hm
  have PF := planOf_facts hpl
  refine wpIn_region_any hm ?_
  have hT' : Top μ (h.aside ops.size) := fun b hb => hT b (by simp [AHeap.aside] at hb; omega)
  have hno : ∀ j, ¬ done (Array.replicate ops.size false) j := fun j => by
    unfold done
    rw [Array.getD_eq_getD_getElem?]
    by_cases hj : j < ops.size
    · simp [hj]
    · simp [hj]
  have hlook : ∀ b, look ([] : List (Nat × AObj)) b = none := fun b => rfl
  refine draw_any (base := h.next) (r := (a', h')) PF hS (rd := rd) (μ0 := μ) (h0 := h.aside ops.size) (w0 := w) (fun μ' w' act' f r => hQ μ' w' act' (f.fin rfl) r) ops.size _ μ _ act [] [] pl [h.aside ops.size] [] a (h.aside ops.size) a []
    ⟨PF.fine, fun i o hi => by simp at hi, hv, rfl, fun j hj => by simp at hj, fun i o hi => (hno i hi).elim, fun j _ hj => (hno j hj).elim, rfl, rfl, fun q _ hq => (hno q hq).elim, fun d _ => rfl, fun q _ hq => (hno q hq).elim, fun b ob hl => by rw [hlook] at hl; cases hl⟩
    rfl (fun k hk => .inr (PF.all k hk)) (by simp) (Nat.le_trans (List.length_filter_le _ _) (by simp)) hF ?_ (fun b ob hl => by rw [hlook] at hl; cases hl) hA (by simp [AHeap.aside]) (fun j hj _ => hT _ (by omega))
  exact ⟨(hR.next _).drew _, (Ste.drew _ _ _ _), hT', fun _ _ h => h, Nat.le_refl _⟩

/-- **The evaluator is sound.** -/
theorem ev_sound (P : Program) (k : Nat) : SelfOk P (ev P k) := ev_ok (drawLaw P) k

end
#print axioms ev_sound
end Go.Ev
