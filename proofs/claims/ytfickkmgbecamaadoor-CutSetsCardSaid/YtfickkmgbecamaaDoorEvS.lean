/- Loops over functions; code; the evaluator is sound. -/
import Derived.Test.YtfickkmgbecamaaDoorEvR
namespace Go.Ev

section
variable {P : Program} {S : Self} {μ : Mu} {h h' : AHeap} {w : World}

theorem new_ok {b : Nat} {o : AObj} (hn : h.new b o = some h') : h' = h.put b o := by
  unfold AHeap.new at hn
  split at hn
  · exact (Option.some.inj hn).symm
  · cases hn

/-- Into a loop over a function. -/
theorem enter_ok {rd : Option Nat} {F : Fence} (hF : FOk μ rd F) (hR : Rel P μ h w) (hT : Top μ h) {a : AAct} {act : Act} (hA : ARel μ a act) {ps : Array Tmp} {assign body : Code} {D : Nat} {h1 h2 : AHeap} {marks : List Nat}
    (he : enterA rd h a.marks = some (D, h1, marks)) (hn : h1.new h.next (.loop { state := .ready, pending := none, env := a.env, n := a.n, params := ps, assign, body, defers := D }) = some h2) (fn : FuncId) :
    ∃ (i : Img) (mark : List Deferred) (w1 : World) (μ2 : Mu), (Instr.enterLoop fn act.tmps ps assign body F.round).run P w = .ok (i.blk, mark) w1 ∧ μ2 h.next = some i ∧ Fin P μ h w μ2 h2 w1 ∧ DefRel μ2 marks (mark ++ act.defers) := by
  unfold enterA at he
  split at he
  · cases hF
    simp only [Option.map_eq_some_iff, Prod.mk.injEq] at he
    obtain ⟨g1, hg1, rfl, rfl, rfl⟩ := he
    have e1 := new_ok hg1
    obtain ⟨r1, s1⟩ := hR.grow (hT (h.next + 1) (by omega)) (i := { blk := w.heap.size, d := 0, lim := 0, sz := 0, exact := true }) (w' := w.alloc (.deferred (some []))) hg1 (Nat.le_refl _)
      (World.alloc_heap_new w _) (by simp) rfl rfl rfl (fun k hk => heap_alloc_old w _ hk)
    have r1' := r1.next (h.next + 2)
    have hfree : μ.add (h.next + 1) { blk := w.heap.size, d := 0, lim := 0, sz := 0, exact := true } h.next = none := by
      unfold Mu.add; rw [if_neg (by omega)]; exact hT _ (Nat.le_refl _)
    have hle1 : μ.le (μ.add (h.next + 1) { blk := w.heap.size, d := 0, lim := 0, sz := 0, exact := true }) := s1.le
    have hle2 := Mu.le_add (μ := μ.add (h.next + 1) { blk := w.heap.size, d := 0, lim := 0, sz := 0, exact := true }) (b := h.next) { blk := w.heap.size + 1, d := 0, lim := 0, sz := 0, exact := true } hfree
    obtain ⟨r2, s2⟩ := r1'.grow hfree (i := { blk := w.heap.size + 1, d := 0, lim := 0, sz := 0, exact := true })
      (w' := (w.alloc (.deferred (some []))).alloc (.loop { state := .ready, pending := none, fn, tmps := act.tmps, params := ps, assign, body, defers := w.heap.size })) hn (by simp)
      ⟨_, (by have := World.alloc_heap_new (w.alloc (.deferred (some []))) (.loop { state := .ready, pending := none, fn, tmps := act.tmps, params := ps, assign, body, defers := w.heap.size }); rwa [World.size_alloc] at this), rfl, rfl, rfl, rfl, rfl,
        (hA.tmps.mono hle1).mono hle2, { blk := w.heap.size, d := 0, lim := 0, sz := 0, exact := true }, hle2 _ _ (Mu.add_self _ _ _), rfl⟩
      (by simp) rfl rfl rfl (fun k hk => heap_alloc_old _ _ hk)
    have e2 := new_ok hn
    refine ⟨_, _, _, _, run_enterLoop_outer fn act.tmps ps assign body, Mu.add_self _ _ _, ⟨r2, (s1.trans (Ste.next _ _ _ _)).trans s2, fun b hb => ?_, fun b hb h0 => ?_, ?_⟩, .cons (hle2 _ _ (Mu.add_self _ _ _)) ((hA.defs.mono hle1).mono hle2)⟩
    · rw [e2] at hb
      simp only [AHeap.next_put] at hb
      unfold Mu.add
      rw [if_neg (by omega), if_neg (by omega)]
      exact hT b (by omega)
    · unfold Mu.add
      rw [if_neg (by omega), if_neg (by omega)]
      exact h0
    · rw [e2]; simp
  · rename_i l0
    obtain ⟨i0, hi0, rfl⟩ := hF
    split at he
    case h_2 => cases he
    rename_i L0 hL0
    simp only [Option.some.injEq, Prod.mk.injEq] at he
    obtain ⟨rfl, rfl, rfl⟩ := he
    obtain ⟨r0, k1, k2, k3, k4, k5, k6, k7, ⟨j, hj, hjd⟩, _⟩ := loop_turn hR hT hL0 hi0 .ready none
    have hfree := hT h.next (Nat.le_refl _)
    have hle2 := Mu.le_add (μ := μ) (b := h.next) { blk := w.heap.size, d := 0, lim := 0, sz := 0, exact := true } hfree
    obtain ⟨r2, s2⟩ := (hR.next (h.next + 1)).grow hfree (i := { blk := w.heap.size, d := 0, lim := 0, sz := 0, exact := true })
      (w' := w.alloc (.loop { state := .ready, pending := none, fn, tmps := act.tmps, params := ps, assign, body, defers := r0.defers })) hn (Nat.le_refl _)
      ⟨_, World.alloc_heap_new w _, rfl, rfl, rfl, rfl, rfl, hA.tmps.mono hle2, j, hle2 _ _ hj, hjd⟩
      (by simp) rfl rfl rfl (fun k hk => heap_alloc_old _ _ hk)
    have e2 := new_ok hn
    refine ⟨_, [], _, _, run_enterLoop_inner k1 fn act.tmps ps assign body, Mu.add_self _ _ _, ⟨r2, (Ste.next _ _ _ _).trans s2, fun b hb => ?_, fun b hb h0 => ?_, ?_⟩, hA.defs.mono hle2⟩
    · rw [e2] at hb
      simp only [AHeap.next_put] at hb
      unfold Mu.add
      rw [if_neg (by omega)]
      exact hT b (by omega)
    · unfold Mu.add
      rw [if_neg (by omega)]
      exact h0
    · rw [e2]; simp

theorem rangeA_ok (hS : SelfOk P S) {rd : Option Nat} {g : Operand} {ps : Array Tmp} {assign body : Code} {a a' : AAct} {out : Out} (hv : rangeA P S rd g ps assign body a h = some (out, a', h')) :
    CodeOk P rd a h out a' h' (fun F => (Code.rangeFunc g ps assign body).wpIn F 0 P) := by
  intro F μ w act Q hF hR hT hA hQ
  unfold rangeA at hv
  split at hv
  case h_2 => cases hv
  rename_i f first captured hg
  have hg' := evalO_ok hR hA.tmps hg
  generalize hge : act.eval g = g' at hg'
  cases hg' with
  | @func _ _ first' _ captured' hfi hca =>
  split at hv
  case h_2 => cases hv
  rename_i D h1 marks he
  split at hv
  · cases hv
  rename_i h2 hn
  split at hv
  case h_2 => cases hv
  rename_i v3 h3 hc
  obtain ⟨⟨fn, c, hf, hb, hnm⟩, hcall⟩ := hS.call _ _ _ _ _ hc
  split at hv
  case h_2 => cases hv
  rename_i L hL
  split at hv
  · cases hv
  rename_i hbusy
  refine wpIn_rangeFunc fun fn0 _ => ?_
  obtain ⟨i, mark, w1, μ2, henter, hi, f2, hdef⟩ := enter_ok hF hR hT hA he hn fn0
  have hva : VsRel μ2 (first ++ #[Value.func (.yield h.next) #[] #[]] ++ captured).toList (first' ++ #[Value.func (.yield i.blk) #[] #[]] ++ captured').toList :=
    ((VsRel.mono f2.ste.le hfi).appendA (.cons (.yield hi .nil .nil) .nil)).appendA (VsRel.mono f2.ste.le hca)
  refine ⟨i.blk, mark, w1, { target := .fn (.func f) captured', args := first' ++ #[.func (.yield i.blk) #[] #[]] }, w1, f, first' ++ #[.func (.yield i.blk) #[] #[]] ++ captured', w1, henter, ?_, fun f' _ => hF.fn f', ?_, fun hd => hF.depth hd, ?_⟩
  · simp only [resolve, hge]
    simp [go_sem, Deferred.ofValue]
  · simp [invoke, run_callFunc hf hb hnm]
  · have hc' := hcall μ2 w1 (first' ++ #[.func (.yield i.blk) #[] #[]] ++ captured') (rangePost F 0 P i.blk Q { act with defers := mark ++ act.defers }) f2.rel f2.top hva (fun μ3 w3 v' f3 hvr => by
      have hi3 := f3.ste.le _ _ hi
      obtain ⟨r, k1, k2, k3, k4, k5, k6, k7, _, f4⟩ := loop_turn f3.rel f3.top hL hi3 .exhausted L.pending
      have hend := run_endLoop (P := P) k1 (by rw [k2]; exact hbusy)
      rw [k3] at hend
      have hA3 : ARel μ3 { a with marks := marks } { act with defers := mark ++ act.defers } :=
        ⟨(hA.tmps.mono f2.ste.le).mono f3.ste.le, hdef.mono f3.ste.le⟩
      refine ⟨_, _, hend, ?_⟩
      split at hv
      · rename_i hp
        cases hv
        rw [hp] at f4 ⊢
        have e2 : (h3.put h.next (.loop { L with state := .exhausted })) = h3.put h.next (.loop { L with state := .exhausted, pending := none }) := by rw [← hp]
        exact hQ μ3 _ _ (by rw [e2]; exact (f2.trans f3).trans f4) hA3
      · rename_i cc hp
        rw [hp] at f4 ⊢
        have e2 : (h3.put h.next (.loop { L with state := .exhausted })) = h3.put h.next (.loop { L with state := .exhausted, pending := some cc }) := by rw [← hp]
        rw [e2] at hv
        exact hS.code _ _ _ _ _ _ _ hv F μ3 _ _ Q ((hF.mono f2.ste.le).mono f3.ste.le) f4.rel f4.top hA3 fun μ5 w5 act5 f5 r5 => hQ μ5 w5 act5 (((f2.trans f3).trans f4).trans f5) r5)
    cases rd with
    | none => cases hF; exact hc'
    | some l0 => obtain ⟨i0, _, e0⟩ := hF; subst e0; exact hc'

theorem codeA_ok (hD : DrawLaw P) (hS : SelfOk P S) {rd : Option Nat} {c : Code} {a a' : AAct} {out : Out} (hv : codeA P S rd c a h = some (out, a', h')) :
    CodeOk P rd a h out a' h' (fun F => c.wpIn F 0 P) := by
  intro F μ w act Q hF hR hT hA hQ
  unfold codeA at hv
  split at hv
  · cases hv; exact wpIn_skip (hQ μ w act (Fin.refl hR hT) hA)
  · cases hv; exact wpIn_label (hQ μ w act (Fin.refl hR hT) hA)
  · cases hv; exact wpIn_ret (hQ μ w act (Fin.refl hR hT) hA)
  · cases hv; exact wpIn_exit (hQ μ w act (Fin.refl hR hT) hA)
  · cases hv; exact wpIn_goto (hQ μ w act (Fin.refl hR hT) hA)
  · -- seq
    rename_i x y
    refine wpIn_seq ?_
    unfold thenA at hv
    split at hv
    · rename_i a1 h1 hc1
      exact hS.code _ _ _ _ _ _ _ hc1 F μ w act _ hF hR hT hA fun μ1 w1 act1 f1 r1 =>
        hS.code _ _ _ _ _ _ _ hv F μ1 w1 act1 Q (hF.mono f1.ste.le) f1.rel f1.top r1 fun μ2 w2 act2 f2 r2 => hQ μ2 w2 act2 (f1.trans f2) r2
    · rename_i hne
      refine hS.code _ _ _ _ _ _ _ hv F μ w act _ hF hR hT hA fun μ1 w1 act1 f1 r1 => ?_
      have := hQ μ1 w1 act1 f1 r1
      cases out with
      | normal => exact (hne _ _ hv).elim
      | _ => exact this
  · -- cond
    rename_i o x y
    split at hv
    · rename_i ho
      have ho' := evalO_ok hR hA.tmps ho
      generalize hge : act.eval o = g' at ho'
      cases ho'
      exact wpIn_cond_true hge (hS.code _ _ _ _ _ _ _ hv F μ w act Q hF hR hT hA hQ)
    · rename_i ho
      have ho' := evalO_ok hR hA.tmps ho
      generalize hge : act.eval o = g' at ho'
      cases ho'
      exact wpIn_cond_false hge (hS.code _ _ _ _ _ _ _ hv F μ w act Q hF hR hT hA hQ)
    · cases hv
  · -- block
    rename_i id x
    refine wpIn_block ?_
    split at hv
    · rename_i id' a1 h1 hc1
      refine hS.code _ _ _ _ _ _ _ hc1 F μ w act _ hF hR hT hA fun μ1 w1 act1 f1 r1 => ?_
      simp only [exitOf, Exit.inBlock]
      split at hv
      · rename_i e; cases hv; rw [if_pos e]; exact hQ μ1 w1 act1 f1 r1
      · rename_i e; cases hv; rw [if_neg e]; exact hQ μ1 w1 act1 f1 r1
    · rename_i hne
      refine hS.code _ _ _ _ _ _ _ hv F μ w act _ hF hR hT hA fun μ1 w1 act1 f1 r1 => ?_
      have := hQ μ1 w1 act1 f1 r1
      cases out with
      | exit id' => exact (hne _ _ _ hv).elim
      | _ => exact this
  · -- loop
    rename_i x
    exact runs_wp (runs_step (its' := [.code x, .inLoop x]) hF.fn hF.room (fun b k => rfl) (fun b k cs => stepR_loop) (hS.loop _ _ _ _ _ _ _ hv F μ w act Q hF hR hT hA hQ))
  · -- scope
    rename_i x
    exact runs_wp (runs_step (its' := [.code x, .inScope x]) hF.fn hF.room (fun b k => rfl) (fun b k cs => stepR_scope) (hS.scope _ _ _ _ _ _ _ _ hv F μ w act Q hF hR hT hA hQ))
  · -- region
    rename_i id ops draw
    simp only [Option.map_eq_some_iff, Prod.mk.injEq] at hv
    obtain ⟨⟨a1, h1⟩, hv, rfl, rfl, rfl⟩ := hv
    cases draw with
    | false =>
      unfold regionA at hv
      simp only [Bool.false_eq_true, if_false] at hv
      exact region_wpIn hS hF hR hT hA hv hQ
    | true => exact hD S hS hF hR hT hA hv hQ
  · -- a loop over a function
    exact rangeA_ok hS hv F μ w act Q hF hR hT hA hQ
  · cases hv

theorem stepS_ok (hD : DrawLaw P) (hS : SelfOk P S) : SelfOk P (stepS P S) :=
  ⟨fun _ _ _ _ _ _ _ hv => codeA_ok hD hS hv, fun _ _ _ _ _ _ _ _ hv => scopeA_ok hS hv, fun _ _ _ _ _ _ _ hv => loopA_ok hS hv, fun _ _ _ _ _ hv => callFA_ok hS hv⟩

theorem ev_ok (hD : DrawLaw P) : ∀ k, SelfOk P (ev P k)
  | 0 => by
    refine ⟨?_, ?_, ?_, ?_⟩
    · intro _ _ _ _ _ _ _ hv; cases hv
    · intro _ _ _ _ _ _ _ _ hv; cases hv
    · intro _ _ _ _ _ _ _ hv; cases hv
    · intro _ _ _ _ _ hv; cases hv
  | k + 1 => stepS_ok hD (ev_ok hD k)

end
end Go.Ev
