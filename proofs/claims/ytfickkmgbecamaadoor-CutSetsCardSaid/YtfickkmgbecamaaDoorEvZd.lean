/- A call that only reads, played in a small heap of its own, answers alike in every heap. -/
import Derived.Test.YtfickkmgbecamaaDoorEvZc
namespace Go.Ev

section
variable {P : Program}

theorem VRel.eq_of_pv1 {μ : Mu} {v v' : Value} (h : VRel μ v v') (hp : pv1 v = true) : v' = v := by
  cases h <;> first | rfl | simp [pv1] at hp

theorem VsRel.eq_of_pv1 {μ : Mu} : ∀ {a b : List Value}, VsRel μ a b → a.all pv1 = true → b = a
  | _, _, .nil, _ => rfl
  | _, _, .cons h hs, hq => by
    simp at hq
    rw [VRel.eq_of_pv1 h hq.1, VsRel.eq_of_pv1 hs (by simpa using hq.2)]

theorem VRel.eq_of_pv {μ : Mu} {v v' : Value} (h : VRel μ v v') (hp : pv v = true) : v' = v := by
  cases h with
  | agg h => have := VsRel.eq_of_pv1 h (by simpa [pv] using hp); rw [Array.toList_inj] at this; rw [this]
  | tuple h => have := VsRel.eq_of_pv1 h (by simpa [pv] using hp); rw [Array.toList_inj] at this; rw [this]
  | _ => first | rfl | simp [pv, pv1] at hp

/-- Nothing that was there has been written: the relation stays as it was. -/
theorem Rel.kept {μ μ0 μ1 : Mu} {h h0 h1 : AHeap} {w w' : World} (R : Rel P μ h w) (hT : Top μ h) (s : Ste μ0 h0 w μ1 h1 w') (hro : ∀ b o, h0.get b = some o → mutO o = false) : Fin P μ h w μ h w' := by
  have hk : ∀ k, k < w.heap.size → w'.heap[k]? = w.heap[k]? := (s.below hro).block
  refine ⟨⟨fun b o hb => ?_, R.inj, R.glob⟩, ⟨Mu.le_refl _, s.size, s.tape, s.os, s.output, fun k hk' _ => hk k hk', fun b o i hb hl hi _ => ⟨b, o, i, hb, hl, id, hi, rfl⟩⟩, hT, fun _ _ h => h, Nat.le_refl _⟩
  obtain ⟨i, hi, ho⟩ := R.obj b o hb
  refine ⟨i, hi, ?_⟩
  by_cases hl : liveO o = true
  · exact ho.congr (hk _ (ho.lt hl))
  · cases o <;> simp [liveO] at hl; trivial

theorem CallOk.pure {f : FuncId} {args0 args : Array Value} {v : Value} {h0 h0' h : AHeap} (hc : CallOk P f args0 h0 v h0') (hp : pv v = true) (hro : ∀ b o, h0.get b = some o → mutO o = false)
    (hs : ∀ μ w (args' : Array Value), Rel P μ h w → Top μ h → VsRel μ args.toList args'.toList → ∃ μ0, Rel P μ0 h0 w ∧ Top μ0 h0 ∧ VsRel μ0 args0.toList args'.toList) : CallOk P f args h v h := by
  refine ⟨hc.1, fun μ w args' R hR hT hA hK => ?_⟩
  obtain ⟨μ0, r0, t0, a0⟩ := hs μ w args' hR hT hA
  refine hc.2 μ0 w args' R r0 t0 a0 fun μ' w' v' fi hv => ?_
  rw [hv.eq_of_pv hp]
  exact hK μ w' v (hR.kept hT fi.ste hro) (.of_pv hp)

/-- Frozen: what may only be read. -/
theorem ORel.froze {μ : Mu} {w : World} {c : List Value} {e : TypeId} {ro g : Bool} {i : Img} (h : ORel P μ (.cells c e ro g) i w) : ORel P μ (.cells c e true g) i w := by
  obtain ⟨C, fz, h1, _, h3, h4, h5, h6, h7⟩ := h
  exact ⟨C, fz, h1, fun hf => (by cases hf), h3, h4, h5, h6, fun hg => h7 (.inr (hg.resolve_left (by simp)))⟩

end
end Go.Ev
