/- Code, loops over functions, calls: what the evaluator answers the model does. -/
import Derived.Test.YtfickkmgbecamaaDoorEvP
namespace Go.Ev

/-- What is owed of regions whose order is drawn. -/
def DrawLaw (P : Program) : Prop :=
  ∀ (S : Self), SelfOk P S → ∀ {rd : Option Nat} {F : Fence} {μ : Mu} {h h' : AHeap} {w : World} {a a' : AAct} {act : Act} {ops : Array Oper} {id : Nat} {Q : Exit → Act → World → Prop},
    FOk μ rd F → Rel P μ h w → Top μ h → ARel μ a act → regionA P S ops true a h = some (a', h') →
    (∀ μ' w' act', Fin P μ h w μ' h' w' → ARel μ' a' act' → Q .normal act' w') → (Code.region id ops true).wpIn F 0 P Q act w

section steps
variable {P : Program} {b : Frame} {a : Act} {k : List Item} {cs : List Frame} {w : World}
theorem stepR_scope {c : Code} : step P (lone (b.atR a (.code (.scope c) :: k)) cs w) = .next (lone (b.atR a (.code c :: .inScope c :: k)) cs w) :=
  step_lone_go (by simp [stepG, stepG.exec, Frame.atR])
theorem stepR_inScope {c : Code} : step P (lone (b.atR a (.inScope c :: k)) cs w) = .next (lone (b.atR a k) cs w) :=
  step_lone_go (by simp [stepG, stepG.exec, Frame.atR])
end steps

section
variable {P : Program} {S : Self}

theorem wp_runs {c : Code} {F : Fence} (hF : ∀ f, F.fn f) (hr : ∀ n, F.room n) {Q : Exit → Act → World → Prop} {act : Act} {w : World} (h : c.wpIn F 0 P Q act w) : runs P [.code c] F Q act w :=
  fun b k cs hb => h b k cs hb (hF _) (hr _)

theorem runs_wp {c : Code} {F : Fence} {Q : Exit → Act → World → Prop} {act : Act} {w : World} (h : runs P [.code c] F Q act w) : c.wpIn F 0 P Q act w :=
  fun b k cs hb _ _ => h b k cs hb

/-- A step ahead of a run. -/
theorem runs_step {its its' : List Item} {F : Fence} (hF : ∀ f, F.fn f) (hr : ∀ n, F.room n) {Q : Exit → Act → World → Prop} {act : Act} {w : World} (hc : ∀ (b : Frame) (k : List Item), (b.atR act (its ++ k)).about P w = none)
    (hs : ∀ (b : Frame) (k : List Item) (cs : List Frame), step P (lone (b.atR act (its ++ k)) cs w) = .next (lone (b.atR act (its' ++ k)) cs w)) (h : runs P its' F Q act w) : runs P its F Q act w := fun b k cs hb => by
  obtain ⟨e, act', w', q, r⟩ := h b k cs hb
  exact ⟨e, act', w', q, .of_steps (.one (fenced_calm (n := 0) (hF _) (hr _) (hc b k)) (hs b k cs)) r⟩

theorem loopA_ok (hS : SelfOk P S) {rd : Option Nat} {c : Code} {a a' : AAct} {h h' : AHeap} {out : Out} (hv : loopA S rd c a h = some (out, a', h')) : CodeOk P rd a h out a' h' (runs P [.code c, .inLoop c]) := by
  intro F μ w act Q hF hR hT hA hQ
  unfold loopA thenA at hv
  split at hv
  · rename_i a1 h1 hc1
    intro b k cs hb
    have h1' := hS.code _ _ _ _ _ _ _ hc1 F μ w act (fun e act' w' => e = .normal ∧ ∃ e2 act2 w2, Q e2 act2 w2 ∧ ArrivesIn (Machine.fenced P F) P (lone (b.atR act' (.inLoop c :: k)) cs w') b k cs e2 act2 w2) hF hR hT hA
      (fun μ1 w1 act1 f1 r1 => by
        refine ⟨rfl, ?_⟩
        obtain ⟨e2, act2, w2, q2, arr2⟩ := hS.loop _ _ _ _ _ _ _ hv F μ1 w1 act1 Q (hF.mono f1.ste.le) f1.rel f1.top r1 (fun μ2 w2 act2 f2 r2 => hQ μ2 w2 act2 (f1.trans f2) r2) b k cs hb
        exact ⟨e2, act2, w2, q2, .of_steps (.one (fenced_calm (n := 0) (hF.fn _) (hF.room _) rfl) stepR_inLoop) arr2⟩)
    obtain ⟨e, act1, w1, ⟨rfl, e2, act2, w2, q2, arr2⟩, arr⟩ := h1' b (.inLoop c :: k) cs hb (hF.fn _) (hF.room _)
    exact ⟨e2, act2, w2, q2, .of_steps arr arr2⟩
  · rename_i hne
    intro b k cs hb
    have h1' := hS.code _ _ _ _ _ _ _ hv F μ w act (fun e act' w' => e = exitOf out ∧ Q e act' w') hF hR hT hA (fun μ1 w1 act1 f1 r1 => ⟨rfl, hQ μ1 w1 act1 f1 r1⟩)
    obtain ⟨e, act1, w1, ⟨rfl, q⟩, arr⟩ := h1' b (.inLoop c :: k) cs hb (hF.fn _) (hF.room _)
    refine ⟨_, act1, w1, q, .pass (x := .inLoop c) rfl (fun _ _ => .inl ?_) arr⟩
    cases out with
    | normal => exact (hne _ _ hv).elim
    | _ => simp [exitOf]

theorem scopeA_ok (hS : SelfOk P S) {rd : Option Nat} {body c : Code} {a a' : AAct} {h h' : AHeap} {out : Out} (hv : scopeA S rd body c a h = some (out, a', h')) : CodeOk P rd a h out a' h' (runs P [.code c, .inScope body]) := by
  intro F μ w act Q hF hR hT hA hQ
  unfold scopeA at hv
  split at hv
  · rename_i l a1 h1 hc1
    split at hv
    · rename_i rest hl
      intro b k cs hb
      have h1' := hS.code _ _ _ _ _ _ _ hc1 F μ w act (fun e act' w' => e = .goto l ∧ ∃ e2 act2 w2, Q e2 act2 w2 ∧ ArrivesIn (Machine.fenced P F) P (lone (b.atR act' (.code rest :: .inScope body :: k)) cs w') b k cs e2 act2 w2) hF hR hT hA
        (fun μ1 w1 act1 f1 r1 => ⟨rfl, hS.scope _ _ _ _ _ _ _ _ hv F μ1 w1 act1 Q (hF.mono f1.ste.le) f1.rel f1.top r1 (fun μ2 w2 act2 f2 r2 => hQ μ2 w2 act2 (f1.trans f2) r2) b k cs hb⟩)
      obtain ⟨e, act1, w1, ⟨rfl, e2, act2, w2, q2, arr2⟩, arr⟩ := h1' b (.inScope body :: k) cs hb (hF.fn _) (hF.room _)
      exact ⟨e2, act2, w2, q2, .of_steps (arr.1 _ (by simp [gotoIn, hl])) arr2⟩
    · rename_i hl
      cases hv
      intro b k cs hb
      have h1' := hS.code _ _ _ _ _ _ _ hc1 F μ w act (fun e act' w' => e = .goto l ∧ Q e act' w') hF hR hT hA (fun μ1 w1 act1 f1 r1 => ⟨rfl, hQ μ1 w1 act1 f1 r1⟩)
      obtain ⟨e, act1, w1, ⟨rfl, q⟩, arr⟩ := h1' b (.inScope body :: k) cs hb (hF.fn _) (hF.room _)
      have hx : gotoIn l (.inScope body :: k) = gotoIn l k := by simp [gotoIn, hl]
      exact ⟨_, act1, w1, q, fun k' hk => arr.1 k' (by rw [hx]; exact hk), fun hr' hk => arr.2 hr' (by rw [hx]; exact hk)⟩
  · rename_i hne
    intro b k cs hb
    have h1' := hS.code _ _ _ _ _ _ _ hv F μ w act (fun e act' w' => e = exitOf out ∧ Q e act' w') hF hR hT hA (fun μ1 w1 act1 f1 r1 => ⟨rfl, hQ μ1 w1 act1 f1 r1⟩)
    obtain ⟨e, act1, w1, ⟨rfl, q⟩, arr⟩ := h1' b (.inScope body :: k) cs hb (hF.fn _) (hF.room _)
    cases out with
    | normal => exact ⟨.normal, act1, w1, q, StepsIn.trans arr (.one (fenced_calm (n := 0) (hF.fn _) (hF.room _) rfl) stepR_inScope)⟩
    | exit id => exact ⟨.exit id, act1, w1, q, fun k' hk => arr.1 k' (by simp [exitTo, hk]), fun hr' hk => arr.2 hr' (by simp [exitTo, hk])⟩
    | goto l => exact (hne _ _ _ hv).elim
    | ret => exact ⟨_, act1, w1, q, arr⟩

end
end Go.Ev
