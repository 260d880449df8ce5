/- Regions whose operations go in the text's order. -/
import Derived.Test.YtfickkmgbecamaaDoorEvO
namespace Go.Ev

/-- Where a part of a region has led: the numbers from base on may be new. -/
structure FinB (P : Program) (base : Nat) (μ : Mu) (h : AHeap) (w : World) (μ' : Mu) (h' : AHeap) (w' : World) : Prop where
  rel : Rel P μ' h' w'
  ste : Ste μ h w μ' h' w'
  top : Top μ' h'
  low : ∀ b, b < base → μ b = none → μ' b = none
  nxt : h.next ≤ h'.next

section
variable {P : Program} {S : Self} {μ : Mu} {h h' : AHeap} {w : World}

theorem FinB.refl (base : Nat) (hR : Rel P μ h w) (hT : Top μ h) : FinB P base μ h w μ h w :=
  ⟨hR, Ste.refl _ _ _, hT, fun _ _ h => h, Nat.le_refl _⟩
theorem FinB.trans {base : Nat} {μ' μ'' : Mu} {h'' : AHeap} {w' w'' : World} (a : FinB P base μ h w μ' h' w') (b : FinB P base μ' h' w' μ'' h'' w'') : FinB P base μ h w μ'' h'' w'' :=
  ⟨b.rel, a.ste.trans b.ste, b.top, fun x hx h0 => b.low x hx (a.low x hx h0), Nat.le_trans a.nxt b.nxt⟩
theorem FinAt.b {base id : Nat} {μ' : Mu} {w' : World} (f : FinAt P id μ h w μ' h' w') (hid : base ≤ id) (hn : base ≤ h.next) : FinB P base μ h w μ' h' w' :=
  ⟨f.rel, f.ste, f.top, fun b hb h0 => f.low b (by omega) (by omega) h0, f.nxt⟩

/-- A region's numbers are laid aside. -/
def AHeap.aside (h : AHeap) (n : Nat) : AHeap := { h with next := h.next + n }

theorem FinB.fin {base n : Nat} (hb : base = h.next) {μ' : Mu} {w' : World} (f : FinB P base μ (h.aside n) w μ' h' w') : Fin P μ h w μ' h' w' :=
  ⟨f.rel, (Ste.next μ h w (h.next + n)).trans f.ste, f.top, fun b hx => f.low b (by omega), by have := f.nxt; simp [AHeap.aside] at this; omega⟩

/-- One step of a region. -/
theorem stepA_wpIn (hS : SelfOk P S) {rd : Option Nat} {F : Fence} (hF : FOk μ rd F) (hR : Rel P μ h w) (hT : Top μ h) {a a' : AAct} {act : Act} (hA : ARel μ a act) {base i : Nat} {ops : Array Oper}
    (hμ : μ (base + i) = none) (hid : base + i < h.next) (hs : stepA P S base ops i a h = some (a', h')) {K : Act → World → Prop} {Q : Exit → Act → World → Prop}
    (hK : ∀ μ' w' act', FinAt P (base + i) μ h w μ' h' w' → ARel μ' a' act' → K act' w') : wpOpIn F 0 P ops Q i K act w := by
  unfold stepA at hs
  split at hs
  · cases hs
  rename_i o ho
  unfold wpOpIn
  rw [ho]
  simp only
  split at hs
  · rename_i hw
    rw [if_pos (wantedA_ok hA.tmps hw)]
    obtain ⟨⟨v, h1⟩, hv, hp⟩ := Option.bind_eq_some_iff.1 hs
    simp only [Option.map_eq_some_iff, Prod.mk.injEq] at hp
    obtain ⟨a1, ha1, rfl, rfl⟩ := hp
    exact operA_wpIn hS hF hR hT hA hμ hid hv fun μ' w' v' f hvr => hK μ' w' _ f ((hA.mono f.ste.le).put hvr ha1)
  · rename_i hw
    rw [if_neg (by rw [wantedA_ok hA.tmps hw]; simp)]
    simp only [Option.map_eq_some_iff, Prod.mk.injEq] at hs
    obtain ⟨a1, ha1, rfl, rfl⟩ := hs
    exact ⟨fun f _ => hF.fn f, hK μ w _ ⟨hR, Ste.refl _ _ _, hT, fun _ _ _ h => h, Nat.le_refl _⟩ (hA.put (.tuple .nil) ha1)⟩
  · cases hs

theorem opsA_wpIn (hS : SelfOk P S) {rd : Option Nat} {F : Fence} {base : Nat} {ops : Array Oper} {Q : Exit → Act → World → Prop} : ∀ (l : List Nat) (μ : Mu) (h : AHeap) (w : World) (a a' : AAct) (act : Act) (h' : AHeap),
    FOk μ rd F → Rel P μ h w → Top μ h → ARel μ a act → l.Nodup → (∀ j ∈ l, μ (base + j) = none ∧ base + j < h.next) → base ≤ h.next → opsA P S base ops l a h = some (a', h') →
    (∀ μ' w' act', FinB P base μ h w μ' h' w' → ARel μ' a' act' → Q .normal act' w') → wpOpsIn F 0 P ops Q l act w := by
  intro l
  induction l with
  | nil =>
    intro μ h w a a' act h' hF hR hT hA _ _ _ hs hK
    simp only [opsA, Option.some.injEq, Prod.mk.injEq] at hs
    obtain ⟨rfl, rfl⟩ := hs
    exact hK μ w act (FinB.refl _ hR hT) hA
  | cons i rest ih =>
    intro μ h w a a' act h' hF hR hT hA hnd hfree hb hs hK
    simp only [opsA] at hs
    split at hs
    · rename_i a1 h1 hst
      rw [wpOpsIn_cons]
      obtain ⟨h0, hlt⟩ := hfree i (by simp)
      rw [List.nodup_cons] at hnd
      refine stepA_wpIn hS hF hR hT hA h0 hlt hst fun μ1 w1 act1 f1 r1 => ?_
      refine ih μ1 h1 w1 a1 a' act1 h' (hF.mono f1.ste.le) f1.rel f1.top r1 hnd.2 (fun j hj => ?_) (Nat.le_trans hb f1.nxt) hs fun μ2 w2 act2 f2 r2 => hK μ2 w2 act2 ((f1.b (by omega) hb).trans f2) r2
      obtain ⟨hj0, hjlt⟩ := hfree j (by simp [hj])
      have hne : base + j ≠ base + i := fun e => hnd.1 (by rw [show i = j from by omega]; exact hj)
      exact ⟨f1.low _ hne hjlt hj0, Nat.lt_of_lt_of_le hjlt f1.nxt⟩
    · cases hs

/-- A region in the text's order. -/
theorem region_wpIn (hS : SelfOk P S) {rd : Option Nat} {F : Fence} (hF : FOk μ rd F) (hR : Rel P μ h w) (hT : Top μ h) {a a' : AAct} {act : Act} (hA : ARel μ a act) {ops : Array Oper} {id : Nat}
    (hs : opsA P S h.next ops (List.range ops.size) a (h.aside ops.size) = some (a', h')) {Q : Exit → Act → World → Prop}
    (hK : ∀ μ' w' act', Fin P μ h w μ' h' w' → ARel μ' a' act' → Q .normal act' w') : (Code.region id ops false).wpIn F 0 P Q act w := by
  refine wpIn_region ?_
  have hT' : Top μ (h.aside ops.size) := fun b hb => hT b (by simp [AHeap.aside] at hb; omega)
  refine opsA_wpIn hS (List.range ops.size) μ _ w a a' act h' hF (hR.next _) hT' hA List.nodup_range (fun j hj => ⟨hT _ (by omega), ?_⟩) (by simp [AHeap.aside]) hs fun μ' w' act' f r => hK μ' w' act' (f.fin rfl) r
  simp at hj
  simp [AHeap.aside]; omega

end
end Go.Ev
