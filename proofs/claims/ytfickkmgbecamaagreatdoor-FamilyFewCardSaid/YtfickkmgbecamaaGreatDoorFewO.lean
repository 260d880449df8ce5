/- Answers laid by hand, of small full graphs: are two nodes linked; is the graph safe; what is suggested. -/
import Derived.Test.YtfickkmgbecamaaGreatDoorOrB
import Derived.Test.YtfickkmgbecamaaGreatDoorFewA
import Derived.Test.YtfickkmgbecamaaGreatDoorEv6
namespace Go.Ev
open Go.Proofs Tree
set_option maxRecDepth 1000000

def small (N : Nat) : Bool := Nat.beq N 2 || Nat.beq N 3 || Nat.beq N 4
theorem small_is {N : Nat} (h : small N = true) : N = 2 ∨ N = 3 ∨ N = 4 := by
  simp only [small, Bool.or_eq_true, Nat.beq_eq] at h
  omega
theorem links_plain {N : Nat} (h : N = 2 ∨ N = 3 ∨ N = 4) : (linksOf N).all pv1 = true := by rcases h with rfl | rfl | rfl <;> decide

/-! ### Linked -/
def gV (N b : Nat) : Value := .agg #[.int .i64 (.ofNat N), .slice (some ⟨b, 0, none⟩) (linkN N) (linkN N)]
def lkArgs (N b x y : Nat) : Array Value := #[gV N b, .int .i64 (.ofNat x), .int .i64 (.ofNat y)]
theorem lk_table (e : TypeId) (g : Bool) (N : Nat) (hN : N = 2 ∨ N = 3 ∨ N = 4) : (List.range N).map (fun x => (List.range N).map fun y => ((evC Tryz.prog oHas 100).call 59 (lkArgs N 1 x y) (rowHeap (linksOf N) e g)).map (·.1)) = (List.range N).map fun x => (List.range N).map fun y => some (.bool (!Nat.beq x y)) := by
  rcases hN with rfl | rfl | rfl <;> kernel_rfl
theorem lk_ok {e : TypeId} {ro g : Bool} {N b x y : Nat} {h : AHeap} (hN : N = 2 ∨ N = 3 ∨ N = 4) (hx : x < N) (hy : y < N) (hb : h.get b = some (.cells (linksOf N) e ro g)) : CallOk Tryz.prog 59 (lkArgs N b x y) h (.bool (!Nat.beq x y)) h := by
  have h1 := List.map_inj_left.1 (lk_table e g N hN) x (List.mem_range.2 hx)
  have h2 := List.map_inj_left.1 h1 y (List.mem_range.2 hy)
  refine CallOk.ofRows oHas_ok globals_one (fu := 100) (b := b) ?_ hb (links_plain hN) rfl ?_
  · simp [lkArgs, gV, rowV, rowV1, pv1]
  · have e1 : ((lkArgs N b x y).toList.map renV).toArray = lkArgs N 1 x y := rfl
    rw [e1]
    exact h2

noncomputable def oLk : Oracle := fun f args h =>
  if f = 59 then
    match args.toList with
    | [.agg a, .int .i64 (.ofNat x), .int .i64 (.ofNat y)] => (match a.toList with
      | [.int .i64 (.ofNat N), .slice (some ⟨b, 0, none⟩) n k] =>
        (match getQ h.tr b with
        | some (.cells c _ _ _) => (match small N && Nat.beq n (linkN N) && Nat.beq k (linkN N) && Nat.blt x N && Nat.blt y N && rowEq c (linksOf N) with | true => some (.bool (!Nat.beq x y), h) | false => none)
        | _ => none)
      | _ => none)
    | _ => none
  else oHas f args h
theorem oLk_ok : OracleOk Tryz.prog oLk := fun f args h v h' hv => by
  unfold oLk at hv
  split at hv
  case isFalse => exact oHas_ok f args h v h' hv
  rename_i hf
  subst hf
  split at hv
  case h_2 => cases hv
  rename_i a x y ha
  split at hv
  case h_2 => cases hv
  rename_i N b n k ha2
  split at hv
  case h_2 => cases hv
  rename_i c e ro g hg
  split at hv
  case h_2 => cases hv
  rename_i hc
  cases hv
  simp only [Bool.and_eq_true, Nat.beq_eq, Nat.blt_eq] at hc
  obtain ⟨⟨⟨⟨⟨k1, k2⟩, k3⟩, k4⟩, k5⟩, k6⟩ := hc
  subst k2 k3
  rw [getQ_eq, rowEq_eq k6] at hg
  obtain rfl : args = lkArgs N b x y := by
    rw [← Array.toList_inj, ha]
    have : a = #[.int .i64 (.ofNat N), .slice (some ⟨b, 0, none⟩) (linkN N) (linkN N)] := by rw [← Array.toList_inj, ha2]
    rw [this]; rfl
  exact lk_ok (small_is k1) k4 k5 hg

end Go.Ev
