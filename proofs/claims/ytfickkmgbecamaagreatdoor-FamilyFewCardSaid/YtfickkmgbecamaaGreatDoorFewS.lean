/- Answers laid by hand, of small full graphs: is it safe. -/
import Derived.Test.YtfickkmgbecamaaGreatDoorFewQ
namespace Go.Ev
open Go.Proofs Tree
set_option maxRecDepth 1000000

def fewOf4 (s : Nat) : Bool := Nat.beq s 0 || Nat.beq s 1 || Nat.beq s 2 || Nat.beq s 4 || Nat.beq s 8 || Nat.beq s 3 || Nat.beq s 5 || Nat.beq s 6 || Nat.beq s 9 || Nat.beq s 10 || Nat.beq s 12
theorem cu_ok {e : TypeId} {ro g : Bool} {b s : Nat} {h : AHeap} (hs : fewOf4 s = true) (hb : h.get b = some (.cells (linksOf 4) e ro g)) : CallOk Tryz.prog 69 (cuArgs b s) h (.bool false) h := by
  refine CallOk.ofRows oLk_ok globals_one (fu := 3000) (b := b) ?_ hb (links_plain (.inr (.inr rfl))) rfl ?_
  · simp [cuArgs, gV, rowV, rowV1, pv1]
  · have e1 : ((cuArgs b s).toList.map renV).toArray = cuArgs 1 s := rfl
    rw [e1]
    simp only [fewOf4, Bool.or_eq_true, Nat.beq_eq] at hs
    rcases hs with (((((((((rfl | rfl) | rfl) | rfl) | rfl) | rfl) | rfl) | rfl) | rfl) | rfl) | rfl
    · exact cu_0 e g
    · exact cu_1 e g
    · exact cu_2 e g
    · exact cu_4 e g
    · exact cu_8 e g
    · exact cu_3 e g
    · exact cu_5 e g
    · exact cu_6 e g
    · exact cu_9 e g
    · exact cu_10 e g
    · exact cu_12 e g
noncomputable def oCu : Oracle := fun f args h =>
  if f = 69 then
    match args.toList with
    | [.agg a, .int .u64 (.ofNat s)] => (match a.toList with
      | [.int .i64 (.ofNat N), .slice (some ⟨b, 0, none⟩) n k] =>
        (match getQ h.tr b with
        | some (.cells c _ _ _) => (match Nat.beq N 4 && Nat.beq n (linkN 4) && Nat.beq k (linkN 4) && fewOf4 s && rowEq c (linksOf 4) with | true => some (.bool false, h) | false => none)
        | _ => none)
      | _ => none)
    | _ => none
  else oLk f args h
theorem oCu_ok : OracleOk Tryz.prog oCu := fun f args h v h' hv => by
  unfold oCu at hv
  split at hv
  case isFalse => exact oLk_ok f args h v h' hv
  rename_i hf
  subst hf
  split at hv
  case h_2 => cases hv
  rename_i a s ha
  split at hv
  case h_2 => cases hv
  rename_i N b n k ha2
  split at hv
  case h_2 => cases hv
  rename_i c e ro g hg
  split at hv
  case h_2 => cases hv
  rename_i hc
  cases hv
  simp only [Bool.and_eq_true, Nat.beq_eq] at hc
  obtain ⟨⟨⟨⟨k1, k2⟩, k3⟩, k4⟩, k6⟩ := hc
  subst k1 k2 k3
  rw [getQ_eq, rowEq_eq k6] at hg
  obtain rfl : args = cuArgs b s := by
    rw [← Array.toList_inj, ha]
    have : a = #[.int .i64 (.ofNat 4), .slice (some ⟨b, 0, none⟩) (linkN 4) (linkN 4)] := by rw [← Array.toList_inj, ha2]
    rw [this]; rfl
  exact cu_ok k4 hg

/-! ### Safe -/
def sfArgs (N b F : Nat) : Array Value := #[gV N b, .int .i64 (.ofNat F)]
theorem sf_2 (e : TypeId) (g : Bool) : (List.range 2).map (fun F => ((evC Tryz.prog oCu 3000).call 47 (sfArgs 2 1 F) (rowHeap (linksOf 2) e g)).map (·.1)) = (List.range 2).map fun _ => some (.bool true) := by kernel_rfl
theorem sf_3 (e : TypeId) (g : Bool) : (List.range 3).map (fun F => ((evC Tryz.prog oCu 3000).call 47 (sfArgs 3 1 F) (rowHeap (linksOf 3) e g)).map (·.1)) = (List.range 3).map fun _ => some (.bool true) := by kernel_rfl
theorem sf_4 (e : TypeId) (g : Bool) : (List.range 3).map (fun F => ((evC Tryz.prog oCu 3000).call 47 (sfArgs 4 1 F) (rowHeap (linksOf 4) e g)).map (·.1)) = (List.range 3).map fun _ => some (.bool true) := by kernel_rfl
def fOf (N : Nat) : Nat := match N with | 2 => 2 | _ => 3
theorem sf_ok {e : TypeId} {ro g : Bool} {N b F : Nat} {h : AHeap} (hN : N = 2 ∨ N = 3 ∨ N = 4) (hF : F < fOf N) (hb : h.get b = some (.cells (linksOf N) e ro g)) : CallOk Tryz.prog 47 (sfArgs N b F) h (.bool true) h := by
  refine CallOk.ofRows oCu_ok globals_one (fu := 3000) (b := b) ?_ hb (links_plain hN) rfl ?_
  · simp [sfArgs, gV, rowV, rowV1, pv1]
  · have e1 : ((sfArgs N b F).toList.map renV).toArray = sfArgs N 1 F := rfl
    rw [e1]
    rcases hN with rfl | rfl | rfl
    · exact List.map_inj_left.1 (sf_2 e g) F (List.mem_range.2 hF)
    · exact List.map_inj_left.1 (sf_3 e g) F (List.mem_range.2 hF)
    · exact List.map_inj_left.1 (sf_4 e g) F (List.mem_range.2 hF)
noncomputable def oSf : Oracle := fun f args h =>
  if f = 47 then
    match args.toList with
    | [.agg a, .int .i64 (.ofNat F)] => (match a.toList with
      | [.int .i64 (.ofNat N), .slice (some ⟨b, 0, none⟩) n k] =>
        (match getQ h.tr b with
        | some (.cells c _ _ _) => (match small N && Nat.beq n (linkN N) && Nat.beq k (linkN N) && Nat.blt F (fOf N) && rowEq c (linksOf N) with | true => some (.bool true, h) | false => none)
        | _ => none)
      | _ => none)
    | _ => none
  else oCu f args h
theorem oSf_ok : OracleOk Tryz.prog oSf := fun f args h v h' hv => by
  unfold oSf at hv
  split at hv
  case isFalse => exact oCu_ok f args h v h' hv
  rename_i hf
  subst hf
  split at hv
  case h_2 => cases hv
  rename_i a F ha
  split at hv
  case h_2 => cases hv
  rename_i N b n k ha2
  split at hv
  case h_2 => cases hv
  rename_i c e ro g hg
  split at hv
  case h_2 => cases hv
  rename_i hc
  cases hv
  simp only [Bool.and_eq_true, Nat.beq_eq, Nat.blt_eq] at hc
  obtain ⟨⟨⟨⟨k1, k2⟩, k3⟩, k4⟩, k6⟩ := hc
  subst k2 k3
  rw [getQ_eq, rowEq_eq k6] at hg
  obtain rfl : args = sfArgs N b F := by
    rw [← Array.toList_inj, ha]
    have : a = #[.int .i64 (.ofNat N), .slice (some ⟨b, 0, none⟩) (linkN N) (linkN N)] := by rw [← Array.toList_inj, ha2]
    rw [this]; rfl
  exact sf_ok (small_is k1) k4 hg
end Go.Ev
