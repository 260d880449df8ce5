/- The document's Of and List, of sets of few of eight nodes, as answers laid by hand. -/
import Derived.Test.YtfickkmgbecamaaDoorSetsA
namespace Go.Ev
open Go.Proofs
set_option maxRecDepth 1000000

theorem of_table0 : (List.range 32).all (fun j => ofOk (0 + j)) = true := by kernel_rfl
theorem of_table1 : (List.range 32).all (fun j => ofOk (32 + j)) = true := by kernel_rfl
theorem of_table2 : (List.range 32).all (fun j => ofOk (64 + j)) = true := by kernel_rfl
theorem of_table3 : (List.range 32).all (fun j => ofOk (96 + j)) = true := by kernel_rfl
theorem of_table4 : (List.range 32).all (fun j => ofOk (128 + j)) = true := by kernel_rfl
theorem of_table5 : (List.range 32).all (fun j => ofOk (160 + j)) = true := by kernel_rfl
theorem of_table6 : (List.range 32).all (fun j => ofOk (192 + j)) = true := by kernel_rfl
theorem of_table7 : (List.range 32).all (fun j => ofOk (224 + j)) = true := by kernel_rfl

theorem of_table (s : Nat) (hs : s < 256) : ofOk s = true := by
  have pick : ∀ q, (List.range 32).all (fun j => ofOk (q + j)) = true → q ≤ s → s < q + 32 → ofOk s = true := fun q h h1 h2 => by
    have := List.all_eq_true.1 h (s - q) (List.mem_range.2 (by omega))
    rw [show q + (s - q) = s by omega] at this
    exact this
  by_cases h0 : s < 32
  · exact pick 0 of_table0 (by omega) (by omega)
  by_cases h1 : s < 64
  · exact pick 32 of_table1 (by omega) (by omega)
  by_cases h2 : s < 96
  · exact pick 64 of_table2 (by omega) (by omega)
  by_cases h3 : s < 128
  · exact pick 96 of_table3 (by omega) (by omega)
  by_cases h4 : s < 160
  · exact pick 128 of_table4 (by omega) (by omega)
  by_cases h5 : s < 192
  · exact pick 160 of_table5 (by omega) (by omega)
  by_cases h6 : s < 224
  · exact pick 192 of_table6 (by omega) (by omega)
  · exact pick 224 of_table7 (by omega) (by omega)

theorem of_ok {s : Nat} (hs : s < 256) {h : AHeap} {b : Nat} {ro : Bool} (hl : len14 (bitsOf s).length = true) (hb : h.get b = some (.cells (cellsI (bitsOf s)) 3 ro true)) :
    CallOk Tryd.prog 56 #[.slice (some ⟨b, 0, none⟩) (bitsOf s).length (bitsOf s).length] h (.int .u64 (.ofNat s)) h := by
  have ht := of_table s hs
  unfold ofOk at ht
  rw [hl] at ht
  simp only at ht
  split at ht
  · rename_i k x h' hx
    split at ht
    · rename_i hk
      have hk' := (kindEq_iff _ _).1 hk
      subst hk'
      rw [eqI_eq] at ht
      have hx' : x = .ofNat s := by simpa using ht
      subst hx'
      exact (evC_call oIn_ok hx).pure rfl (rowHeap_ro _ _ _) (fun μ w args' hR hT hA => row_start globals_one (more := []) rfl hb (cellsI_plain _) μ w args' hR hT (by simpa using hA))
    · cases ht
  · cases ht

noncomputable def oOf : Oracle := fun f args h =>
  if f = 56 then
    match args.toList with
    | [.slice (some ⟨b, 0, none⟩) n k] => (match rowOf h b n k with
      | some xs => (match Nat.blt (keyOf xs) 256 with
        | true => (match rowEq (cellsI xs) (cellsI (bitsOf (keyOf xs))) with | true => some (.int .u64 (.ofNat (keyOf xs)), h) | false => none)
        | false => none)
      | none => none)
    | _ => none
  else oIn f args h

theorem cellsI_inj : ∀ {a b : List Int}, cellsI a = cellsI b → a = b
  | [], [], _ => rfl
  | [], _ :: _, h => by cases h
  | _ :: _, [], h => by cases h
  | x :: a, y :: b, h => by
    simp only [cellsI, List.map_cons, List.cons.injEq, Value.int.injEq, true_and] at h
    rw [h.1, cellsI_inj (a := a) (b := b) h.2]

theorem oOf_ok : OracleOk Tryd.prog oOf := fun f args h v h' hv => by
  unfold oOf at hv
  split at hv
  case isFalse => exact oIn_ok f args h v h' hv
  rename_i hf
  subst hf
  split at hv
  case h_2 => cases hv
  rename_i b n k ha
  split at hv
  case h_2 => cases hv
  rename_i xs hr
  split at hv
  case h_2 => cases hv
  rename_i hlt
  split at hv
  case h_2 => cases hv
  rename_i hre
  cases hv
  obtain ⟨⟨ro, hb⟩, hl, rfl, rfl⟩ := rowOf_eq hr
  have hx := cellsI_inj (rowEq_eq hre)
  obtain rfl : args = #[.slice (some ⟨b, 0, none⟩) xs.length xs.length] := by rw [← Array.toList_inj, ha]
  have hlen : len14 (bitsOf (keyOf xs)).length = true := by rw [← hx]; rcases hl with h | h | h | h <;> rw [h] <;> rfl
  rw [hx] at hb
  have := of_ok (by rw [← Nat.blt_eq]; exact hlt) hlen hb
  rw [← hx] at this
  exact this

/-! ### List -/
def len03 (n : Nat) : Bool := match n with | 0 | 1 | 2 | 3 => true | _ => false
def grownOf (n : Nat) : Bool := match n with | 0 => false | _ + 1 => true

noncomputable def listOk (s : Nat) : Bool :=
  match len03 (bitsOf s).length with
  | false => true
  | true => match (evC Tryd.prog oHas 200).call 31 #[.int .u64 (.ofNat s)] (bare 1) with
    | some (.slice (some ⟨b, 0, none⟩) n k, h) => (match Nat.beq n (bitsOf s).length && Nat.beq k (bitsOf s).length with
      | true => (match getQ h.tr b with
        | some (.cells c e false g) => (match Nat.beq e 3 && (g == grownOf (bitsOf s).length) with | true => rowEq c (cellsI (bitsOf s)) | false => false)
        | _ => false)
      | false => false)
    | _ => false

theorem list_table0 : (List.range 32).all (fun j => listOk (0 + j)) = true := by kernel_rfl
theorem list_table1 : (List.range 32).all (fun j => listOk (32 + j)) = true := by kernel_rfl
theorem list_table2 : (List.range 32).all (fun j => listOk (64 + j)) = true := by kernel_rfl
theorem list_table3 : (List.range 32).all (fun j => listOk (96 + j)) = true := by kernel_rfl

theorem list_table (s : Nat) (hs : s < 128) : listOk s = true := by
  have pick : ∀ q, (List.range 32).all (fun j => listOk (q + j)) = true → q ≤ s → s < q + 32 → listOk s = true := fun q h h1 h2 => by
    have := List.all_eq_true.1 h (s - q) (List.mem_range.2 (by omega))
    rw [show q + (s - q) = s by omega] at this
    exact this
  by_cases h0 : s < 32
  · exact pick 0 list_table0 (by omega) (by omega)
  by_cases h1 : s < 64
  · exact pick 32 list_table1 (by omega) (by omega)
  by_cases h2 : s < 96
  · exact pick 64 list_table2 (by omega) (by omega)
  · exact pick 96 list_table3 (by omega) (by omega)

theorem list_ok {s : Nat} (hs : s < 128) (hl : len03 (bitsOf s).length = true) (h : AHeap) :
    CallOk Tryd.prog 31 #[.int .u64 (.ofNat s)] h (.slice (some ⟨h.next, 0, none⟩) (bitsOf s).length (bitsOf s).length) ⟨h.tr.set h.next (.cells (cellsI (bitsOf s)) 3 false (grownOf (bitsOf s).length)), h.next + 1⟩ := by
  have ht := list_table s hs
  unfold listOk at ht
  rw [hl] at ht
  simp only at ht
  split at ht
  case h_2 => cases ht
  rename_i b n k h' hx
  split at ht
  case h_2 => cases ht
  rename_i hnk
  split at ht
  case h_2 => cases ht
  rename_i c e g hg
  split at ht
  case h_2 => cases ht
  rename_i heg
  simp only [Bool.and_eq_true, Nat.beq_eq] at hnk heg
  obtain ⟨rfl, rfl⟩ := hnk
  obtain ⟨rfl, hg2⟩ := heg
  have hg3 : g = grownOf (bitsOf s).length := by simpa using hg2
  subst hg3
  rw [getQ_eq, rowEq_eq ht] at hg
  exact (evC_call oHas_ok hx).fresh hg (cellsI_plain _) (bare_ro _) (fun μ w args' hR hT hA => by
    have := bare_start (P := Tryd.prog) (args := #[.int .u64 (.ofNat s)]) rfl μ w args' hR hT hA
    rw [globals_one] at this
    exact this)

noncomputable def oList : Oracle := fun f args h =>
  if f = 31 then
    match args.toList with
    | [.int .u64 (.ofNat s)] => (match Nat.blt s 128 && len03 (bitsOf s).length with
      | true => some (.slice (some ⟨h.next, 0, none⟩) (bitsOf s).length (bitsOf s).length, ⟨h.tr.set h.next (.cells (cellsI (bitsOf s)) 3 false (grownOf (bitsOf s).length)), h.next + 1⟩)
      | false => none)
    | _ => none
  else oOf f args h

theorem oList_ok : OracleOk Tryd.prog oList := fun f args h v h' hv => by
  unfold oList at hv
  split at hv
  case isFalse => exact oOf_ok f args h v h' hv
  rename_i hf
  subst hf
  split at hv
  case h_2 => cases hv
  rename_i s ha
  split at hv
  case h_2 => cases hv
  rename_i hc
  cases hv
  simp only [Bool.and_eq_true] at hc
  obtain rfl : args = #[.int .u64 (.ofNat s)] := by rw [← Array.toList_inj, ha]
  exact list_ok (by rw [← Nat.blt_eq]; exact hc.1) hc.2 h

end Go.Ev
