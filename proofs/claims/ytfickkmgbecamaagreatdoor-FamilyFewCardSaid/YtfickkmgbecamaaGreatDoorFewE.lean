/- FamilyFew: a round of the first loop, whatever the state. -/
import Derived.Test.YtfickkmgbecamaaGreatDoorFewR0
import Derived.Test.YtfickkmgbecamaaGreatDoorFewR1
import Derived.Test.YtfickkmgbecamaaGreatDoorFewR2
import Derived.Test.YtfickkmgbecamaaGreatDoorFewR3
import Derived.Test.YtfickkmgbecamaaGreatDoorFewR4
import Derived.Test.YtfickkmgbecamaaGreatDoorFewR5
import Derived.Test.YtfickkmgbecamaaGreatDoorFewD
namespace Go.Ev
open Go.Proofs Tree
set_option maxRecDepth 100000

theorem few_row_2 (db : List Value) (e0 e1 : TypeId) (bs : List Value) (c : Nums) (D Fy s0 s1 s2 s3 : Int) (n : Nat) (al : List Value) (L cap i : Nat) (x : Int) (i0 kd : Nat) (h0 : i0 < 2) (hk : kd < 8) :
    (treeFew true ⟨db, e0, e1, bs, 2, c, L, cap⟩ ⟨D, Fy, s0, s1, s2, s3, (.row n al)⟩ i x i0 kd).map viewF = roundT true ⟨db, e0, e1, bs, 2, c, L, cap⟩ ⟨D, Fy, s0, s1, s2, s3, (.row n al)⟩ i x i0 kd := by
  obtain ⟨F, dmin, dmax, rho, slew, rnd, win, att, seen, hist, fly, body⟩ := c
  rcases (by omega : i0 = 0 ∨ i0 = 1) with rfl | rfl
  · rcases (by omega : kd = 0 ∨ kd = 1 ∨ kd = 2 ∨ kd = 3 ∨ kd = 4 ∨ kd = 5 ∨ kd = 6 ∨ kd = 7) with rfl | rfl | rfl | rfl | rfl | rfl | rfl | rfl
    · exact few1_2_0_0 ..
    · exact few1_2_0_1 ..
    · exact few1_2_0_2 ..
    · exact few1_2_0_3 ..
    · exact few1_2_0_4 ..
    · exact few1_2_0_5 ..
    · exact few1_2_0_6 ..
    · exact few1_2_0_7 ..
  · rcases (by omega : kd = 0 ∨ kd = 1 ∨ kd = 2 ∨ kd = 3 ∨ kd = 4 ∨ kd = 5 ∨ kd = 6 ∨ kd = 7) with rfl | rfl | rfl | rfl | rfl | rfl | rfl | rfl
    · exact few1_2_1_0 ..
    · exact few1_2_1_1 ..
    · exact few1_2_1_2 ..
    · exact few1_2_1_3 ..
    · exact few1_2_1_4 ..
    · exact few1_2_1_5 ..
    · exact few1_2_1_6 ..
    · exact few1_2_1_7 ..
theorem few_row_3 (db : List Value) (e0 e1 : TypeId) (bs : List Value) (c : Nums) (D Fy s0 s1 s2 s3 : Int) (n : Nat) (al : List Value) (L cap i : Nat) (x : Int) (i0 kd : Nat) (h0 : i0 < 3) (hk : kd < 8) :
    (treeFew true ⟨db, e0, e1, bs, 3, c, L, cap⟩ ⟨D, Fy, s0, s1, s2, s3, (.row n al)⟩ i x i0 kd).map viewF = roundT true ⟨db, e0, e1, bs, 3, c, L, cap⟩ ⟨D, Fy, s0, s1, s2, s3, (.row n al)⟩ i x i0 kd := by
  obtain ⟨F, dmin, dmax, rho, slew, rnd, win, att, seen, hist, fly, body⟩ := c
  rcases (by omega : i0 = 0 ∨ i0 = 1 ∨ i0 = 2) with rfl | rfl | rfl
  · rcases (by omega : kd = 0 ∨ kd = 1 ∨ kd = 2 ∨ kd = 3 ∨ kd = 4 ∨ kd = 5 ∨ kd = 6 ∨ kd = 7) with rfl | rfl | rfl | rfl | rfl | rfl | rfl | rfl
    · exact few1_3_0_0 ..
    · exact few1_3_0_1 ..
    · exact few1_3_0_2 ..
    · exact few1_3_0_3 ..
    · exact few1_3_0_4 ..
    · exact few1_3_0_5 ..
    · exact few1_3_0_6 ..
    · exact few1_3_0_7 ..
  · rcases (by omega : kd = 0 ∨ kd = 1 ∨ kd = 2 ∨ kd = 3 ∨ kd = 4 ∨ kd = 5 ∨ kd = 6 ∨ kd = 7) with rfl | rfl | rfl | rfl | rfl | rfl | rfl | rfl
    · exact few1_3_1_0 ..
    · exact few1_3_1_1 ..
    · exact few1_3_1_2 ..
    · exact few1_3_1_3 ..
    · exact few1_3_1_4 ..
    · exact few1_3_1_5 ..
    · exact few1_3_1_6 ..
    · exact few1_3_1_7 ..
  · rcases (by omega : kd = 0 ∨ kd = 1 ∨ kd = 2 ∨ kd = 3 ∨ kd = 4 ∨ kd = 5 ∨ kd = 6 ∨ kd = 7) with rfl | rfl | rfl | rfl | rfl | rfl | rfl | rfl
    · exact few1_3_2_0 ..
    · exact few1_3_2_1 ..
    · exact few1_3_2_2 ..
    · exact few1_3_2_3 ..
    · exact few1_3_2_4 ..
    · exact few1_3_2_5 ..
    · exact few1_3_2_6 ..
    · exact few1_3_2_7 ..
theorem few_row_4 (db : List Value) (e0 e1 : TypeId) (bs : List Value) (c : Nums) (D Fy s0 s1 s2 s3 : Int) (n : Nat) (al : List Value) (L cap i : Nat) (x : Int) (i0 kd : Nat) (h0 : i0 < 4) (hk : kd < 8) :
    (treeFew true ⟨db, e0, e1, bs, 4, c, L, cap⟩ ⟨D, Fy, s0, s1, s2, s3, (.row n al)⟩ i x i0 kd).map viewF = roundT true ⟨db, e0, e1, bs, 4, c, L, cap⟩ ⟨D, Fy, s0, s1, s2, s3, (.row n al)⟩ i x i0 kd := by
  obtain ⟨F, dmin, dmax, rho, slew, rnd, win, att, seen, hist, fly, body⟩ := c
  rcases (by omega : i0 = 0 ∨ i0 = 1 ∨ i0 = 2 ∨ i0 = 3) with rfl | rfl | rfl | rfl
  · rcases (by omega : kd = 0 ∨ kd = 1 ∨ kd = 2 ∨ kd = 3 ∨ kd = 4 ∨ kd = 5 ∨ kd = 6 ∨ kd = 7) with rfl | rfl | rfl | rfl | rfl | rfl | rfl | rfl
    · exact few1_4_0_0 ..
    · exact few1_4_0_1 ..
    · exact few1_4_0_2 ..
    · exact few1_4_0_3 ..
    · exact few1_4_0_4 ..
    · exact few1_4_0_5 ..
    · exact few1_4_0_6 ..
    · exact few1_4_0_7 ..
  · rcases (by omega : kd = 0 ∨ kd = 1 ∨ kd = 2 ∨ kd = 3 ∨ kd = 4 ∨ kd = 5 ∨ kd = 6 ∨ kd = 7) with rfl | rfl | rfl | rfl | rfl | rfl | rfl | rfl
    · exact few1_4_1_0 ..
    · exact few1_4_1_1 ..
    · exact few1_4_1_2 ..
    · exact few1_4_1_3 ..
    · exact few1_4_1_4 ..
    · exact few1_4_1_5 ..
    · exact few1_4_1_6 ..
    · exact few1_4_1_7 ..
  · rcases (by omega : kd = 0 ∨ kd = 1 ∨ kd = 2 ∨ kd = 3 ∨ kd = 4 ∨ kd = 5 ∨ kd = 6 ∨ kd = 7) with rfl | rfl | rfl | rfl | rfl | rfl | rfl | rfl
    · exact few1_4_2_0 ..
    · exact few1_4_2_1 ..
    · exact few1_4_2_2 ..
    · exact few1_4_2_3 ..
    · exact few1_4_2_4 ..
    · exact few1_4_2_5 ..
    · exact few1_4_2_6 ..
    · exact few1_4_2_7 ..
  · rcases (by omega : kd = 0 ∨ kd = 1 ∨ kd = 2 ∨ kd = 3 ∨ kd = 4 ∨ kd = 5 ∨ kd = 6 ∨ kd = 7) with rfl | rfl | rfl | rfl | rfl | rfl | rfl | rfl
    · exact few1_4_3_0 ..
    · exact few1_4_3_1 ..
    · exact few1_4_3_2 ..
    · exact few1_4_3_3 ..
    · exact few1_4_3_4 ..
    · exact few1_4_3_5 ..
    · exact few1_4_3_6 ..
    · exact few1_4_3_7 ..
theorem few_nil_2 (db : List Value) (e0 e1 : TypeId) (bs : List Value) (c : Nums) (D Fy s0 s1 s2 s3 : Int) (L cap i : Nat) (x : Int) (i0 kd : Nat) (h0 : i0 < 2) (hk : kd < 8) :
    (treeFew false ⟨db, e0, e1, bs, 2, c, L, cap⟩ ⟨D, Fy, s0, s1, s2, s3, .nil⟩ i x i0 kd).map viewF = roundT false ⟨db, e0, e1, bs, 2, c, L, cap⟩ ⟨D, Fy, s0, s1, s2, s3, .nil⟩ i x i0 kd := by
  obtain ⟨F, dmin, dmax, rho, slew, rnd, win, att, seen, hist, fly, body⟩ := c
  rcases (by omega : i0 = 0 ∨ i0 = 1) with rfl | rfl
  · rcases (by omega : kd = 0 ∨ kd = 1 ∨ kd = 2 ∨ kd = 3 ∨ kd = 4 ∨ kd = 5 ∨ kd = 6 ∨ kd = 7) with rfl | rfl | rfl | rfl | rfl | rfl | rfl | rfl
    · exact few0_2_0_0 ..
    · exact few0_2_0_1 ..
    · exact few0_2_0_2 ..
    · exact few0_2_0_3 ..
    · exact few0_2_0_4 ..
    · exact few0_2_0_5 ..
    · exact few0_2_0_6 ..
    · exact few0_2_0_7 ..
  · rcases (by omega : kd = 0 ∨ kd = 1 ∨ kd = 2 ∨ kd = 3 ∨ kd = 4 ∨ kd = 5 ∨ kd = 6 ∨ kd = 7) with rfl | rfl | rfl | rfl | rfl | rfl | rfl | rfl
    · exact few0_2_1_0 ..
    · exact few0_2_1_1 ..
    · exact few0_2_1_2 ..
    · exact few0_2_1_3 ..
    · exact few0_2_1_4 ..
    · exact few0_2_1_5 ..
    · exact few0_2_1_6 ..
    · exact few0_2_1_7 ..
theorem few_nil_3 (db : List Value) (e0 e1 : TypeId) (bs : List Value) (c : Nums) (D Fy s0 s1 s2 s3 : Int) (L cap i : Nat) (x : Int) (i0 kd : Nat) (h0 : i0 < 3) (hk : kd < 8) :
    (treeFew false ⟨db, e0, e1, bs, 3, c, L, cap⟩ ⟨D, Fy, s0, s1, s2, s3, .nil⟩ i x i0 kd).map viewF = roundT false ⟨db, e0, e1, bs, 3, c, L, cap⟩ ⟨D, Fy, s0, s1, s2, s3, .nil⟩ i x i0 kd := by
  obtain ⟨F, dmin, dmax, rho, slew, rnd, win, att, seen, hist, fly, body⟩ := c
  rcases (by omega : i0 = 0 ∨ i0 = 1 ∨ i0 = 2) with rfl | rfl | rfl
  · rcases (by omega : kd = 0 ∨ kd = 1 ∨ kd = 2 ∨ kd = 3 ∨ kd = 4 ∨ kd = 5 ∨ kd = 6 ∨ kd = 7) with rfl | rfl | rfl | rfl | rfl | rfl | rfl | rfl
    · exact few0_3_0_0 ..
    · exact few0_3_0_1 ..
    · exact few0_3_0_2 ..
    · exact few0_3_0_3 ..
    · exact few0_3_0_4 ..
    · exact few0_3_0_5 ..
    · exact few0_3_0_6 ..
    · exact few0_3_0_7 ..
  · rcases (by omega : kd = 0 ∨ kd = 1 ∨ kd = 2 ∨ kd = 3 ∨ kd = 4 ∨ kd = 5 ∨ kd = 6 ∨ kd = 7) with rfl | rfl | rfl | rfl | rfl | rfl | rfl | rfl
    · exact few0_3_1_0 ..
    · exact few0_3_1_1 ..
    · exact few0_3_1_2 ..
    · exact few0_3_1_3 ..
    · exact few0_3_1_4 ..
    · exact few0_3_1_5 ..
    · exact few0_3_1_6 ..
    · exact few0_3_1_7 ..
  · rcases (by omega : kd = 0 ∨ kd = 1 ∨ kd = 2 ∨ kd = 3 ∨ kd = 4 ∨ kd = 5 ∨ kd = 6 ∨ kd = 7) with rfl | rfl | rfl | rfl | rfl | rfl | rfl | rfl
    · exact few0_3_2_0 ..
    · exact few0_3_2_1 ..
    · exact few0_3_2_2 ..
    · exact few0_3_2_3 ..
    · exact few0_3_2_4 ..
    · exact few0_3_2_5 ..
    · exact few0_3_2_6 ..
    · exact few0_3_2_7 ..
theorem few_nil_4 (db : List Value) (e0 e1 : TypeId) (bs : List Value) (c : Nums) (D Fy s0 s1 s2 s3 : Int) (L cap i : Nat) (x : Int) (i0 kd : Nat) (h0 : i0 < 4) (hk : kd < 8) :
    (treeFew false ⟨db, e0, e1, bs, 4, c, L, cap⟩ ⟨D, Fy, s0, s1, s2, s3, .nil⟩ i x i0 kd).map viewF = roundT false ⟨db, e0, e1, bs, 4, c, L, cap⟩ ⟨D, Fy, s0, s1, s2, s3, .nil⟩ i x i0 kd := by
  obtain ⟨F, dmin, dmax, rho, slew, rnd, win, att, seen, hist, fly, body⟩ := c
  rcases (by omega : i0 = 0 ∨ i0 = 1 ∨ i0 = 2 ∨ i0 = 3) with rfl | rfl | rfl | rfl
  · rcases (by omega : kd = 0 ∨ kd = 1 ∨ kd = 2 ∨ kd = 3 ∨ kd = 4 ∨ kd = 5 ∨ kd = 6 ∨ kd = 7) with rfl | rfl | rfl | rfl | rfl | rfl | rfl | rfl
    · exact few0_4_0_0 ..
    · exact few0_4_0_1 ..
    · exact few0_4_0_2 ..
    · exact few0_4_0_3 ..
    · exact few0_4_0_4 ..
    · exact few0_4_0_5 ..
    · exact few0_4_0_6 ..
    · exact few0_4_0_7 ..
  · rcases (by omega : kd = 0 ∨ kd = 1 ∨ kd = 2 ∨ kd = 3 ∨ kd = 4 ∨ kd = 5 ∨ kd = 6 ∨ kd = 7) with rfl | rfl | rfl | rfl | rfl | rfl | rfl | rfl
    · exact few0_4_1_0 ..
    · exact few0_4_1_1 ..
    · exact few0_4_1_2 ..
    · exact few0_4_1_3 ..
    · exact few0_4_1_4 ..
    · exact few0_4_1_5 ..
    · exact few0_4_1_6 ..
    · exact few0_4_1_7 ..
  · rcases (by omega : kd = 0 ∨ kd = 1 ∨ kd = 2 ∨ kd = 3 ∨ kd = 4 ∨ kd = 5 ∨ kd = 6 ∨ kd = 7) with rfl | rfl | rfl | rfl | rfl | rfl | rfl | rfl
    · exact few0_4_2_0 ..
    · exact few0_4_2_1 ..
    · exact few0_4_2_2 ..
    · exact few0_4_2_3 ..
    · exact few0_4_2_4 ..
    · exact few0_4_2_5 ..
    · exact few0_4_2_6 ..
    · exact few0_4_2_7 ..
  · rcases (by omega : kd = 0 ∨ kd = 1 ∨ kd = 2 ∨ kd = 3 ∨ kd = 4 ∨ kd = 5 ∨ kd = 6 ∨ kd = 7) with rfl | rfl | rfl | rfl | rfl | rfl | rfl | rfl
    · exact few0_4_3_0 ..
    · exact few0_4_3_1 ..
    · exact few0_4_3_2 ..
    · exact few0_4_3_3 ..
    · exact few0_4_3_4 ..
    · exact few0_4_3_5 ..
    · exact few0_4_3_6 ..
    · exact few0_4_3_7 ..

def Acts.isRow : Acts → Bool
  | .nil => false
  | .row _ _ => true

theorem few_all (q : Fix) (s : St) (i : Nat) (x : Int) (i0 kd : Nat) (hN : q.N = 2 ∨ q.N = 3 ∨ q.N = 4) (h0 : i0 < q.N) (hk : kd < 8) : (treeFew s.A.isRow q s i x i0 kd).map viewF = roundT s.A.isRow q s i x i0 kd := by
  obtain ⟨db, e0, e1, bs, N, c, L, cap⟩ := q
  obtain ⟨D, Fy, s0, s1, s2, s3, A⟩ := s
  simp only at hN h0
  cases A with
  | nil => rcases hN with rfl | rfl | rfl
           · exact few_nil_2 (h0 := h0) (hk := hk) ..
           · exact few_nil_3 (h0 := h0) (hk := hk) ..
           · exact few_nil_4 (h0 := h0) (hk := hk) ..
  | row n al => rcases hN with rfl | rfl | rfl
                · exact few_row_2 (h0 := h0) (hk := hk) ..
                · exact few_row_3 (h0 := h0) (hk := hk) ..
                · exact few_row_4 (h0 := h0) (hk := hk) ..
end Go.Ev
