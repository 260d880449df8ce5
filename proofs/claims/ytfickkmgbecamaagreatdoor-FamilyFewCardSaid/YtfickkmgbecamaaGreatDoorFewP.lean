/- An answer laid by hand: what is suggested of the small clusters. -/
import Derived.Test.YtfickkmgbecamaaGreatDoorFewTa
import Derived.Test.YtfickkmgbecamaaGreatDoorFewTb
import Derived.Test.YtfickkmgbecamaaGreatDoorEv6
namespace Go.Ev
open Go.Proofs Tree
set_option maxRecDepth 1000000

theorem sg_ok {e : TypeId} {ro g : Bool} {N b d r : Nat} {F : Int} {h : AHeap} (hN : N = 2 ∨ N = 3 ∨ N = 4) (hd : d = 1 ∨ d = 2) (hr : r = 0 ∨ r = 1) (hb : h.get b = some (.cells (linksOf N) e ro g)) : CallOk Tryz.prog 32 (sgArgs N b F d r) h (sgAns N b F d r) h := by
  refine CallOk.ofRowsR oSf_ok globals_one (fu := 3000) (b := b) ?_ hb (links_plain hN) ?_ ?_
  · simp [sgArgs, cfgV, rowV, rowV1, pv1]
  · simp [sgAns, cfgV, okT, okR, okR1, pv1]
  · have e1 : ((sgArgs N b F d r).toList.map renV).toArray = sgArgs N 1 F d r := rfl
    have e2 : renT (fun _ => 1) (sgAns N b F d r) = sgAns N 1 F d r := rfl
    rw [e1, e2]
    rcases hN with rfl | rfl | rfl <;> rcases hd with rfl | rfl <;> rcases hr with rfl | rfl
    · exact sg_210 e g F
    · exact sg_211 e g F
    · exact sg_220 e g F
    · exact sg_221 e g F
    · exact sg_310 e g F
    · exact sg_311 e g F
    · exact sg_320 e g F
    · exact sg_321 e g F
    · exact sg_410 e g F
    · exact sg_411 e g F
    · exact sg_420 e g F
    · exact sg_421 e g F
def dr (d r : Nat) : Bool := (Nat.beq d 1 || Nat.beq d 2) && (Nat.beq r 0 || Nat.beq r 1)
noncomputable def oSg : Oracle := fun f args h =>
  if f = 32 then
    match args.toList with
    | [.agg a] => (match a.toList with
      | [.int .i64 (.ofNat N), .slice (some ⟨b, 0, none⟩) n k, .int .i64 F, .int .i64 (.ofNat 1), .int .i64 (.ofNat d), .int .i64 (.ofNat r), .int .i64 (.ofNat 64), .int .i64 (.ofNat 0), .int .i64 (.ofNat 0), .int .i64 (.ofNat 0), .int .i64 (.ofNat x1), .int .i64 (.ofNat x2), .int .i64 (.ofNat x3), .int .i64 (.ofNat 64), .int .i64 (.ofNat 64)] =>
        (match getQ h.tr b with
        | some (.cells c _ _ _) => (match small N && Nat.beq n (linkN N) && Nat.beq k (linkN N) && dr d r && Nat.beq x1 4096 && Nat.beq x2 4096 && Nat.beq x3 65536 && rowEq c (linksOf N) with | true => some (sgAns N b F d r, h) | false => none)
        | _ => none)
      | _ => none)
    | _ => none
  else oSf f args h
theorem oSg_ok : OracleOk Tryz.prog oSg := fun f args h v h' hv => by
  unfold oSg at hv
  split at hv
  case isFalse => exact oSf_ok f args h v h' hv
  rename_i hf
  subst hf
  split at hv
  case h_2 => cases hv
  rename_i a ha
  split at hv
  case h_2 => cases hv
  rename_i N b n k F d r x1 x2 x3 ha2
  split at hv
  case h_2 => cases hv
  rename_i c e ro g hg
  split at hv
  case h_2 => cases hv
  rename_i hc
  cases hv
  simp only [Bool.and_eq_true, Nat.beq_eq, dr, Bool.or_eq_true] at hc
  obtain ⟨⟨⟨⟨⟨⟨⟨k1, k2⟩, k3⟩, k4, k5⟩, k6⟩, k7⟩, k8⟩, k9⟩ := hc
  subst k2 k3 k6 k7 k8
  rw [getQ_eq, rowEq_eq k9] at hg
  obtain rfl : args = sgArgs N b F d r := by
    rw [← Array.toList_inj, ha]
    have : a = #[.int .i64 (.ofNat N), .slice (some ⟨b, 0, none⟩) (linkN N) (linkN N), .int .i64 F, .int .i64 1, .int .i64 (.ofNat d), .int .i64 (.ofNat r), .int .i64 64, .int .i64 0, .int .i64 0, .int .i64 0, .int .i64 4096, .int .i64 4096, .int .i64 65536, .int .i64 64, .int .i64 64] := by rw [← Array.toList_inj, ha2]; rfl
    rw [this]; rfl
  exact sg_ok (small_is k1) k4 k5 hg
end Go.Ev

/- FamilyFew: what stands ahead of its first loop: the small cluster, its maker. -/
namespace Go.Ev
open Go.Proofs Tree
set_option maxRecDepth 1000000

noncomputable def pre1 : Code := .seq (sq1 few) (.seq (sq1 (sq2 few)) (.seq (sq1 (sq2 (sq2 few))) (sq1 (sq1 (sq2 (sq2 (sq2 few)))))))

def kPre (r0 r1 r2 r3 : Nat) : Spl := fun f d =>
  match Nat.beq d plainMark with
  | true => (match f with | 5 => none | 6 => none | _ => some .bool)
  | false =>
    match f with
    | 5 => (match d with
      | 13 => some (.ints [.ofNat r0])
      | 22 => some (.ints [.ofNat r1])
      | 24 => some (.ints [.ofNat r2])
      | 28 => some (.ints [.ofNat r3])
      | _ => none)
    | _ => none
def hPre (e e1 : TypeId) (bs : List Value) : AHeap := heapOf 2 [(0, .cells db e true false), (1, .cells bs e1 true false)]
noncomputable def treePre (e e1 : TypeId) (bs : List Value) (a b c d : Int) (bv : Value) (r0 r1 r2 r3 : Nat) : Tree (Out × AAct × AHeap) :=
  (evM Tryz.prog (toT oSg) (kPre r0 r1 r2 r3) 3000).code 3 none pre1 ⟨envOf [(0, .agg #[.int .u8 a, .int .u8 b, .int .u8 c, .int .u8 d]), (1, bv)], 90, []⟩ (hPre e e1 bs)
def numsOf (N F r2 r3 : Nat) : Nums := ⟨.ofNat F, 1, .ofNat (1 + r2), .ofNat r3, 64, (spanOf N (1 + r2) r3).1, (spanOf N (1 + r2) r3).2.1, (spanOf N (1 + r2) r3).2.2, 4096, 4096, 65536, 64⟩
def preV (e e1 : TypeId) (bs : List Value) (bv : Value) (N : Nat) (c : Nums) (pc pl pm pg pn : Nat) : ViewG :=
  ⟨.normal, 90, [], [bv, .bool false, .pointer (some ⟨pc, 0, none⟩), .pointer (some ⟨pm, 0, none⟩), .int .i64 0].map some,
    [.cells db e true false, .cells bs e1 true false, .cells (cellsC (.ofNat N) (.slice (some ⟨pl, 0, none⟩) (linkN N) (linkN N)) c) 26 false false, .cells (linksOf N) 77 false true,
      .cells (cellsC (.ofNat N) (.slice none 0 0) c ++ (.pointer (some ⟨pg, 0, none⟩) :: .int .u64 0 :: .int .u64 0 :: .int .i64 0 :: .int .i64 0 :: .int .i64 0 :: .int .i64 0 :: zeros 60 [.slice none 0 0])) 53 false false,
      .cells [.slice (some ⟨pn, 0, none⟩) N N] 75 false false, .cells (nearOf N) 33 false false].map some⟩
def preT (a b c d : Int) (r0 mm r1 r2 r3 : Nat) (v : ViewG) : Tree ViewG :=
  .fork (eqI (a.tmod 3) (.ofNat r0)) (.fork (eqI ((IntKind.i64.wrap b).tmod (.ofNat mm)) (.ofNat r1)) (.fork (eqI (c.tmod 2) (.ofNat r2)) (.fork (eqI (d.tmod 2) (.ofNat r3)) (.leaf v) .no) .no) .no) .no
end Go.Ev
