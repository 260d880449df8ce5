/- FamilyFew: the whole function, by what stands ahead of its first loop. -/
import Derived.Test.YtfickkmgbecamaaGreatDoorFewK
import Derived.Test.YtfickkmgbecamaaGreatDoorFewP
namespace Go.Ev
open Go.Proofs Tree
set_option maxRecDepth 1000000

theorem few_eq : few = .seq (sq1 few) (.seq (sq1 (sq2 few)) (.seq (sq1 (sq2 (sq2 few))) (.seq (.seq (sq1 (sq1 (sq2 (sq2 (sq2 few))))) (.block 0 (.loop round1))) rest1))) := by kernel_rfl

def s00 : St := ⟨0, 0, 0, 0, 0, 0, .nil⟩
def eStart (bv : Value) : List (Nat × Value) := [(1, bv), (4, .bool false), (5, .pointer (some ⟨3, 0, none⟩)), (6, .pointer (some ⟨5, 0, none⟩)), (7, .int .i64 0)]

theorem good0 {q : Fix} (hF : 0 ≤ q.c.F) : Good q 0 s00 0 0 [] :=
  ⟨rfl, rfl, Nat.pos_of_ne_zero (by simp), rfl, by rw [cnt_zero]; exact hF, rfl, by simp, rfl, by simp⟩

theorem t_nilb (db : List Value) (e0 e1 : TypeId) (bs : List Value) (N : Nat) (c : Nums) (L cap : Nat) : ((evM Tryz.prog (toT oNone) (fun _ _ => none) 300).code 3 none round1 ⟨envOf (eStart (.slice none 0 0)), 90, []⟩ (heapF ⟨db, e0, e1, bs, N, c, L, cap⟩ s00)).map (viewG [5, 6] [0, 3, 5]) =
    .leaf ⟨.exit 0, 90, [], [Value.pointer (some ⟨3, 0, none⟩), .pointer (some ⟨5, 0, none⟩)].map some, [AObj.cells db e0 true false, .cells (cellsC (.ofNat N) (.slice (some ⟨4, 0, none⟩) (linkN N) (linkN N)) c) 26 false false, .cells (cellsM (.ofNat N) c 0 0 0 0 0 0 (.slice none 0 0)) 53 false false].map some⟩ := by kernel_rfl

theorem t_empb (db : List Value) (e0 e1 : TypeId) (bs : List Value) (N : Nat) (c : Nums) (L cap : Nat) : ((evM Tryz.prog (toT oNone) (fun _ _ => none) 300).code 3 none round1 ⟨envOf (eStart (.slice (some ⟨1, 0, some 0⟩) 0 0)), 90, []⟩ (heapF ⟨db, e0, e1, bs, N, c, L, cap⟩ s00)).map (viewG [5, 6] [0, 3, 5]) =
    .leaf ⟨.exit 0, 90, [], [Value.pointer (some ⟨3, 0, none⟩), .pointer (some ⟨5, 0, none⟩)].map some, [AObj.cells db e0 true false, .cells (cellsC (.ofNat N) (.slice (some ⟨4, 0, none⟩) (linkN N) (linkN N)) c) 26 false false, .cells (cellsM (.ofNat N) c 0 0 0 0 0 0 (.slice none 0 0)) 53 false false].map some⟩ := by kernel_rfl

theorem tri_one {q : Fix} {bv : Value} (hq : q.db = db) (hbs : q.bs.all pv1 = true) (hL : ∀ i, i < q.L → ∃ xn, q.bs[i]? = some (.int .u8 (.ofNat xn)) ∧ xn < 256) (hN : q.N = 2 ∨ q.N = 3 ∨ q.N = 4) (hF : 0 ≤ q.c.F) (hb : (bv = .slice none 0 0 ∨ bv = .slice (some ⟨1, 0, some 0⟩) 0 0) ∨ bv = .slice (some ⟨1, 0, none⟩) q.L q.cap) :
    Tri Tryz.prog (.block 0 (.loop round1)) ⟨envOf (eStart bv), 90, []⟩ (heapF q s00) fun o a h => o = .normal ∧ ∃ A al, AOf A al ∧ (∀ x ∈ al, x.Ok q.N) ∧ (play 0 al).isSome = true ∧ al.length < 100000 ∧ Sub Tryz.prog a h ⟨envOf eMid, 90, []⟩ (heapOf 9 (hMid db q.e0 (.ofNat q.N) A)) := by
  rcases hb with hb | rfl
  · obtain ⟨qdb, e0, e1, bs, N, c, L, cap⟩ := q
    simp only at hq
    subst hq
    refine Tri.block ?_
    refine Tri.conseq (Tri.loop (P := Tryz.prog) (St := Nat) (fun k => k) (fun _ a h => a = ⟨envOf (eStart bv), 90, []⟩ ∧ h = heapF ⟨db, e0, e1, bs, N, c, L, cap⟩ s00)
      (Q := fun o a' h' => o = .exit 0 ∧ Sub Tryz.prog a' h' ⟨envOf eMid, 90, []⟩ (heapOf 9 (hMid db e0 (.ofNat N) .nil))) (fun k a h ⟨ha, hh⟩ => ?_) 0 _ _ ⟨rfl, rfl⟩) (fun o a h ⟨ho, hs⟩ => ?_)
    · subst ha hh
      have hall : (((evM Tryz.prog (toT oNone) (fun _ _ => none) 300).code 3 none round1 ⟨envOf (eStart bv), 90, []⟩ (heapF ⟨db, e0, e1, bs, N, c, L, cap⟩ s00)).map (viewG [5, 6] [0, 3, 5])).All fun v => v = ⟨.exit 0, 90, [], [Value.pointer (some ⟨3, 0, none⟩), .pointer (some ⟨5, 0, none⟩)].map some, [AObj.cells db e0 true false, .cells (cellsC (.ofNat N) (.slice (some ⟨4, 0, none⟩) (linkN N) (linkN N)) c) 26 false false, .cells (cellsM (.ofNat N) c 0 0 0 0 0 0 (.slice none 0 0)) 53 false false].map some⟩ := by
        rcases hb with rfl | rfl
        · rw [t_nilb]; rfl
        · rw [t_empb]; rfl
      refine Tri.run oNone_okM (f := 3) (k := 300) (K := fun _ _ => none) rfl (Tree.All.mono (fun x hv => ?_) _ (All_map _ hall))
      obtain ⟨o, a', h'⟩ := x
      obtain ⟨ho, hr⟩ := Red.ofH (P := Tryz.prog) (next := 9) (E := eMid) (H := hMid db e0 (.ofNat N) .nil) (ρ := id) hv ⟨⟨rfl, rfl⟩, ⟨rfl, rfl⟩, trivial⟩
        ⟨⟨Nat.le_of_ble_eq_true rfl, rfl, rfl, rfl, jrs_pv1 db_plain⟩, ⟨Nat.le_of_ble_eq_true rfl, rfl, rfl, rfl, .inr ⟨rfl, rfl⟩, jrs_junks 14 rfl (by simp [oneCell])⟩, ⟨Nat.le_of_ble_eq_true rfl, rfl, rfl, rfl, jrs_drop 82 rfl rfl ⟨.inr ⟨rfl, rfl⟩, trivial⟩⟩, trivial⟩
        rfl (globs (by simp [hMid]) rfl)
      subst ho
      exact ⟨rfl, Sub.red hr⟩
    · subst ho
      simp only [if_true]
      exact ⟨trivial, .nil, [], rfl, by simp, rfl, by simp, hs⟩
  · refine Tri.conseq (tri_loop (by rw [hq]; exact db_plain) hbs hL hN (good0 hF)) fun o a h ⟨ho, i, s', d', f', al', hi, hc, hg, hs⟩ => ?_
    refine ⟨ho, s'.A, al', hg.acts, hg.ok, by rw [hg.play]; rfl, by have := hg.len; omega, hs.trans (sub_mid hq hg hc)⟩

/-- Where the blocks lie. -/
def rhoP (pc pl pm pg pn : Nat) : Nat → Nat := fun b => match b with | 3 => pc | 4 => pl | 5 => pm | 6 => pg | 7 => pn | b => b

theorem sub_pre {e e1 : TypeId} {bs : List Value} {bv : Value} {N : Nat} {c : Nums} {L cap pc pl pm pg pn : Nat} {o : Out} {a : AAct} {h : AHeap} (hbs : bs.all pv1 = true) (hN : N = 2 ∨ N = 3 ∨ N = 4) (hb : (bv = .slice none 0 0 ∨ bv = .slice (some ⟨1, 0, some 0⟩) 0 0) ∨ bv = .slice (some ⟨1, 0, none⟩) L cap)
    (hi : injL (rhoP pc pl pm pg pn) [0, 1, 3, 4, 5, 6, 7] = true) (hv : viewG [1, 4, 5, 6, 7] [0, 1, pc, pl, pm, pg, pn] (o, a, h) = preV e e1 bs bv N c pc pl pm pg pn) :
    o = .normal ∧ Sub Tryz.prog a h ⟨envOf (eStart bv), 90, []⟩ (heapF ⟨db, e, e1, bs, N, c, L, cap⟩ s00) := by
  have hlinks : (linksOf N).all pv1 = true ∧ (nearOf N).all pv1 = true := by rcases hN with rfl | rfl | rfl <;> exact ⟨by decide, by decide⟩
  obtain ⟨ho, hr⟩ := Red.ofH (P := Tryz.prog) (n := 90) (next := 9) (E := eStart bv) (H := hFew ⟨db, e, e1, bs, N, c, L, cap⟩ s00) (ρ := rhoP pc pl pm pg pn) hv
    ⟨by rcases hb with (rfl | rfl) | rfl <;> exact ⟨rfl, rfl⟩, ⟨rfl, rfl⟩, ⟨rfl, rfl⟩, ⟨rfl, rfl⟩, ⟨rfl, rfl⟩, trivial⟩
    ⟨⟨Nat.le_of_ble_eq_true rfl, rfl, rfl, rfl, jrs_pv1 db_plain⟩, ⟨Nat.le_of_ble_eq_true rfl, rfl, rfl, rfl, jrs_pv1 hbs⟩, ⟨Nat.le_of_ble_eq_true rfl, rfl, rfl, rfl, jrs_map rfl rfl⟩, ⟨Nat.le_of_ble_eq_true rfl, rfl, rfl, rfl, jrs_pv1 hlinks.1⟩,
      ⟨Nat.le_of_ble_eq_true rfl, rfl, rfl, rfl, jrs_map rfl rfl⟩, ⟨Nat.le_of_ble_eq_true rfl, rfl, rfl, rfl, jrs_map rfl rfl⟩, ⟨Nat.le_of_ble_eq_true rfl, rfl, rfl, rfl, jrs_pv1 hlinks.2⟩, trivial⟩
    hi (globs (by simp [hFew]) rfl)
  exact ⟨ho, Sub.red hr⟩

theorem oSg_okM : OracleOk Tryz.prog (otO (toT oSg)) := by rw [otO_toT]; exact oSg_ok

theorem tri_few {e e1 : TypeId} {bs : List Value} {a b c d : Int} {bv : Value} {r0 r1 r2 r3 mm N F L cap pc pl pm pg pn : Nat} (hbs : bs.all pv1 = true) (hL : ∀ i, i < L → ∃ xn, bs[i]? = some (.int .u8 (.ofNat xn)) ∧ xn < 256) (hN : N = 2 ∨ N = 3 ∨ N = 4)
    (hb : (bv = .slice none 0 0 ∨ bv = .slice (some ⟨1, 0, some 0⟩) 0 0) ∨ bv = .slice (some ⟨1, 0, none⟩) L cap) (hi : injL (rhoP pc pl pm pg pn) [0, 1, 3, 4, 5, 6, 7] = true)
    (ht : (treePre e e1 bs a b c d bv r0 r1 r2 r3).map (viewG [1, 4, 5, 6, 7] [0, 1, pc, pl, pm, pg, pn]) = preT a b c d r0 mm r1 r2 r3 (preV e e1 bs bv N (numsOf N F r2 r3) pc pl pm pg pn))
    (h0 : eqI (a.tmod 3) (.ofNat r0) = true) (h1 : eqI ((IntKind.i64.wrap b).tmod (.ofNat mm)) (.ofNat r1) = true) (h2 : eqI (c.tmod 2) (.ofNat r2) = true) (h3 : eqI (d.tmod 2) (.ofNat r3) = true) :
    Tri Tryz.prog few ⟨envOf [(0, .agg #[.int .u8 a, .int .u8 b, .int .u8 c, .int .u8 d]), (1, bv)], 90, []⟩ (hPre e e1 bs) fun o a _ => Done o a := by
  have hall : ((treePre e e1 bs a b c d bv r0 r1 r2 r3).map (viewG [1, 4, 5, 6, 7] [0, 1, pc, pl, pm, pg, pn])).All fun v => v = preV e e1 bs bv N (numsOf N F r2 r3) pc pl pm pg pn := by
    rw [ht]
    unfold preT
    rw [h0, h1, h2, h3]
    exact ⟨fun _ => ⟨fun _ => ⟨fun _ => ⟨fun _ => rfl, fun h => by cases h⟩, fun h => by cases h⟩, fun h => by cases h⟩, fun h => by cases h⟩
  have hall' := All_map _ hall
  have bad : ∀ o (a' : AAct) (h' : AHeap), o ≠ .normal → viewG [1, 4, 5, 6, 7] [0, 1, pc, pl, pm, pg, pn] (o, a', h') = preV e e1 bs bv N (numsOf N F r2 r3) pc pl pm pg pn → Done o a' := fun o a' h' hne hv => by
    have := (sub_pre (L := L) (cap := cap) hbs hN hb hi hv).1
    exact (hne this).elim
  rw [few_eq]
  refine Tri.run_seq oSg_okM hall' (fun a1 g1 w1 => ?_) bad
  refine Tri.run_seq oSg_okM w1 (fun a2 g2 w2 => ?_) bad
  refine Tri.run_seq oSg_okM w2 (fun a3 g3 w3 => ?_) bad
  refine Tri.seq (Tri.seq (Tri.run oSg_okM rfl (Tree.All.mono (fun x hv => ?_) _ w3)))
  obtain ⟨o, a4, g4⟩ := x
  obtain ⟨ho, hs⟩ := sub_pre (L := L) (cap := cap) hbs hN hb hi hv
  subst ho
  refine Tri.sub hs (Tri.conseq (tri_one (q := ⟨db, e, e1, bs, N, numsOf N F r2 r3, L, cap⟩) rfl hbs hL hN (by simp [numsOf]) hb) fun o a h ⟨ho, A, al, hA, hok, hp, hlen, hs⟩ => ?_)
  subst ho
  exact Tri.sub hs (tri_rest hA hok hp hlen (by simp only; omega))
end Go.Ev
