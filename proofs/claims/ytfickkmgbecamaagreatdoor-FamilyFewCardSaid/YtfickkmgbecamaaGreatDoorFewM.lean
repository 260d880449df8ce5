/- angeluslaw53.FamilyFew returns true at every input, and its arguments read behind the call as they did before: the row, and its tied card. No condition. -/
import Derived.Test.YtfickkmgbecamaaGreatDoorFewU0
import Derived.Test.YtfickkmgbecamaaGreatDoorFewU1
import Derived.Test.YtfickkmgbecamaaGreatDoorFewU2
import Derived.Test.YtfickkmgbecamaaGreatDoorFewU3
import Derived.Test.YtfickkmgbecamaaGreatDoorFewU4
import Derived.Test.YtfickkmgbecamaaGreatDoorFewU5
import Derived.Test.YtfickkmgbecamaaGreatDoorFewU6
import Derived.Test.YtfickkmgbecamaaGreatDoorFewU7
import Derived.Test.YtfickkmgbecamaaGreatDoorFewL
import Derived.Test.YtfickkmgbecamaaGreatDoorRows
import Derived.Test.YtfickkmgbecamaaGreatDoorTie
import Derived.Test.YtfickkmgbecamaaGreatDoorCards
import Derived.ProofKit
import Derived.OpenShut
import Derived.LaidMore
import Derived.Lib.LaidTab
import Derived.Deep.Slices
import Derived.Stop.Joined
import Derived.SevenTiedAt
namespace Go.Ev
open Go.Proofs Go.Proofs.YtfickkmgbecamaaGreatDoor Go.ChangeShapes Go.WideShapes Go.RowKit Tree
set_option maxRecDepth 1000000

theorem wrap_nat (m : Nat) (hm : m < 65536) : IntKind.i64.wrap (.ofNat m) = .ofNat m := by
  rw [← wrapF_eq]
  simp only [wrapF, wrapS]
  have e : m % 18446744073709551616 = m := Nat.mod_eq_of_lt (by omega)
  rw [e, show Nat.blt m 9223372036854775808 = true by rw [Nat.blt_eq]; omega]
theorem modT (a k r : Nat) (h : a % k = r) : eqI ((Int.ofNat a).tmod (.ofNat k)) (.ofNat r) = true := by
  subst h; rw [show (Int.ofNat a).tmod (.ofNat k) = Int.ofNat (a % k) from rfl, eqI_eq]; exact beq_self_eq_true _

theorem tri_all {e e1 : TypeId} {bs : List Value} {bv : Value} {L cap : Nat} (hbs : bs.all pv1 = true) (hL : ∀ i, i < L → ∃ xn, bs[i]? = some (.int .u8 (.ofNat xn)) ∧ xn < 256)
    (hb : (bv = .slice none 0 0 ∨ bv = .slice (some ⟨1, 0, some 0⟩) 0 0) ∨ bv = .slice (some ⟨1, 0, none⟩) L cap) (a b c d : Nat) (hb16 : b < 65536) :
    Tri Tryz.prog few ⟨envOf [(0, .agg #[.int .u8 (.ofNat a), .int .u8 (.ofNat b), .int .u8 (.ofNat c), .int .u8 (.ofNat d)]), (1, bv)], 90, []⟩ (hPre e e1 bs) fun o a _ => Done o a := by
  have fin : ∀ r0 r1 r2 r3 mm N F pc pl pm pg pn, a % 3 = r0 → b % mm = r1 → c % 2 = r2 → d % 2 = r3 → (N = 2 ∨ N = 3 ∨ N = 4) → injL (rhoP pc pl pm pg pn) [0, 1, 3, 4, 5, 6, 7] = true →
      (treePre e e1 bs (.ofNat a) (.ofNat b) (.ofNat c) (.ofNat d) bv r0 r1 r2 r3).map (viewG [1, 4, 5, 6, 7] [0, 1, pc, pl, pm, pg, pn]) = preT (.ofNat a) (.ofNat b) (.ofNat c) (.ofNat d) r0 mm r1 r2 r3 (preV e e1 bs bv N (numsOf N F r2 r3) pc pl pm pg pn) →
      Tri Tryz.prog few ⟨envOf [(0, .agg #[.int .u8 (.ofNat a), .int .u8 (.ofNat b), .int .u8 (.ofNat c), .int .u8 (.ofNat d)]), (1, bv)], 90, []⟩ (hPre e e1 bs) fun o a _ => Done o a := by
    intro r0 r1 r2 r3 mm N F pc pl pm pg pn h0 h1 h2 h3 hN hi ht
    exact tri_few hbs hL hN hb hi ht (modT a 3 r0 h0) (by rw [wrap_nat b hb16]; exact modT b mm r1 h1) (modT c 2 r2 h2) (modT d 2 r3 h3)
  rcases (by omega : c % 2 = 0 ∨ c % 2 = 1) with h2 | h2 <;> rcases (by omega : d % 2 = 0 ∨ d % 2 = 1) with h3 | h3 <;> rcases (by omega : a % 3 = 0 ∨ a % 3 = 1 ∨ a % 3 = 2) with h0 | h0 | h0
  · rcases (by omega : b % 2 = 0 ∨ b % 2 = 1) with h1 | h1
    · exact fin 0 0 0 0 2 2 0 13 80 866 2983 2981 h0 h1 h2 h3 (.inl rfl) rfl (pre0000 ..)
    · exact fin 0 1 0 0 2 2 1 13 80 866 3708 3706 h0 h1 h2 h3 (.inl rfl) rfl (pre0100 ..)
  · rcases (by omega : b % 3 = 0 ∨ b % 3 = 1 ∨ b % 3 = 2) with h1 | h1 | h1
    · exact fin 1 0 0 0 3 3 0 13 122 1198 3767 3765 h0 h1 h2 h3 (.inr (.inl rfl)) rfl (pre1000 ..)
    · exact fin 1 1 0 0 3 3 1 13 122 1198 5182 5180 h0 h1 h2 h3 (.inr (.inl rfl)) rfl (pre1100 ..)
    · exact fin 1 2 0 0 3 3 2 13 122 1198 6237 6235 h0 h1 h2 h3 (.inr (.inl rfl)) rfl (pre1200 ..)
  · rcases (by omega : b % 3 = 0 ∨ b % 3 = 1 ∨ b % 3 = 2) with h1 | h1 | h1
    · exact fin 2 0 0 0 3 4 0 13 177 2033 5246 5244 h0 h1 h2 h3 (.inr (.inr rfl)) rfl (pre2000 ..)
    · exact fin 2 1 0 0 3 4 1 13 177 2033 7383 7381 h0 h1 h2 h3 (.inr (.inr rfl)) rfl (pre2100 ..)
    · exact fin 2 2 0 0 3 4 2 13 177 2033 10148 10146 h0 h1 h2 h3 (.inr (.inr rfl)) rfl (pre2200 ..)
  · rcases (by omega : b % 2 = 0 ∨ b % 2 = 1) with h1 | h1
    · exact fin 0 0 0 1 2 2 0 13 80 866 2983 2981 h0 h1 h2 h3 (.inl rfl) rfl (pre0001 ..)
    · exact fin 0 1 0 1 2 2 1 13 80 866 3708 3706 h0 h1 h2 h3 (.inl rfl) rfl (pre0101 ..)
  · rcases (by omega : b % 3 = 0 ∨ b % 3 = 1 ∨ b % 3 = 2) with h1 | h1 | h1
    · exact fin 1 0 0 1 3 3 0 13 122 1198 3767 3765 h0 h1 h2 h3 (.inr (.inl rfl)) rfl (pre1001 ..)
    · exact fin 1 1 0 1 3 3 1 13 122 1198 5182 5180 h0 h1 h2 h3 (.inr (.inl rfl)) rfl (pre1101 ..)
    · exact fin 1 2 0 1 3 3 2 13 122 1198 6237 6235 h0 h1 h2 h3 (.inr (.inl rfl)) rfl (pre1201 ..)
  · rcases (by omega : b % 3 = 0 ∨ b % 3 = 1 ∨ b % 3 = 2) with h1 | h1 | h1
    · exact fin 2 0 0 1 3 4 0 13 177 2033 5246 5244 h0 h1 h2 h3 (.inr (.inr rfl)) rfl (pre2001 ..)
    · exact fin 2 1 0 1 3 4 1 13 177 2033 7383 7381 h0 h1 h2 h3 (.inr (.inr rfl)) rfl (pre2101 ..)
    · exact fin 2 2 0 1 3 4 2 13 177 2033 10148 10146 h0 h1 h2 h3 (.inr (.inr rfl)) rfl (pre2201 ..)
  · rcases (by omega : b % 2 = 0 ∨ b % 2 = 1) with h1 | h1
    · exact fin 0 0 1 0 2 2 0 13 80 866 2983 2981 h0 h1 h2 h3 (.inl rfl) rfl (pre0010 ..)
    · exact fin 0 1 1 0 2 2 1 13 80 866 3708 3706 h0 h1 h2 h3 (.inl rfl) rfl (pre0110 ..)
  · rcases (by omega : b % 3 = 0 ∨ b % 3 = 1 ∨ b % 3 = 2) with h1 | h1 | h1
    · exact fin 1 0 1 0 3 3 0 13 122 1198 3767 3765 h0 h1 h2 h3 (.inr (.inl rfl)) rfl (pre1010 ..)
    · exact fin 1 1 1 0 3 3 1 13 122 1198 5182 5180 h0 h1 h2 h3 (.inr (.inl rfl)) rfl (pre1110 ..)
    · exact fin 1 2 1 0 3 3 2 13 122 1198 6237 6235 h0 h1 h2 h3 (.inr (.inl rfl)) rfl (pre1210 ..)
  · rcases (by omega : b % 3 = 0 ∨ b % 3 = 1 ∨ b % 3 = 2) with h1 | h1 | h1
    · exact fin 2 0 1 0 3 4 0 13 177 2033 5246 5244 h0 h1 h2 h3 (.inr (.inr rfl)) rfl (pre2010 ..)
    · exact fin 2 1 1 0 3 4 1 13 177 2033 7383 7381 h0 h1 h2 h3 (.inr (.inr rfl)) rfl (pre2110 ..)
    · exact fin 2 2 1 0 3 4 2 13 177 2033 10148 10146 h0 h1 h2 h3 (.inr (.inr rfl)) rfl (pre2210 ..)
  · rcases (by omega : b % 2 = 0 ∨ b % 2 = 1) with h1 | h1
    · exact fin 0 0 1 1 2 2 0 13 80 866 2983 2981 h0 h1 h2 h3 (.inl rfl) rfl (pre0011 ..)
    · exact fin 0 1 1 1 2 2 1 13 80 866 3708 3706 h0 h1 h2 h3 (.inl rfl) rfl (pre0111 ..)
  · rcases (by omega : b % 3 = 0 ∨ b % 3 = 1 ∨ b % 3 = 2) with h1 | h1 | h1
    · exact fin 1 0 1 1 3 3 0 13 122 1198 3767 3765 h0 h1 h2 h3 (.inr (.inl rfl)) rfl (pre1011 ..)
    · exact fin 1 1 1 1 3 3 1 13 122 1198 5182 5180 h0 h1 h2 h3 (.inr (.inl rfl)) rfl (pre1111 ..)
    · exact fin 1 2 1 1 3 3 2 13 122 1198 6237 6235 h0 h1 h2 h3 (.inr (.inl rfl)) rfl (pre1211 ..)
  · rcases (by omega : b % 3 = 0 ∨ b % 3 = 1 ∨ b % 3 = 2) with h1 | h1 | h1
    · exact fin 2 0 1 1 3 4 0 13 177 2033 5246 5244 h0 h1 h2 h3 (.inr (.inr rfl)) rfl (pre2011 ..)
    · exact fin 2 1 1 1 3 4 1 13 177 2033 7383 7381 h0 h1 h2 h3 (.inr (.inr rfl)) rfl (pre2111 ..)
    · exact fin 2 2 1 1 3 4 2 13 177 2033 10148 10146 h0 h1 h2 h3 (.inr (.inr rfl)) rfl (pre2211 ..)

theorem f3_body : Tryz.f3.body = some few := by kernel_rfl
theorem f3_tmps : Tryz.f3.ntmps = 90 := by kernel_rfl
theorem f3_results : Tryz.f3.results = #[.tmp 4] := by kernel_rfl

theorem few_ok {e e1 : TypeId} {bs : List Value} {bv : Value} {L cap : Nat} (hbs : bs.all pv1 = true) (hL : ∀ i, i < L → ∃ xn, bs[i]? = some (.int .u8 (.ofNat xn)) ∧ xn < 256)
    (hb : (bv = .slice none 0 0 ∨ bv = .slice (some ⟨1, 0, some 0⟩) 0 0) ∨ bv = .slice (some ⟨1, 0, none⟩) L cap) (a b c d : Nat) (hb16 : b < 65536) :
    CallOk Tryz.prog 3 #[.agg #[.int .u8 (.ofNat a), .int .u8 (.ofNat b), .int .u8 (.ofNat c), .int .u8 (.ofNat d)], bv] (hPre e e1 bs) (.bool true) (withNew (hPre e e1 bs) [] 2) := by
  refine CallOk.ofTri (h0 := hPre e e1 bs) (args0 := #[.agg #[.int .u8 (.ofNat a), .int .u8 (.ofNat b), .int .u8 (.ofNat c), .int .u8 (.ofNat d)], bv]) Tryz.func3 f3_body (of_decide_eq_false (by kernel_rfl)) (by rw [f3_tmps]; simp) ?_ (Nat.le_refl _) (by simp) (fun k o hk => ?_) (fun μ w args' hR hT hA => ⟨μ, hR, hT, hA⟩)
  · rw [f3_tmps]
    refine Tri.conseq (tri_all (e := e) (e1 := e1) hbs hL hb a b c d hb16) fun o a' h' ⟨ho, hm, h4⟩ => ⟨ho, id, ⟨h', ?_, by simp⟩, rfl, by simp, by simp⟩
    rw [doneC_run, hm]
    simp only [shutA, Option.bind_some, resultsA, f3_results]
    simp [resultA, h4, renT, ren, ren1]
  · have := foldr_get [(0, AObj.cells db e true false), (1, AObj.cells bs e1 true false)] k o hk
    simp only [List.mem_cons, List.not_mem_nil, or_false, Prod.mk.injEq] at this
    rcases this with ⟨_, rfl⟩ | ⟨_, rfl⟩ <;> rfl

/-! ### The start -/
theorem table_is {W : World} (h : laidMetH Tryz.prog [("math/bits.deBruijn64tab", Rows.laid_math_bits_deBruijn64tab)] W) : ∃ e fz, W.heap[0]? = some (.cells db.toArray e fz) := by
  rw [MakeChecks.laidMetH_plain _ _ _ (by kernel_rfl)] at h
  have h2 : laidMet Tryz.prog [("math/bits.deBruijn64tab", Lib.tabData .u8 (dbN.map Int.ofNat))] W := h
  have ht := Lib.tabIs_of_head (g := 0) (t := 140) (e := 5) (n := 64) (by kernel_rfl) (by kernel_rfl) (by kernel_rfl) (by kernel_rfl) (by kernel_rfl) (by kernel_rfl) h2
  unfold Lib.TabIs World.var? at ht
  rw [show Tryz.prog.globalNamed "math/bits.deBruijn64tab" = some 0 by kernel_rfl] at ht
  simp only [Option.bind_some] at ht
  split at ht
  · rename_i cs e fz hh
    cases ht
    exact ⟨e, fz, hh⟩
  · cases ht
theorem db_size : db.toArray.size = 64 := by kernel_rfl

/-- A row that may only be read, of plain cells. -/
theorem ro_row {μ : Mu} {W : World} {b off : Nat} {C : Array Value} {e : TypeId} {fz : Nat × Nat} {c : List Value} (hh : W.heap[b]? = some (.cells C e fz)) (hoff : off + c.length ≤ C.size)
    (hp : c.all pv1 = true) (hc : ∀ k v, c[k]? = some v → C[off + k]? = some v) : ORel Tryz.prog μ (.cells c e true false) ⟨b, off, C.size - off, 0, true⟩ W :=
  ⟨C, fz, hh, fun h => (by cases h), by show off + (C.size - off) = C.size; omega, by show c.length ≤ C.size - off; omega, fun k v hk => ⟨v, hc k v hk, .of_pv1 (List.all_eq_true.1 hp v (List.mem_of_getElem? hk))⟩, fun _ => rfl, fun h => by rcases h with h | h <;> cases h⟩

def muF (i1 : Img) : Mu := fun b => if b = 0 then some ⟨0, 0, 64, 0, true⟩ else if b = 1 then some i1 else none
theorem muF_top (i1 : Img) (e e1 : TypeId) (bs : List Value) : Top (muF i1) (hPre e e1 bs) := fun b hb => by
  have : 2 ≤ b := hb
  unfold muF
  rw [if_neg (by omega), if_neg (by omega)]
theorem start_few {W : World} {e e1 : TypeId} {fz : Nat × Nat} {bs : List Value} {i1 : Img} (h0 : W.heap[0]? = some (.cells db.toArray e fz)) (h1 : ORel Tryz.prog (muF i1) (.cells bs e1 true false) i1 W) : Rel Tryz.prog (muF i1) (hPre e e1 bs) W := by
  refine Rel.ro (fun b o hb => ?_) (fun g hg => ?_)
  · have := foldr_get [(0, AObj.cells db e true false), (1, AObj.cells bs e1 true false)] b o hb
    simp only [List.mem_cons, List.not_mem_nil, or_false, Prod.mk.injEq] at this
    rcases this with ⟨rfl, rfl⟩ | ⟨rfl, rfl⟩
    · refine ⟨rfl, _, rfl, ?_⟩
      have := ro_row (μ := muF i1) (off := 0) (c := db) h0 (by simp) db_plain (fun k v hk => by simpa using hk)
      rw [db_size] at this; exact this
    · exact ⟨rfl, _, rfl, h1⟩
  · rw [zglobals_one] at hg
    obtain rfl : g = 0 := by omega
    exact ⟨_, rfl, rfl, rfl⟩

/-- How the choices stand at the start. -/
inductive Bytes (W : World) : Value → Prop
  | nil : Bytes W (.slice none 0 0)
  | empty (a : Addr) (c : Nat) : Bytes W (.slice (some a) 0 c)
  | some (b off l c : Nat) (C : Array Value) (e : TypeId) (fz : Nat × Nat) (ns : Nat → Nat) (h : W.heap[b]? = some (.cells C e fz)) (hv : ∀ i, i < l + 1 → C[off + i]? = some (.int .u8 (.ofNat (ns i))) ∧ ns i < 256) : Bytes W (.slice (some ⟨b, off, none⟩) (l + 1) c)

theorem cell_open {W : World} {a : Addr} {v : Value} (h : W.cell? a = some v) : a.spot = none ∧ ∃ C e fz, W.heap[a.block]? = some (.cells C e fz) ∧ C[a.off]? = some v := by
  refine ⟨World.cell?_spot h, ?_⟩
  unfold World.cell? at h
  split at h
  · rename_i c t fz hh
    split at h
    · cases h
    · exact ⟨c, t, fz, hh, h⟩
  · cases h

theorem u8_of {n : Int} (h : (Lit.int .u8 n).wf = true) : ∃ m : Nat, n = .ofNat m ∧ m < 256 := by
  have := bounds_u8 h
  obtain ⟨m, rfl⟩ := Int.eq_ofNat_of_zero_le (show 0 ≤ n by omega)
  exact ⟨m, rfl, by omega⟩

section
variable {H : Type} {enc : TypeId × Value → H} {W : World} {held : Bool} {spare : Nat → Bool}

theorem bytes_open {v : Value} {d : DataW H} {p : List MemPlace} (hv : v.cells.toList = [v]) (h : DataW.Trod enc Tryz.prog W 0 spare held 23 v d p) : Bytes W v := by
  obtain ⟨fuel, hf⟩ := h
  rw [hv] at hf
  rcases Go.Deep.open_slice1 Tryz.underlying23 (by kernel_rfl) hf with ⟨hcs, _⟩ | ⟨a, len, cap, m, n, V, D, Pl, hcs, _, hl, _, hm, _, hall⟩
  · simp only [List.cons.injEq, and_true] at hcs
    subst hcs; exact .nil
  · simp only [List.cons.injEq, and_true] at hcs
    subst hcs
    rcases len with _ | l
    · exact .empty a cap
    · have hlm : l + 1 ≤ m := by rw [hm]; split <;> omega
      obtain ⟨hsp, C, e, fz, hh, _⟩ := cell_open (hall 0 (by omega)).1
      obtain ⟨b, off, spot⟩ := a
      have hspot : spot = none := by simpa [Addr.add] using hsp
      subst hspot
      have hadd : ∀ i, (⟨b, off, none⟩ : Addr).add i = ⟨b, off + i, none⟩ := fun i => by by_cases h : i = 0 <;> simp [Addr.add, h]
      rw [hadd] at hh
      have key : ∀ i, i < l + 1 → ∃ k : Nat, C[off + i]? = some (.int .u8 (.ofNat k)) ∧ k < 256 := fun i hi => by
        obtain ⟨h1, h2⟩ := hall i (by omega)
        obtain ⟨z, e0, _, w0⟩ := DataW.trod_int Tryz.underlying5 h2
        simp only [List.cons.injEq, and_true] at e0
        obtain ⟨k, rfl, hk⟩ := u8_of w0
        obtain ⟨_, C', e', fz', hh', hc'⟩ := cell_open h1
        rw [hadd] at hh' hc'
        simp only at hh hh'
        rw [hh] at hh'
        cases hh'
        refine ⟨k, ?_, hk⟩
        rw [e0] at hc'
        exact hc'
      have hch : ∃ ns : Nat → Nat, ∀ i, i < l + 1 → C[off + i]? = some (.int .u8 (.ofNat (ns i))) ∧ ns i < 256 := by
        refine ⟨fun i => if hi : i < l + 1 then (key i hi).choose else 0, fun i hi => ?_⟩
        simp only [hi, dif_pos]
        exact (key i hi).choose_spec
      obtain ⟨ns, hns⟩ := hch
      exact .some b off l cap C e fz ns hh hns

theorem open_d {b0 : Nat} {v : Value} {d : DataW H} {p : List MemPlace} (hv : Value.okWide Tryz.prog W .any b0 22 v) (h : DataW.Trod enc Tryz.prog W 0 spare held 22 v d p) :
    ∃ a b c e : Nat, v = .agg #[.int .u8 (.ofNat a), .int .u8 (.ofNat b), .int .u8 (.ofNat c), .int .u8 (.ofNat e)] ∧ b < 65536 := by
  obtain ⟨cs, rfl, hsz⟩ : ∃ cs, v = .agg cs ∧ cs.size = Tryz.prog.cellsOf 22 := by
    simp only [Value.okWide, Tryz.underlying22] at hv
    obtain ⟨cs, h1, h2, _⟩ := hv
    exact ⟨cs, h1, h2⟩
  obtain ⟨fuel, hf⟩ := h
  obtain ⟨xs, n, _, _, hl, hlen, hall⟩ := DataW.trod_array Tryz.underlying22 hf
  have hc : Tryz.prog.cellsOf 22 = 4 := by kernel_rfl
  have h1 : Tryz.prog.cellsOf 5 = 1 := by kernel_rfl
  rw [hc] at hsz
  rw [h1] at hall
  obtain ⟨l⟩ := cs
  obtain ⟨c0, c1, c2, c3, rfl⟩ : ∃ c0 c1 c2 c3, l = [c0, c1, c2, c3] := by
    match l, hsz with
    | [c0, c1, c2, c3], _ => exact ⟨c0, c1, c2, c3, rfl⟩
  have g0 := hall 0 (by omega)
  have g1 := hall 1 (by omega)
  have g2 := hall 2 (by omega)
  have g3 := hall 3 (by omega)
  rw [List.getElem?_eq_getElem (by omega)] at g0 g1 g2 g3
  obtain ⟨z0, e0, _, w0⟩ := DataW.trod_int Tryz.underlying5 g0
  obtain ⟨z1, e1, _, w1⟩ := DataW.trod_int Tryz.underlying5 g1
  obtain ⟨z2, e2, _, w2⟩ := DataW.trod_int Tryz.underlying5 g2
  obtain ⟨z3, e3, _, w3⟩ := DataW.trod_int Tryz.underlying5 g3
  simp [Value.cells] at e0 e1 e2 e3
  subst e0 e1 e2 e3
  obtain ⟨m0, rfl, _⟩ := u8_of w0
  obtain ⟨m1, rfl, hb⟩ := u8_of w1
  obtain ⟨m2, rfl, _⟩ := u8_of w2
  obtain ⟨m3, rfl, _⟩ := u8_of w3
  exact ⟨m0, m1, m2, m3, rfl, by omega⟩
end

theorem call_few {W : World} {B : Value} (hT : ∃ e fz, W.heap[0]? = some (.cells db.toArray e fz)) (hB : Bytes W B) (a b c d : Nat) (hb16 : b < 65536) :
    Calls Tryz.prog 3 #[.agg #[.int .u8 (.ofNat a), .int .u8 (.ofNat b), .int .u8 (.ofNat c), .int .u8 (.ofNat d)], B] W fun e w' => e = .returned (.bool true) ∧ Below W.heap.size W w' := by
  obtain ⟨e, fz, h0⟩ := hT
  have roP : ∀ (e1 : TypeId) (bs : List Value) k o, (hPre e e1 bs).get k = some o → mutO o = false := fun e1 bs k o hk => by
    have := foldr_get [(0, AObj.cells db e true false), (1, AObj.cells bs e1 true false)] k o hk
    simp only [List.mem_cons, List.not_mem_nil, or_false, Prod.mk.injEq] at this
    rcases this with ⟨_, rfl⟩ | ⟨_, rfl⟩ <;> rfl
  have fin : ∀ (i1 : Img) (e1 : TypeId) (bs : List Value) (bv : Value) (L cap : Nat), ORel Tryz.prog (muF i1) (.cells bs e1 true false) i1 W → bs.all pv1 = true → (∀ i, i < L → ∃ xn, bs[i]? = some (.int .u8 (.ofNat xn)) ∧ xn < 256) →
      ((bv = .slice none 0 0 ∨ bv = .slice (some ⟨1, 0, some 0⟩) 0 0) ∨ bv = .slice (some ⟨1, 0, none⟩) L cap) → VRel (muF i1) bv B →
      Calls Tryz.prog 3 #[.agg #[.int .u8 (.ofNat a), .int .u8 (.ofNat b), .int .u8 (.ofNat c), .int .u8 (.ofNat d)], B] W fun e w' => e = .returned (.bool true) ∧ Below W.heap.size W w' := by
    intro i1 e1 bs bv L cap ho hbs hL hb hv
    refine ((few_ok (e := e) (e1 := e1) hbs hL hb a b c d hb16).calls (args' := #[.agg #[.int .u8 (.ofNat a), .int .u8 (.ofNat b), .int .u8 (.ofNat c), .int .u8 (.ofNat d)], B]) (start_few h0 ho) (muF_top i1 e e1 bs) ?_ (roP e1 bs)).mono fun e w' ⟨μ', v', he, hv', hb⟩ => ?_
    · exact .cons (.agg (.cons (.int _ _) (.cons (.int _ _) (.cons (.int _ _) (.cons (.int _ _) .nil))))) (.cons hv .nil)
    · cases hv'
      exact ⟨he, hb⟩
  have tab : ORel Tryz.prog (muF ⟨0, 0, 64, 0, true⟩) (.cells db e true false) ⟨0, 0, 64, 0, true⟩ W := by
    have := ro_row (μ := muF ⟨0, 0, 64, 0, true⟩) (off := 0) (c := db) h0 (by simp) db_plain (fun k v hk => by simpa using hk)
    rw [db_size] at this; exact this
  cases hB with
  | nil => exact fin _ e db _ 0 0 tab db_plain (fun i hi => by omega) (.inl (.inl rfl)) .nilSlice
  | empty a' c' => exact fin _ e db _ 0 0 tab db_plain (fun i hi => by omega) (.inl (.inr rfl)) .empty
  | some b' off l c' C e' fz' ns h hv =>
    have hget : ∀ k v, ((List.range (l + 1)).map fun i => Value.int .u8 (.ofNat (ns i)))[k]? = some v → k < l + 1 ∧ v = .int .u8 (.ofNat (ns k)) := fun k v hk => by
      rw [List.getElem?_map] at hk
      by_cases hlt : k < l + 1
      · rw [List.getElem?_range hlt] at hk
        simp only [Option.map_some, Option.some.injEq] at hk
        exact ⟨hlt, hk.symm⟩
      · rw [List.getElem?_eq_none (by simp; omega)] at hk
        cases hk
    refine fin ⟨b', off, C.size - off, 0, true⟩ e' ((List.range (l + 1)).map fun i => .int .u8 (.ofNat (ns i))) (.slice (some ⟨1, 0, none⟩) (l + 1) c') (l + 1) c' (ro_row h ?_ (by simp [pv1]) fun k v hk => ?_) (by simp [pv1]) (fun i hi => ⟨ns i, ?_, (hv i hi).2⟩) (.inr rfl) ?_
    · have := (Array.getElem?_eq_some_iff.1 (hv l (by omega)).1).1
      simp; omega
    · obtain ⟨hlt, rfl⟩ := hget k v hk
      exact (hv k hlt).1
    · rw [List.getElem?_map, List.getElem?_range hi]; rfl
    · have := VRel.slice (μ := muF ⟨b', off, C.size - off, 0, true⟩) (b := 1) (o := 0) (l := l + 1) (c := c') (c' := c') rfl (Nat.le_refl _) (fun _ => rfl) (.inl rfl)
      rw [show 0 + (⟨b', off, C.size - off, 0, true⟩ : Img).d = off from Nat.zero_add _] at this
      exact this
end Go.Ev
namespace Go.Proofs.YtfickkmgbecamaaGreatDoor
open Go Go.ChangeShapes Go.WideShapes Go.ChangeAt Go.RowKit Go.Ev

theorem own : ownKnob Tryz.prog.godebug = none := by kernel_rfl
theorem laidOut : laidOutB Tryz.prog = true := by kernel_rfl

theorem door_met (os : Os) (args : Array Value) : laidMetH Tryz.prog Rows.familyFewRow.laid ((World.doorLaid Tryz.prog 400 os).forCall (fun _ _ => 0) ⟨#[], args, []⟩).memory :=
  laidMetH_of_parts3 (fuel := 8) (laidMet_of_run' 8 (by kernel_rfl) (by kernel_rfl)) (by kernel_rfl) (by kernel_rfl)

set_option maxRecDepth 100000 in
theorem slice_cells {W : World} {b0 : Nat} {v : Value} (hv : Value.okWide Tryz.prog W .any b0 23 v) : v.cells.toList = [v] := by
  obtain ⟨a, len, cap, rfl⟩ := okWide_slice Tryz.underlying23 hv
  rfl

set_option maxRecDepth 100000 in
theorem lifted (os : Os) (started : os.Started) (H : Type) (enc : TypeId × Value → H) :
    ReturnsInHanded {} Tryz.checked os 3 .any (fun w args => (Rows.familyFewSpec.pre enc Tryz.prog Tryz.f3 [] false w args ∧ laidMetH Tryz.prog Rows.familyFewRow.laid w) ∧ sizedMet enc Tryz.prog Tryz.f3 (OpenSpec.ofChange Rows.familyFewSpec) false w args)
      (Rows.familyFewSpec.post enc Tryz.prog Tryz.f3 false true false false) := by
  refine returnsInHanded_of_change_and (C := Tryz.checked) (X := fun w _ => laidMetH Tryz.prog Rows.familyFewRow.laid w) (fun _ _ _ hh h => h.of_heap hh) own started (by kernel_rfl) Tryz.func3
    (ChangeSpec.witness_shaped (enc := enc) (C := Tryz.checked) (os := os) (X := fun w _ => laidMetH Tryz.prog Rows.familyFewRow.laid w) false (World.doorLaid Tryz.prog 400 os)
      #[.agg #[.int .u8 0, .int .u8 0, .int .u8 0, .int .u8 0], .slice none 0 0] 8 rfl (World.shaped_of_RefB (by kernel_rfl) (by kernel_rfl)) (by kernel_rfl) (by kernel_rfl) (by kernel_rfl) (door_met os _)) ?_
  intro W base args ds gs before hval0 hW _ _ hL _
  have hval : ∀ (j : Nat) t v, Tryz.f3.params[j]? = some t → args[j]? = some v → Value.okWide Tryz.prog W .any base t v := hval0
  have hW' := hW
  obtain ⟨p, q, hA0, hV, rfl, hfz, hnd⟩ := hW
  have hA : DataW.TrodAll enc Tryz.prog W 0 (fun _ => true) true Tryz.f3.params.toList args.toList ds p := hA0
  rw [Tryz.params3] at hA hval
  obtain ⟨v0, vs0, d0, ds0, p0, q0, hargs, rfl, rfl, h0, r0⟩ := trodAll_cons hA
  obtain ⟨v1, vs1, d1, ds1, p1, q1, rfl, rfl, rfl, h1, r1⟩ := trodAll_cons r0
  obtain ⟨rfl, rfl, rfl⟩ := trodAll_nil r1
  obtain rfl : args = #[v0, v1] := by cases args; simp_all
  obtain ⟨rfl, rfl⟩ := trodVars_none hV
  have k0 := h0
  have lt0 : ∀ x ∈ p0, x.block < W.heap.size := by obtain ⟨m, hm⟩ := k0; exact DataW.trod_lt m _ _ _ hm
  have k1 := h1
  have lt1 : ∀ x ∈ p1, x.block < W.heap.size := by obtain ⟨m, hm⟩ := k1; exact DataW.trod_lt m _ _ _ hm
  obtain ⟨a, b, c, e, rfl, hb⟩ := open_d (hval 0 22 v0 rfl rfl) h0
  have hB : Bytes W v1 := bytes_open (slice_cells (hval 1 23 v1 rfl rfl)) h1
  clear hA0 hval0
  refine (call_few (table_is hL) hB a b c e hb).mono fun e W' ⟨he, bel⟩ => ?_
  subst he
  exact ⟨_, rfl, _, _, _, [], _, [], hW', trodAll_mk1 (shut_bool Tryz.underlying4 _), (trodAll_cons_mk (Below.trod laidOut (by kernel_rfl) (of_decide_eq_true (by kernel_rfl)) k0 bel lt0) (trodAll_cons_mk (Below.trod laidOut (by kernel_rfl) (of_decide_eq_true (by kernel_rfl)) k1 bel lt1) trodAll_mk0)), rfl, bel.frame _, fun h => by cases h⟩

theorem familyFew_holds : Rows.FamilyFewSaid :=
  OpenClaim.holds_of_wide 3 Tryz.f3 rfl rfl rfl rfl rfl rfl rfl ⟨rfl, rfl, rfl, rfl, rfl⟩ rfl rfl rfl rfl rfl (by kernel_rfl) Tryz.func3 (by kernel_rfl)
    (of_decide_eq_true (by kernel_rfl)) (by unfold Func.isWrapper; first | (rw [if_pos (by decide +kernel)]; kernel_rfl) | (rw [if_neg (by decide +kernel)]; exact ⟨rfl, rfl⟩))
    (fun os started H enc _ => lifted os started H enc)

theorem familyFew_card : Rows.FamilyFewCardSaid :=
  Claim7.holds_tied_plain_at .later [] [.data] true (true, "26b830874131c323b1706c20b9c8eb81d52b5ea0caace856cef8af5aa6fedf32") false
    familyFew_holds (fun _ h => by cases h) (by kernel_rfl) (fun _ h => by cases h) familyFew_row_tie rfl ⟨rfl, rfl⟩ (by kernel_rfl) rfl
    (fun f fn hf hfn => by
      obtain rfl : f = 3 := Option.some.inj ((show Tryz.prog.funcNamed "angelus/angeluslaw53.FamilyFew" = some 3 by kernel_rfl).symm.trans hf) |>.symm
      obtain rfl : fn = Tryz.f3 := (Option.some.inj (Tryz.func3.symm.trans hfn)).symm
      exact ⟨by kernel_rfl, fun j t ht => by
        rw [Tryz.params3] at ht
        have hm : t ∈ [22, 23] := by simpa using Array.mem_of_getElem? ht
        have hall : ([22, 23].all fun u => !Tryz.prog.wantsStandIn u) = true := by kernel_rfl
        exact (show Tryz.prog.wantsStandIn t = false by simpa using List.all_eq_true.1 hall t hm)⟩)
    (by kernel_rfl)
#print axioms familyFew_card
end Go.Proofs.YtfickkmgbecamaaGreatDoor
