/- The start of a call of FamilyNil's in the model's world, as the evaluator sees it. -/
import Derived.Test.YtfickkmgbecamaaGreatDoorNil
import Derived.Test.YtfickkmgbecamaaGreatDoorRows
import Derived.ProofKit
import Derived.OpenShut
import Derived.LaidMore
import Derived.Lib.LaidTab
import Derived.Deep.Slices
namespace Go.Ev
open Go.Proofs Go.Proofs.YtfickkmgbecamaaGreatDoor Go.ChangeShapes Go.WideShapes Go.RowKit
set_option maxRecDepth 100000

theorem table_is {W : World} (h : laidMetH Tryz.prog [("math/bits.deBruijn64tab", Rows.laid_math_bits_deBruijn64tab)] W) : ∃ e fz, W.heap[0]? = some (.cells db.toArray e fz) := by
  rw [MakeChecks.laidMetH_plain _ _ _ (by kernel_rfl)] at h
  have h2 : laidMet Tryz.prog [("math/bits.deBruijn64tab", Lib.tabData .u8 (dbN.map Int.ofNat))] W := h
  have ht := Lib.tabIs_of_head (g := 0) (t := 140) (e := 5) (n := 64) (by kernel_rfl) (by kernel_rfl) (by kernel_rfl) (by kernel_rfl) (by kernel_rfl) (by kernel_rfl) h2
  unfold Lib.TabIs World.var? at ht
  rw [show Tryz.prog.globalNamed "math/bits.deBruijn64tab" = some 0 by kernel_rfl] at ht
  simp only [Option.bind_some] at ht
  split at ht
  · rename_i cs e fz hh
    cases ht
    exact ⟨e, fz, hh⟩
  · cases ht

theorem db_size : db.toArray.size = 64 := by kernel_rfl

/-- A row that may only be read, of plain cells. -/
theorem ro_row {μ : Mu} {W : World} {b off : Nat} {C : Array Value} {e : TypeId} {fz : Nat × Nat} {c : List Value} (hh : W.heap[b]? = some (.cells C e fz)) (hoff : off + c.length ≤ C.size)
    (hp : c.all pv1 = true) (hc : ∀ k v, c[k]? = some v → C[off + k]? = some v) : ORel Tryz.prog μ (.cells c e true false) ⟨b, off, C.size - off, 0, true⟩ W :=
  ⟨C, fz, hh, fun h => (by cases h), by show off + (C.size - off) = C.size; omega, by show c.length ≤ C.size - off; omega, fun k v hk => ⟨v, hc k v hk, .of_pv1 (List.all_eq_true.1 hp v (List.mem_of_getElem? hk))⟩, fun _ => rfl, fun h => by rcases h with h | h <;> cases h⟩

def muT (i1 : Option Img) : Mu := fun b => if b = 0 then some ⟨0, 0, 64, 0, true⟩ else if b = 1 then i1 else none

theorem muT_top (i1 : Option Img) (t : Tr AObj) : Top (muT i1) { tr := t, next := 2 } := fun b hb => by
  have : 2 ≤ b := hb
  unfold muT
  rw [if_neg (by omega), if_neg (by omega)]

theorem start_none {W : World} {e : TypeId} {fz : Nat × Nat} (i1 : Option Img) (h0 : W.heap[0]? = some (.cells db.toArray e fz)) : Rel Tryz.prog (muT i1) (hN e) W := by
  refine Rel.ro (fun b o hb => ?_) (fun g hg => ?_)
  · rcases b with _ | b
    · cases hb
      exact ⟨rfl, _, rfl, by
        have := ro_row (μ := muT i1) (off := 0) (c := db) h0 (by simp) db_plain (fun k v hk => by simpa using hk)
        rw [db_size] at this; exact this⟩
    · exfalso
      simp only [hN, AHeap.get, Tr.get, ite_self] at hb
      cases hb
  · have hg0 : g = 0 := by rw [globals_one] at hg; omega
    subst hg0
    exact ⟨_, rfl, rfl, rfl⟩

theorem hL_get (e : TypeId) (c : List Value) (e' : TypeId) (b : Nat) : (hL e c e').get b = if b = 0 then some (.cells db e true false) else if b = 1 then some (.cells c e' true false) else none := by
  rcases b with _ | _ | b
  · rfl
  · rfl
  · rw [if_neg (by omega), if_neg (by omega)]
    simp only [hL, AHeap.get, Tr.get]
    split
    · rcases hb : (b + 1) / 2 with _ | k
      · omega
      · simp only [Tr.get, ite_self]
    · rfl

theorem start_link {W : World} {e e' : TypeId} {fz fz' : Nat × Nat} {b off : Nat} {C : Array Value} {y z : Int} (h0 : W.heap[0]? = some (.cells db.toArray e fz)) (h1 : W.heap[b]? = some (.cells C e' fz'))
    (hy : C[off]? = some (.int .i64 y)) (hz : C[off + 1]? = some (.int .i64 z)) : Rel Tryz.prog (muT (some ⟨b, off, C.size - off, 0, true⟩)) (hL e [.int .i64 y, .int .i64 z] e') W := by
  refine Rel.ro (fun b' o hb => ?_) (fun g hg => ?_)
  · rw [hL_get] at hb
    split at hb
    · rename_i hb0; subst hb0
      cases hb
      exact ⟨rfl, _, rfl, by
        have := ro_row (μ := muT (some ⟨b, off, C.size - off, 0, true⟩)) (off := 0) (c := db) h0 (by simp) db_plain (fun k v hk => by simpa using hk)
        rw [db_size] at this; exact this⟩
    · split at hb
      · rename_i hb1; subst hb1
        cases hb
        have hlt : off + 1 < C.size := (Array.getElem?_eq_some_iff.1 hz).1
        refine ⟨rfl, _, rfl, ro_row h1 (by simp; omega) rfl fun k v hk => ?_⟩
        rcases k with _ | _ | k
        · simpa using (by simpa using hk : _ = v) ▸ hy
        · simpa using (by simpa using hk : _ = v) ▸ hz
        · simp at hk
      · cases hb
  · have hg0 : g = 0 := by rw [globals_one] at hg; omega
    subst hg0
    exact ⟨_, rfl, rfl, rfl⟩

/-- How the links stand at the start. -/
inductive Links (W : World) : Value → Prop where
  | nil : Links W (.slice none 0 0)
  | empty (a : Addr) (c : Nat) : Links W (.slice (some a) 0 c)
  | some (b off l c : Nat) (C : Array Value) (e : TypeId) (fz : Nat × Nat) (y z : Int) (h : W.heap[b]? = some (.cells C e fz)) (hy : C[off]? = some (.int .i64 y)) (hz : C[off + 1]? = some (.int .i64 z)) :
      Links W (.slice (some ⟨b, off, none⟩) (l + 1) c)

theorem cell_open {W : World} {a : Addr} {v : Value} (h : W.cell? a = some v) : a.spot = none ∧ ∃ C e fz, W.heap[a.block]? = some (.cells C e fz) ∧ C[a.off]? = some v := by
  refine ⟨World.cell?_spot h, ?_⟩
  unfold World.cell? at h
  split at h
  · rename_i c t fz hh
    split at h
    · cases h
    · exact ⟨c, t, fz, hh, h⟩
  · cases h

section
variable {H : Type} {enc : TypeId × Value → H} {W : World} {held : Bool} {spare : Nat → Bool}

theorem links_open {n : Nat} {v : Value} {y : DataW H × List MemPlace} (h : DataW.trod enc Tryz.prog W 0 spare held n 24 [v] = some y) : Links W v := by
  rcases DataW.trod_slice Tryz.underlying24 h with ⟨hcs, _⟩ | ⟨a, len, cap, elems, rest, m, _, hcs, _, _, _, _, hlen, hel, _, _⟩
  · simp only [List.cons.injEq, and_true] at hcs
    subst hcs; exact .nil
  · simp only [List.cons.injEq, and_true] at hcs
    subst hcs
    rcases len with _ | l
    · exact .empty a cap
    · have h0 := hel 0 (by omega)
      have hc77 : Tryz.prog.cellsOf 77 = 2 := by kernel_rfl
      rw [hc77] at h0
      obtain ⟨x, hx⟩ : ∃ x, elems[0]? = some x := ⟨elems[0], List.getElem?_eq_getElem (by omega)⟩
      rw [hx] at h0
      obtain ⟨cs, h1, h2⟩ := Option.bind_eq_some_iff.1 h0
      have hc3 : Tryz.prog.cellsOf 3 = 1 := by kernel_rfl
      obtain ⟨xs, k, _, _, hcl, hxl, hall⟩ := DataW.trod_array Tryz.underlying77 h2
      rw [hc77] at hcl
      rw [hc3] at hall
      obtain ⟨c0, c1, rfl⟩ : ∃ c0 c1, cs = [c0, c1] := by
        match cs, hcl with
        | [c0, c1], _ => exact ⟨c0, c1, rfl⟩
      have g0 := hall 0 (by omega)
      have g1 := hall 1 (by omega)
      rw [List.getElem?_eq_getElem (by omega)] at g0 g1
      obtain ⟨y0, e0, _, _⟩ := DataW.trod_int Tryz.underlying3 g0
      obtain ⟨y1, e1, _, _⟩ := DataW.trod_int Tryz.underlying3 g1
      simp at e0 e1
      subst e0 e1
      have ha0 : W.cell? (a.add 0) = some (.int .i64 y0) ∧ W.cell? (a.add 1) = some (.int .i64 y1) := by
        have hz : a.add (0 * 2) = a := by simp [Addr.add]
        rw [hz] at h1
        unfold World.cells? at h1
        simp only [Nat.zero_le, if_true, show List.range 2 = [0, 1] from rfl, List.mapM_cons, List.mapM_nil] at h1
        cases hc0 : W.cell? (a.add 0) with
        | none => simp [hc0] at h1
        | some u0 =>
          cases hc1 : W.cell? (a.add 1) with
          | none => simp [hc0, hc1] at h1
          | some u1 =>
            simp [hc0, hc1] at h1
            rw [h1.1, h1.2]; exact ⟨rfl, rfl⟩
      obtain ⟨hsp, C, e, fz, hh, hy⟩ := cell_open ha0.1
      obtain ⟨_, C', e', fz', hh', hy'⟩ := cell_open ha0.2
      obtain ⟨b, off, spot⟩ := a
      have hspot : spot = none := by simpa [Addr.add] using hsp
      subst hspot
      simp [Addr.add] at hh hy hh' hy'
      rw [hh] at hh'
      cases hh'
      exact .some b off l cap C e fz y0 y1 hh hy hy'
end

/-- A start's configuration. -/
theorem call_nil {W : World} {L : Value} (hT : ∃ e fz, W.heap[0]? = some (.cells db.toArray e fz)) (hL : Links W L) (N F a b c d f g i s hi fl q bo x : Int) :
    Calls Tryz.prog 4 #[cfg N L F a b c d f g i s hi fl q bo, .int .u8 x] W fun e w' => e = .returned (.bool true) ∧ Below W.heap.size W w' := by
  obtain ⟨e, fz, h0⟩ := hT
  have fin : ∀ (μ : Mu) (h : AHeap) (L' : Value), Rel Tryz.prog μ h W → Top μ h → VRel μ L' L → (∀ b o, h.get b = some o → mutO o = false) →
      ((evC Tryz.prog oWorks 60).call 4 #[cfg N L' F a b c d f g i s hi fl q bo, .int .u8 x] h).map (·.1) = some (.bool true) →
      Calls Tryz.prog 4 #[cfg N L F a b c d f g i s hi fl q bo, .int .u8 x] W fun e w' => e = .returned (.bool true) ∧ Below W.heap.size W w' := by
    intro μ h L' hR ht hv hro hx
    obtain ⟨⟨v', h'⟩, hx, hv'⟩ := Option.map_eq_some_iff.1 hx
    simp only at hv'
    subst hv'
    refine ((evC_call oWorks_ok hx).calls (args' := #[cfg N L F a b c d f g i s hi fl q bo, .int .u8 x]) hR ht ?_ hro).mono fun e w' ⟨μ', v', he, hv', hb⟩ => ?_
    · exact .cons (.agg (.cons (.int _ _) (.cons hv (.cons (.int _ _) (.cons (.int _ _) (.cons (.int _ _) (.cons (.int _ _) (.cons (.int _ _) (.cons (.int _ _) (.cons (.int _ _) (.cons (.int _ _) (.cons (.int _ _) (.cons (.int _ _) (.cons (.int _ _) (.cons (.int _ _) (.cons (.int _ _) .nil)))))))))))))))) (.cons (.int _ _) .nil)
    · cases hv'
      exact ⟨he, hb⟩
  have roN : ∀ b o, (hN e).get b = some o → mutO o = false := fun b o hb => by
    rcases b with _ | b
    · cases hb; rfl
    · simp only [hN, AHeap.get, Tr.get, ite_self] at hb; cases hb
  cases hL with
  | nil => exact fin (muT none) (hN e) _ (start_none none h0) (muT_top _ _) .nilSlice roN (nil_none ..)
  | empty a' c' => exact fin (muT none) (hN e) _ (start_none none h0) (muT_top _ _) (.empty (b := 1) (o := 0) (s := 0)) roN (nil_empty ..)
  | some b' off l c' C e' fz' y z h hy hz =>
    refine fin (muT (some ⟨b', off, C.size - off, 0, true⟩)) (hL e [.int .i64 y, .int .i64 z] e') (.slice (some ⟨1, 0, none⟩) (l + 1) c') (start_link h0 h hy hz) (muT_top _ _) ?_ (fun b o hb => ?_) (nil_link ..)
    · have := VRel.slice (μ := muT (some ⟨b', off, C.size - off, 0, true⟩)) (b := 1) (o := 0) (l := l + 1) (c := c') (c' := c') rfl (Nat.le_refl _) (fun _ => rfl) (.inl rfl)
      rw [show 0 + (⟨b', off, C.size - off, 0, true⟩ : Img).d = off from Nat.zero_add _] at this
      exact this
    · rw [hL_get] at hb
      split at hb
      · cases hb; rfl
      · split at hb
        · cases hb; rfl
        · cases hb
end Go.Ev
