/- angeluslaw18.CutSets returns true at every input, and its arguments read behind the call as they did before: the row, and its tied card. No condition. -/
import Derived.Test.YtfickkmgbecamaaDoorSetsD
import Derived.Test.YtfickkmgbecamaaDoorSetsE
import Derived.Test.YtfickkmgbecamaaDoorRows
import Derived.Test.YtfickkmgbecamaaDoorTie
import Derived.Test.YtfickkmgbecamaaDoorCards
import Derived.ProofKit
import Derived.OpenShut
import Derived.LaidMore
import Derived.Lib.LaidTab
import Derived.Deep.Slices
import Derived.Stop.Joined
import Derived.SevenTiedAt
namespace Go.Ev
open Go.Proofs Go.Proofs.YtfickkmgbecamaaDoor Go.ChangeShapes Go.WideShapes Go.RowKit
set_option maxRecDepth 100000

theorem far_eq (m : Nat) (hm : m < 65536) : farI (.ofNat m) = .ofNat m := by
  unfold farI
  rw [← wrapF_eq]
  simp only [wrapF, wrapS]
  have e : m % 18446744073709551616 = m := Nat.mod_eq_of_lt (by omega)
  rw [e, show Nat.blt m 9223372036854775808 = true by rw [Nat.blt_eq]; omega]
theorem next_eq (m : Nat) (hm : m < 65536) : wrapF .i64 (.ofNat m + 1) = .ofNat (m + 1) := by
  show wrapS 18446744073709551616 9223372036854775808 (.ofNat (m + 1)) = _
  simp only [wrapS]
  have e : (m + 1) % 18446744073709551616 = m + 1 := Nat.mod_eq_of_lt (by omega)
  rw [e, show Nat.blt (m + 1) 9223372036854775808 = true by rw [Nat.blt_eq]; omega]

theorem endT_all (m : Nat) (hm : m < 65536) (L k : Nat) (h : k = min L (m + 1)) : (endT (.ofNat m) L k).All (· = .bool true) := by
  unfold endT
  rw [far_eq m hm, next_eq m hm]
  have e : eqI (.ofNat k) (minI (.ofNat L) (.ofNat (m + 1))) = true := by
    rw [eqI_eq]
    simp only [minI, minN_eq]
    rw [h]; simp
  exact ⟨fun _ => rfl, fun hf => by rw [e] at hf; cases hf⟩

theorem mainT_all (m : Nat) (hm : m < 65536) (L : Nat) : ∀ k i, i + k = L + 1 → i ≤ m + 1 → (mainT (.ofNat m) L k i).All (· = .bool true)
  | 0, i, h, hi => endT_all m hm L L (by omega)
  | k + 1, i, h, hi => by
    refine ⟨fun hb => endT_all m hm L i ?_, fun hb => mainT_all m hm L k (i + 1) (by omega) ?_⟩
    · rw [far_eq m hm, ltI_eq] at hb
      have : (Int.ofNat m) < Int.ofNat i := by simpa using hb
      have : m < i := by simpa using this
      omega
    · rw [far_eq m hm, ltI_eq] at hb
      have : ¬ (Int.ofNat m) < Int.ofNat i := by simpa using hb
      have : ¬ m < i := by simpa using this
      omega

theorem wholeT_all (a b m r s L : Nat) (hm : m < 65536) (ha : a % 9 = r) (hb : b % 5 = s) : (wholeT (.ofNat a) (.ofNat b) (.ofNat m) r s L).All (· = .bool true) := by
  have ea : eqI ((Int.ofNat a).tmod 9) (.ofNat r) = true := by subst ha; rw [show (Int.ofNat a).tmod 9 = Int.ofNat (a % 9) from rfl, eqI_eq]; exact beq_self_eq_true _
  have eb : eqI ((Int.ofNat b).tmod 5) (.ofNat s) = true := by subst hb; rw [show (Int.ofNat b).tmod 5 = Int.ofNat (b % 5) from rfl, eqI_eq]; exact beq_self_eq_true _
  unfold wholeT
  rw [ea, eb]
  exact ⟨fun _ => ⟨fun _ => ⟨fun _ => ⟨fun _ => mainT_all m hm L L 1 (by omega) (by omega), fun h => by cases h⟩, fun h => by cases h⟩, fun h => by cases h⟩, fun h => by cases h⟩

theorem table_is {W : World} (h : laidMetH Tryd.prog [("math/bits.deBruijn64tab", Rows.laid_math_bits_deBruijn64tab)] W) : ∃ e fz, W.heap[0]? = some (.cells db.toArray e fz) := by
  rw [MakeChecks.laidMetH_plain _ _ _ (by kernel_rfl)] at h
  have h2 : laidMet Tryd.prog [("math/bits.deBruijn64tab", Lib.tabData .u8 (dbN.map Int.ofNat))] W := h
  have ht := Lib.tabIs_of_head (g := 0) (t := 125) (e := 5) (n := 64) (by kernel_rfl) (by kernel_rfl) (by kernel_rfl) (by kernel_rfl) (by kernel_rfl) (by kernel_rfl) h2
  unfold Lib.TabIs World.var? at ht
  rw [show Tryd.prog.globalNamed "math/bits.deBruijn64tab" = some 0 by kernel_rfl] at ht
  simp only [Option.bind_some] at ht
  split at ht
  · rename_i cs e fz hh
    cases ht
    exact ⟨e, fz, hh⟩
  · cases ht

theorem db_size : db.toArray.size = 64 := by kernel_rfl

def muT : Mu := fun b => if b = 0 then some ⟨0, 0, 64, 0, true⟩ else none
theorem start_table {W : World} {e : TypeId} {fz : Nat × Nat} (h0 : W.heap[0]? = some (.cells db.toArray e fz)) : Rel Tryd.prog muT (hD e) W := by
  refine Rel.ro (fun b o hb => ?_) (fun g hg => ?_)
  · rw [hD_get] at hb
    split at hb <;> cases hb
    rename_i hb0; subst hb0
    refine ⟨rfl, _, rfl, db.toArray, fz, h0, fun h => (by cases h), db_size.symm, by show db.length ≤ 64; exact Nat.le_of_ble_eq_true (by kernel_rfl), fun k v hk => ⟨v, by simpa using hk, .of_pv1 (List.all_eq_true.1 db_plain v (List.mem_of_getElem? hk))⟩, fun _ => rfl, fun h => by rcases h with h | h <;> cases h⟩
  · have hg0 : g = 0 := by rw [globals_one] at hg; omega
    subst hg0
    exact ⟨_, rfl, rfl, rfl⟩
theorem muT_top (e : TypeId) : Top muT (hD e) := fun b hb => by
  have : 1 ≤ b := hb
  unfold muT
  rw [if_neg (by omega)]

theorem call_sets {W : World} (hT : ∃ e fz, W.heap[0]? = some (.cells db.toArray e fz)) (a b m : Nat) (hm : m < 65536) :
    Calls Tryd.prog 5 #[.int .u8 (.ofNat a), .int .u8 (.ofNat b), .int .u16 (.ofNat m)] W fun e w' => e = .returned (.bool true) ∧ Below W.heap.size W w' := by
  obtain ⟨e, fz, h0⟩ := hT
  have fin : ∀ r s L, a % 9 = r → b % 5 = s → ((evN Tryd.prog oWorks (kSets r s) 400).call 5 #[.int .u8 (.ofNat a), .int .u8 (.ofNat b), .int .u16 (.ofNat m)] (hD e)).map (·.1) = wholeT (.ofNat a) (.ofNat b) (.ofNat m) r s L →
      Calls Tryd.prog 5 #[.int .u8 (.ofNat a), .int .u8 (.ofNat b), .int .u16 (.ofNat m)] W fun e w' => e = .returned (.bool true) ∧ Below W.heap.size W w' := by
    intro r s L ha hb ht
    obtain ⟨v, h', rfl, hc⟩ := evN_call oWorks_ok ht (wholeT_all a b m r s L hm ha hb)
    refine (hc.calls (args' := #[.int .u8 (.ofNat a), .int .u8 (.ofNat b), .int .u16 (.ofNat m)]) (start_table h0) (muT_top e) ?_ (hD_ro e)).mono fun e w' ⟨μ', v', he, hv', hb⟩ => ?_
    · exact .cons (.int _ _) (.cons (.int _ _) (.cons (.int _ _) .nil))
    · cases hv'
      exact ⟨he, hb⟩
  rcases (by omega : a % 9 = 0 ∨ a % 9 = 1 ∨ a % 9 = 2 ∨ a % 9 = 3 ∨ a % 9 = 4 ∨ a % 9 = 5 ∨ a % 9 = 6 ∨ a % 9 = 7 ∨ a % 9 = 8) with ha | ha | ha | ha | ha | ha | ha | ha | ha <;>
    rcases (by omega : b % 5 = 0 ∨ b % 5 = 1 ∨ b % 5 = 2 ∨ b % 5 = 3 ∨ b % 5 = 4) with hb | hb | hb | hb | hb
  · exact fin 0 0 1 ha hb (t00 ..)
  · exact fin 0 1 1 ha hb (t01 ..)
  · exact fin 0 2 1 ha hb (t02 ..)
  · exact fin 0 3 1 ha hb (t03 ..)
  · exact fin 0 4 1 ha hb (t04 ..)
  · exact fin 1 0 1 ha hb (t10 ..)
  · exact fin 1 1 2 ha hb (t11 ..)
  · exact fin 1 2 2 ha hb (t12 ..)
  · exact fin 1 3 2 ha hb (t13 ..)
  · exact fin 1 4 2 ha hb (t14 ..)
  · exact fin 2 0 1 ha hb (t20 ..)
  · exact fin 2 1 3 ha hb (t21 ..)
  · exact fin 2 2 4 ha hb (t22 ..)
  · exact fin 2 3 4 ha hb (t23 ..)
  · exact fin 2 4 4 ha hb (t24 ..)
  · exact fin 3 0 1 ha hb (t30 ..)
  · exact fin 3 1 4 ha hb (t31 ..)
  · exact fin 3 2 7 ha hb (t32 ..)
  · exact fin 3 3 8 ha hb (t33 ..)
  · exact fin 3 4 8 ha hb (t34 ..)
  · exact fin 4 0 1 ha hb (t40 ..)
  · exact fin 4 1 5 ha hb (t41 ..)
  · exact fin 4 2 11 ha hb (t42 ..)
  · exact fin 4 3 15 ha hb (t43 ..)
  · exact fin 4 4 16 ha hb (t44 ..)
  · exact fin 5 0 1 ha hb (t50 ..)
  · exact fin 5 1 6 ha hb (t51 ..)
  · exact fin 5 2 16 ha hb (t52 ..)
  · exact fin 5 3 26 ha hb (t53 ..)
  · exact fin 5 4 31 ha hb (t54 ..)
  · exact fin 6 0 1 ha hb (t60 ..)
  · exact fin 6 1 7 ha hb (t61 ..)
  · exact fin 6 2 22 ha hb (t62 ..)
  · exact fin 6 3 42 ha hb (t63 ..)
  · exact fin 6 4 57 ha hb (t64 ..)
  · exact fin 7 0 1 ha hb (t70 ..)
  · exact fin 7 1 8 ha hb (t71 ..)
  · exact fin 7 2 29 ha hb (t72 ..)
  · exact fin 7 3 64 ha hb (t73 ..)
  · exact fin 7 4 99 ha hb (t74 ..)
  · exact fin 8 0 1 ha hb (t80 ..)
  · exact fin 8 1 9 ha hb (t81 ..)
  · exact fin 8 2 37 ha hb (t82 ..)
  · exact fin 8 3 93 ha hb (t83 ..)
  · exact fin 8 4 163 ha hb (t84 ..)
end Go.Ev
namespace Go.Proofs.YtfickkmgbecamaaDoor
open Go Go.ChangeShapes Go.WideShapes Go.ChangeAt Go.RowKit Go.Ev

theorem own : ownKnob Tryd.prog.godebug = none := by kernel_rfl
theorem laidOut : laidOutB Tryd.prog = true := by kernel_rfl

theorem door_met (os : Os) (args : Array Value) : laidMetH Tryd.prog Rows.cutSetsRow.laid ((World.doorLaid Tryd.prog 400 os).forCall (fun _ _ => 0) ⟨#[], args, []⟩).memory :=
  laidMetH_of_parts3 (fuel := 8) (laidMet_of_run' 8 (by kernel_rfl) (by kernel_rfl)) (by kernel_rfl) (by kernel_rfl)

theorem nat_of {k : IntKind} {n : Int} (hk : k = .u8 ∨ k = .u16) (h : (Lit.int k n).wf = true) : ∃ m : Nat, n = .ofNat m ∧ m < 65536 := by
  have hb : 0 ≤ n ∧ n < 65536 := by
    rcases hk with rfl | rfl
    · have := bounds_u8 h; omega
    · have := bounds_u16 h; omega
  obtain ⟨m, rfl⟩ := Int.eq_ofNat_of_zero_le hb.1
  exact ⟨m, rfl, by omega⟩

set_option maxRecDepth 100000 in
theorem lifted (os : Os) (started : os.Started) (H : Type) (enc : TypeId × Value → H) :
    ReturnsInHanded {} Tryd.checked os 5 .any (fun w args => (Rows.cutSetsSpec.pre enc Tryd.prog Tryd.f5 [] false w args ∧ laidMetH Tryd.prog Rows.cutSetsRow.laid w) ∧ sizedMet enc Tryd.prog Tryd.f5 (OpenSpec.ofChange Rows.cutSetsSpec) false w args)
      (Rows.cutSetsSpec.post enc Tryd.prog Tryd.f5 false true false false) := by
  refine returnsInHanded_of_change_and (C := Tryd.checked) (X := fun w _ => laidMetH Tryd.prog Rows.cutSetsRow.laid w) (fun _ _ _ hh h => h.of_heap hh) own started (by kernel_rfl) Tryd.func5
    (ChangeSpec.witness_shaped (enc := enc) (C := Tryd.checked) (os := os) (X := fun w _ => laidMetH Tryd.prog Rows.cutSetsRow.laid w) false (World.doorLaid Tryd.prog 400 os)
      #[.int .u8 0, .int .u8 0, .int .u16 0] 8 rfl (World.shaped_of_RefB (by kernel_rfl) (by kernel_rfl)) (by kernel_rfl) (by kernel_rfl) (by kernel_rfl) (door_met os _)) ?_
  intro W base args ds gs before hval0 hW _ _ hL _
  have hval : ∀ (j : Nat) t v, Tryd.f5.params[j]? = some t → args[j]? = some v → Value.okWide Tryd.prog W .any base t v := hval0
  have hW' := hW
  obtain ⟨p, q, hA0, hV, rfl, hfz, hnd⟩ := hW
  have hA : DataW.TrodAll enc Tryd.prog W 0 (fun _ => true) true Tryd.f5.params.toList args.toList ds p := hA0
  rw [Tryd.params5] at hA hval
  obtain ⟨v0, vs0, d0, ds0, p0, q0, hargs, rfl, rfl, h0, r0⟩ := trodAll_cons hA
  obtain ⟨v1, vs1, d1, ds1, p1, q1, rfl, rfl, rfl, h1, r1⟩ := trodAll_cons r0
  obtain ⟨v2, vs2, d2, ds2, p2, q2, rfl, rfl, rfl, h2, r2⟩ := trodAll_cons r1
  obtain ⟨rfl, rfl, rfl⟩ := trodAll_nil r2
  obtain rfl : args = #[v0, v1, v2] := by cases args; simp_all
  obtain ⟨rfl, rfl⟩ := trodVars_none hV
  obtain ⟨x0, rfl, rfl, rfl, w0⟩ := open_int Tryd.underlying5 (hval 0 5 v0 rfl rfl) h0
  obtain ⟨x1, rfl, rfl, rfl, w1⟩ := open_int Tryd.underlying5 (hval 1 5 v1 rfl rfl) h1
  obtain ⟨x2, rfl, rfl, rfl, w2⟩ := open_int Tryd.underlying44 (hval 2 44 v2 rfl rfl) h2
  obtain ⟨m0, rfl, _⟩ := nat_of (.inl rfl) w0
  obtain ⟨m1, rfl, _⟩ := nat_of (.inl rfl) w1
  obtain ⟨m2, rfl, hm2⟩ := nat_of (.inr rfl) w2
  clear hA0 hval0
  refine (call_sets (table_is hL) m0 m1 m2 hm2).mono fun e W' ⟨he, bel⟩ => ?_
  subst he
  exact ⟨_, rfl, _, _, _, [], _, [], hW', trodAll_mk1 (shut_bool Tryd.underlying4 _), (trodAll_cons_mk (shut_int Tryd.underlying5 w0) (trodAll_cons_mk (shut_int Tryd.underlying5 w1) (trodAll_cons_mk (shut_int Tryd.underlying44 w2) trodAll_mk0))), rfl, bel.frame _, fun h => by cases h⟩

theorem cutSets_holds : Rows.CutSetsSaid :=
  OpenClaim.holds_of_wide 5 Tryd.f5 rfl rfl rfl rfl rfl rfl rfl ⟨rfl, rfl, rfl, rfl, rfl⟩ rfl rfl rfl rfl rfl (by kernel_rfl) Tryd.func5 (by kernel_rfl)
    (of_decide_eq_true (by kernel_rfl)) (by unfold Func.isWrapper; first | (rw [if_pos (by decide +kernel)]; kernel_rfl) | (rw [if_neg (by decide +kernel)]; exact ⟨rfl, rfl⟩))
    (fun os started H enc _ => lifted os started H enc)

theorem cutSets_card : Rows.CutSetsCardSaid :=
  Claim7.holds_tied_plain_at .later [] [.data] true (true, "fe653b9597107df6fe9ca6c30d64f9c1bbccc133622e2f69375cb7d957815eab") false
    cutSets_holds (fun _ h => by cases h) (by kernel_rfl) (fun _ h => by cases h) cutSets_row_tie rfl ⟨rfl, rfl⟩ (by kernel_rfl) rfl
    (fun f fn hf hfn => by
      obtain rfl : f = 5 := Option.some.inj ((show Tryd.prog.funcNamed "angelus/angeluslaw18.CutSets" = some 5 by kernel_rfl).symm.trans hf) |>.symm
      obtain rfl : fn = Tryd.f5 := (Option.some.inj (Tryd.func5.symm.trans hfn)).symm
      exact ⟨by kernel_rfl, fun j t ht => by
        rw [Tryd.params5] at ht
        have hm : t ∈ [5, 5, 44] := by simpa using Array.mem_of_getElem? ht
        have hall : ([5, 5, 44].all fun u => !Tryd.prog.wantsStandIn u) = true := by kernel_rfl
        exact (show Tryd.prog.wantsStandIn t = false by simpa using List.all_eq_true.1 hall t hm)⟩)
    (by kernel_rfl)
#print axioms cutSets_card
end Go.Proofs.YtfickkmgbecamaaDoor
