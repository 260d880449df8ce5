/- angeluslaw53.FamilyNil returns true at every input, and its arguments read behind the call as they did before: the row, and its tied card. No condition. -/
import Derived.Test.YtfickkmgbecamaaGreatDoorOpen
import Derived.Test.YtfickkmgbecamaaGreatDoorTie
import Derived.Test.YtfickkmgbecamaaGreatDoorCards
import Derived.Stop.Joined
import Derived.SevenTiedAt
namespace Go.Ev
open Go.Proofs Go.Proofs.YtfickkmgbecamaaGreatDoor Go.ChangeShapes Go.WideShapes Go.RowKit
set_option maxRecDepth 100000
section
variable {H : Type} {enc : TypeId × Value → H} {W : World} {held : Bool} {spare : Nat → Bool}

theorem list15 {α : Type} {l : List α} (h : l.length = 15) : ∃ c0 c1 c2 c3 c4 c5 c6 c7 c8 c9 c10 c11 c12 c13 c14, l = [c0, c1, c2, c3, c4, c5, c6, c7, c8, c9, c10, c11, c12, c13, c14] := by
  match l, h with
  | [c0, c1, c2, c3, c4, c5, c6, c7, c8, c9, c10, c11, c12, c13, c14], _ => exact ⟨c0, c1, c2, c3, c4, c5, c6, c7, c8, c9, c10, c11, c12, c13, c14, rfl⟩

/-- A configuration by value: its numbers, and its links as they stand. -/
theorem open_cfg {b0 : Nat} {v : Value} {d : DataW H} {p : List MemPlace} (hv : Value.okWide Tryz.prog W .any b0 26 v) (h : DataW.Trod enc Tryz.prog W 0 spare held 26 v d p) :
    ∃ N L F a b c d f g i s hi fl q bo, v = cfg N L F a b c d f g i s hi fl q bo ∧ Links W L := by
  obtain ⟨cs, rfl, hsz⟩ := okWide_struct Tryz.underlying26 hv
  obtain ⟨fuel, hf⟩ := h
  obtain ⟨xs, n, _, _, hl, hlen, hall⟩ := DataW.trod_struct Tryz.underlying26 hf
  have hl15 : cs.toList.length = 15 := by
    rw [show Tryz.prog.cellsOf 26 = 15 by kernel_rfl] at hsz
    simpa using hsz
  obtain ⟨c0, c1, c2, c3, c4, c5, c6, c7, c8, c9, c10, c11, c12, c13, c14, hcs⟩ := list15 hl15
  obtain rfl : cs = #[c0, c1, c2, c3, c4, c5, c6, c7, c8, c9, c10, c11, c12, c13, c14] := by rw [← Array.toList_inj, hcs]
  have one : ∀ t, t = 2 ∨ t = 3 ∨ t = 24 → Tryz.prog.cellsOf t = 1 := by rintro t (rfl | rfl | rfl) <;> kernel_rfl
  have hx : ∀ j, j < 15 → ∃ y, xs[j]? = some y := fun j hj => ⟨xs[j]'(by rw [hlen]; exact hj), List.getElem?_eq_getElem _⟩
  have g0 : DataW.trod enc Tryz.prog W 0 spare held n 3 (([c0, c1, c2, c3, c4, c5, c6, c7, c8, c9, c10, c11, c12, c13, c14].drop 0).take (Tryz.prog.cellsOf 3)) = xs[0]? := hall 0 _ rfl
  obtain ⟨y0, hy0⟩ := hx 0 (by omega)
  rw [hy0] at g0
  obtain ⟨z0, e0, _, _⟩ := DataW.trod_int Tryz.underlying3 g0
  rw [one 3 (by simp)] at e0
  simp at e0
  have g1 : DataW.trod enc Tryz.prog W 0 spare held n 24 (([c0, c1, c2, c3, c4, c5, c6, c7, c8, c9, c10, c11, c12, c13, c14].drop 1).take (Tryz.prog.cellsOf 24)) = xs[1]? := hall 1 _ rfl
  obtain ⟨y1, hy1⟩ := hx 1 (by omega)
  rw [hy1] at g1
  rw [one 24 (by simp)] at g1
  have k1 : Links W c1 := links_open (n := n) (y := y1) (by simpa using g1)
  have g2 : DataW.trod enc Tryz.prog W 0 spare held n 3 (([c0, c1, c2, c3, c4, c5, c6, c7, c8, c9, c10, c11, c12, c13, c14].drop 2).take (Tryz.prog.cellsOf 3)) = xs[2]? := hall 2 _ rfl
  obtain ⟨y2, hy2⟩ := hx 2 (by omega)
  rw [hy2] at g2
  obtain ⟨z2, e2, _, _⟩ := DataW.trod_int Tryz.underlying3 g2
  rw [one 3 (by simp)] at e2
  simp at e2
  have g3 : DataW.trod enc Tryz.prog W 0 spare held n 2 (([c0, c1, c2, c3, c4, c5, c6, c7, c8, c9, c10, c11, c12, c13, c14].drop 3).take (Tryz.prog.cellsOf 2)) = xs[3]? := hall 3 _ rfl
  obtain ⟨y3, hy3⟩ := hx 3 (by omega)
  rw [hy3] at g3
  obtain ⟨z3, e3, _, _⟩ := DataW.trod_int Tryz.underlying2 g3
  rw [one 2 (by simp)] at e3
  simp at e3
  have g4 : DataW.trod enc Tryz.prog W 0 spare held n 2 (([c0, c1, c2, c3, c4, c5, c6, c7, c8, c9, c10, c11, c12, c13, c14].drop 4).take (Tryz.prog.cellsOf 2)) = xs[4]? := hall 4 _ rfl
  obtain ⟨y4, hy4⟩ := hx 4 (by omega)
  rw [hy4] at g4
  obtain ⟨z4, e4, _, _⟩ := DataW.trod_int Tryz.underlying2 g4
  rw [one 2 (by simp)] at e4
  simp at e4
  have g5 : DataW.trod enc Tryz.prog W 0 spare held n 2 (([c0, c1, c2, c3, c4, c5, c6, c7, c8, c9, c10, c11, c12, c13, c14].drop 5).take (Tryz.prog.cellsOf 2)) = xs[5]? := hall 5 _ rfl
  obtain ⟨y5, hy5⟩ := hx 5 (by omega)
  rw [hy5] at g5
  obtain ⟨z5, e5, _, _⟩ := DataW.trod_int Tryz.underlying2 g5
  rw [one 2 (by simp)] at e5
  simp at e5
  have g6 : DataW.trod enc Tryz.prog W 0 spare held n 2 (([c0, c1, c2, c3, c4, c5, c6, c7, c8, c9, c10, c11, c12, c13, c14].drop 6).take (Tryz.prog.cellsOf 2)) = xs[6]? := hall 6 _ rfl
  obtain ⟨y6, hy6⟩ := hx 6 (by omega)
  rw [hy6] at g6
  obtain ⟨z6, e6, _, _⟩ := DataW.trod_int Tryz.underlying2 g6
  rw [one 2 (by simp)] at e6
  simp at e6
  have g7 : DataW.trod enc Tryz.prog W 0 spare held n 2 (([c0, c1, c2, c3, c4, c5, c6, c7, c8, c9, c10, c11, c12, c13, c14].drop 7).take (Tryz.prog.cellsOf 2)) = xs[7]? := hall 7 _ rfl
  obtain ⟨y7, hy7⟩ := hx 7 (by omega)
  rw [hy7] at g7
  obtain ⟨z7, e7, _, _⟩ := DataW.trod_int Tryz.underlying2 g7
  rw [one 2 (by simp)] at e7
  simp at e7
  have g8 : DataW.trod enc Tryz.prog W 0 spare held n 2 (([c0, c1, c2, c3, c4, c5, c6, c7, c8, c9, c10, c11, c12, c13, c14].drop 8).take (Tryz.prog.cellsOf 2)) = xs[8]? := hall 8 _ rfl
  obtain ⟨y8, hy8⟩ := hx 8 (by omega)
  rw [hy8] at g8
  obtain ⟨z8, e8, _, _⟩ := DataW.trod_int Tryz.underlying2 g8
  rw [one 2 (by simp)] at e8
  simp at e8
  have g9 : DataW.trod enc Tryz.prog W 0 spare held n 2 (([c0, c1, c2, c3, c4, c5, c6, c7, c8, c9, c10, c11, c12, c13, c14].drop 9).take (Tryz.prog.cellsOf 2)) = xs[9]? := hall 9 _ rfl
  obtain ⟨y9, hy9⟩ := hx 9 (by omega)
  rw [hy9] at g9
  obtain ⟨z9, e9, _, _⟩ := DataW.trod_int Tryz.underlying2 g9
  rw [one 2 (by simp)] at e9
  simp at e9
  have g10 : DataW.trod enc Tryz.prog W 0 spare held n 3 (([c0, c1, c2, c3, c4, c5, c6, c7, c8, c9, c10, c11, c12, c13, c14].drop 10).take (Tryz.prog.cellsOf 3)) = xs[10]? := hall 10 _ rfl
  obtain ⟨y10, hy10⟩ := hx 10 (by omega)
  rw [hy10] at g10
  obtain ⟨z10, e10, _, _⟩ := DataW.trod_int Tryz.underlying3 g10
  rw [one 3 (by simp)] at e10
  simp at e10
  have g11 : DataW.trod enc Tryz.prog W 0 spare held n 3 (([c0, c1, c2, c3, c4, c5, c6, c7, c8, c9, c10, c11, c12, c13, c14].drop 11).take (Tryz.prog.cellsOf 3)) = xs[11]? := hall 11 _ rfl
  obtain ⟨y11, hy11⟩ := hx 11 (by omega)
  rw [hy11] at g11
  obtain ⟨z11, e11, _, _⟩ := DataW.trod_int Tryz.underlying3 g11
  rw [one 3 (by simp)] at e11
  simp at e11
  have g12 : DataW.trod enc Tryz.prog W 0 spare held n 3 (([c0, c1, c2, c3, c4, c5, c6, c7, c8, c9, c10, c11, c12, c13, c14].drop 12).take (Tryz.prog.cellsOf 3)) = xs[12]? := hall 12 _ rfl
  obtain ⟨y12, hy12⟩ := hx 12 (by omega)
  rw [hy12] at g12
  obtain ⟨z12, e12, _, _⟩ := DataW.trod_int Tryz.underlying3 g12
  rw [one 3 (by simp)] at e12
  simp at e12
  have g13 : DataW.trod enc Tryz.prog W 0 spare held n 3 (([c0, c1, c2, c3, c4, c5, c6, c7, c8, c9, c10, c11, c12, c13, c14].drop 13).take (Tryz.prog.cellsOf 3)) = xs[13]? := hall 13 _ rfl
  obtain ⟨y13, hy13⟩ := hx 13 (by omega)
  rw [hy13] at g13
  obtain ⟨z13, e13, _, _⟩ := DataW.trod_int Tryz.underlying3 g13
  rw [one 3 (by simp)] at e13
  simp at e13
  have g14 : DataW.trod enc Tryz.prog W 0 spare held n 3 (([c0, c1, c2, c3, c4, c5, c6, c7, c8, c9, c10, c11, c12, c13, c14].drop 14).take (Tryz.prog.cellsOf 3)) = xs[14]? := hall 14 _ rfl
  obtain ⟨y14, hy14⟩ := hx 14 (by omega)
  rw [hy14] at g14
  obtain ⟨z14, e14, _, _⟩ := DataW.trod_int Tryz.underlying3 g14
  rw [one 3 (by simp)] at e14
  simp at e14
  subst e0 e2 e3 e4 e5 e6 e7 e8 e9 e10 e11 e12 e13 e14
  exact ⟨z0, c1, z2, z3, z4, z5, z6, z7, z8, z9, z10, z11, z12, z13, z14, rfl, k1⟩
end
end Go.Ev
namespace Go.Proofs.YtfickkmgbecamaaGreatDoor
open Go Go.ChangeShapes Go.WideShapes Go.ChangeAt Go.RowKit Go.Ev

theorem own : ownKnob Tryz.prog.godebug = none := by kernel_rfl
theorem laidOut : laidOutB Tryz.prog = true := by kernel_rfl

theorem door_met (os : Os) (args : Array Value) : laidMetH Tryz.prog Rows.familyNilRow.laid ((World.doorLaid Tryz.prog 400 os).forCall (fun _ _ => 0) ⟨#[], args, []⟩).memory :=
  laidMetH_of_parts3 (fuel := 8) (laidMet_of_run' 8 (by kernel_rfl) (by kernel_rfl)) (by kernel_rfl) (by kernel_rfl)

set_option maxRecDepth 100000 in
theorem lifted (os : Os) (started : os.Started) (H : Type) (enc : TypeId × Value → H) :
    ReturnsInHanded {} Tryz.checked os 4 .any (fun w args => (Rows.familyNilSpec.pre enc Tryz.prog Tryz.f4 [] false w args ∧ laidMetH Tryz.prog Rows.familyNilRow.laid w) ∧ sizedMet enc Tryz.prog Tryz.f4 (OpenSpec.ofChange Rows.familyNilSpec) false w args)
      (Rows.familyNilSpec.post enc Tryz.prog Tryz.f4 false true false false) := by
  refine returnsInHanded_of_change_and (C := Tryz.checked) (X := fun w _ => laidMetH Tryz.prog Rows.familyNilRow.laid w) (fun _ _ _ hh h => h.of_heap hh) own started (by kernel_rfl) Tryz.func4
    (ChangeSpec.witness_shaped (enc := enc) (C := Tryz.checked) (os := os) (X := fun w _ => laidMetH Tryz.prog Rows.familyNilRow.laid w) false (World.doorLaid Tryz.prog 400 os)
      #[cfg 0 (.slice none 0 0) 0 0 0 0 0 0 0 0 0 0 0 0 0, .int .u8 0] 8 rfl (World.shaped_of_RefB (by kernel_rfl) (by kernel_rfl)) (by kernel_rfl) (by kernel_rfl) (by kernel_rfl) (door_met os _)) ?_
  intro W base args ds gs before hval0 hW _ _ hL _
  have hval : ∀ (j : Nat) t v, Tryz.f4.params[j]? = some t → args[j]? = some v → Value.okWide Tryz.prog W .any base t v := hval0
  have hW' := hW
  obtain ⟨p, q, hA0, hV, rfl, hfz, hnd⟩ := hW
  have hA : DataW.TrodAll enc Tryz.prog W 0 (fun _ => true) true Tryz.f4.params.toList args.toList ds p := hA0
  rw [Tryz.params4] at hA hval
  obtain ⟨v0, vs0, d0, ds0, p0, q0, hargs, rfl, rfl, h0, r0⟩ := trodAll_cons hA
  obtain ⟨v1, vs1, d1, ds1, p1, q1, rfl, rfl, rfl, h1, r1⟩ := trodAll_cons r0
  obtain ⟨rfl, rfl, rfl⟩ := trodAll_nil r1
  obtain rfl : args = #[v0, v1] := by cases args; simp_all
  obtain ⟨rfl, rfl⟩ := trodVars_none hV
  have k0 := h0
  have lt0 : ∀ x ∈ p0, x.block < W.heap.size := by obtain ⟨m, hm⟩ := k0; exact DataW.trod_lt m _ _ _ hm
  obtain ⟨N, L, F, a, b, c, d, f, g, i, s, hi, fl, q, bo, rfl, hlk⟩ := open_cfg (hval 0 26 v0 rfl rfl) h0
  obtain ⟨x, rfl, rfl, rfl, w1⟩ := open_int Tryz.underlying5 (hval 1 5 v1 rfl rfl) h1
  clear hA0 hval0
  refine (call_nil (table_is hL) hlk N F a b c d f g i s hi fl q bo x).mono fun e W' ⟨he, bel⟩ => ?_
  subst he
  exact ⟨_, rfl, _, _, _, [], _, [], hW', trodAll_mk1 (shut_bool Tryz.underlying4 _), (trodAll_cons_mk (Below.trod laidOut (by kernel_rfl) (of_decide_eq_true (by kernel_rfl)) k0 bel lt0) (trodAll_cons_mk (shut_int Tryz.underlying5 w1) trodAll_mk0)), rfl, bel.frame _, fun h => by cases h⟩

theorem familyNil_holds : Rows.FamilyNilSaid :=
  OpenClaim.holds_of_wide 4 Tryz.f4 rfl rfl rfl rfl rfl rfl rfl ⟨rfl, rfl, rfl, rfl, rfl⟩ rfl rfl rfl rfl rfl (by kernel_rfl) Tryz.func4 (by kernel_rfl)
    (of_decide_eq_true (by kernel_rfl)) (by unfold Func.isWrapper; first | (rw [if_pos (by decide +kernel)]; kernel_rfl) | (rw [if_neg (by decide +kernel)]; exact ⟨rfl, rfl⟩))
    (fun os started H enc _ => lifted os started H enc)

theorem familyNil_card : Rows.FamilyNilCardSaid :=
  Claim7.holds_tied_plain_at .later [] [.data] true (true, "26b830874131c323b1706c20b9c8eb81d52b5ea0caace856cef8af5aa6fedf32") false
    familyNil_holds (fun _ h => by cases h) (by kernel_rfl) (fun _ h => by cases h) familyNil_row_tie rfl ⟨rfl, rfl⟩ (by kernel_rfl) rfl
    (fun f fn hf hfn => by
      obtain rfl : f = 4 := Option.some.inj ((show Tryz.prog.funcNamed "angelus/angeluslaw53.FamilyNil" = some 4 by kernel_rfl).symm.trans hf) |>.symm
      obtain rfl : fn = Tryz.f4 := (Option.some.inj (Tryz.func4.symm.trans hfn)).symm
      exact ⟨by kernel_rfl, fun j t ht => by
        rw [Tryz.params4] at ht
        have hm : t ∈ [26, 5] := by simpa using Array.mem_of_getElem? ht
        have hall : ([26, 5].all fun u => !Tryz.prog.wantsStandIn u) = true := by kernel_rfl
        exact (show Tryz.prog.wantsStandIn t = false by simpa using List.all_eq_true.1 hall t hm)⟩)
    (by kernel_rfl)
#print axioms familyNil_card
end Go.Proofs.YtfickkmgbecamaaGreatDoor
