/- Each operation that calls no function. -/
import Derived.Test.YtfickkmgbecamaaDoorEvF
import Derived.Laws.Small
import Derived.Laws.Slices
import Derived.Laws.Shifts
namespace Go.Ev

section
variable {P : Program} {μ : Mu} {h h' : AHeap} {w : World}

theorem evalO_ok (hR : Rel P μ h w) {e : Tr Value} {n : Nat} {a : Act} (hT : TmpsRel μ e n a.tmps) {x : Operand} {v : Value} (hx : evalO P.globals.size e x = some v) : VRel μ v (a.eval x) := by
  cases x with
  | tmp t =>
    obtain ⟨v', h1, h2⟩ := hT.get t v hx
    have : a.eval (.tmp t) = v' := by simp [Act.eval, Array.getD_eq_getD_getElem?, h1]
    rwa [this]
  | const c =>
    simp only [evalO] at hx
    split at hx
    · rename_i hp; cases hx; exact VRel.of_pv hp
    · cases hx
  | global g =>
    simp only [evalO] at hx
    split at hx
    · rename_i hg
      cases hx
      obtain ⟨i, hi, h1, h2⟩ := hR.glob g hg
      have := VRel.ptr (o := 0) hi
      rw [h1, h2] at this
      exact this
    · cases hx
  | func f => cases hx; exact .func f .nil .nil

theorem evalsO_ok (hR : Rel P μ h w) {e : Tr Value} {n : Nat} {a : Act} (hT : TmpsRel μ e n a.tmps) : ∀ {xs : List Operand} {vs : List Value}, evalsO P.globals.size e xs = some vs → VsRel μ vs (xs.map a.eval)
  | [], vs, h => by simp only [evalsO, Option.some.injEq] at h; subst h; exact .nil
  | x :: xs, vs, h => by
    simp only [evalsO] at h
    split at h
    · rename_i v hv
      simp only [Option.map_eq_some_iff] at h
      obtain ⟨us, hu, rfl⟩ := h
      exact .cons (evalO_ok hR hT hv) (evalsO_ok hR hT hu)
    · cases h

theorem mapO_ok (hR : Rel P μ h w) {e : Tr Value} {n : Nat} {a : Act} (hT : TmpsRel μ e n a.tmps) {xs : Array Operand} {vs : Array Value} (hx : mapO P.globals.size e xs = some vs) : VsRel μ vs.toList (xs.map a.eval).toList := by
  unfold mapO at hx
  simp only [Option.map_eq_some_iff] at hx
  obtain ⟨us, hu, rfl⟩ := hx
  simpa using evalsO_ok hR hT hu

/-! ### Values alone -/

theorem intBin_ok {op : BinOp} {k : IntKind} {a b : Int} {v : Value} (hv : intBin op k a b = some v) (t : TypeId) (w : World) : (binOp op t (.int k a) (.int k b)).run P w = .ok v w := by
  cases op <;> simp only [intBin, Option.some.injEq, reduceCtorEq] at hv
  case quo => split at hv <;> cases hv; rename_i hb; simp [binOp, Op.intDiv, hb]
  case rem => split at hv <;> cases hv; rename_i hb; simp [binOp, Op.intDiv, hb]
  all_goals (subst hv; simp [binOp, Op.intArith, Op.intBits, Op.intCmp])

theorem intBin_V {op : BinOp} {k : IntKind} {a b : Int} {v : Value} (hv : intBin op k a b = some v) : VRel μ v v := by
  cases op <;> simp only [intBin, Option.some.injEq, reduceCtorEq] at hv
  case quo => split at hv <;> cases hv; exact .int _ _
  case rem => split at hv <;> cases hv; exact .int _ _
  all_goals (subst hv; first | exact .int _ _ | exact .bool _)

theorem shiftA_ok {op : BinOp} {k k' : IntKind} {a b : Int} {v : Value} (ho : op = .shl ∨ op = .shr) (hv : shiftA op k a b = some v) (t : TypeId) (w : World) :
    (binOp op t (.int k a) (.int k' b)).run P w = .ok v w ∧ VRel μ v v := by
  unfold shiftA at hv
  split at hv
  · cases hv
  · rename_i hn
    rcases ho with rfl | rfl
    · cases hv; exact ⟨by simp [binOp, Op.shift, hn], .int _ _⟩
    · cases hv; exact ⟨by simp [binOp, Op.shift, hn], .int _ _⟩

theorem strBin_ok {op : BinOp} {a b : ByteArray} {v : Value} (hv : strBin op a b = some v) (t : TypeId) (w : World) : (binOp op t (.string a) (.string b)).run P w = .ok v w ∧ VRel μ v v := by
  cases op <;> simp only [strBin, Option.some.injEq, reduceCtorEq] at hv
  case add =>
    split at hv <;> cases hv
    rename_i hb
    exact ⟨by simp only [binOp, Op.stringOp]; rw [if_neg hb]; rfl, .string _⟩
  all_goals (subst hv; exact ⟨by simp [binOp, Op.stringOp], .bool _⟩)

theorem run_equal_succ (t : TypeId) (x y : Value) (w : World) : (Op.equal t x y).run P w = (Op.equalIn (9999 + 1) t x y).run P w := rfl

theorem frozen_own {c : List Value} {e : TypeId} {g : Bool} {i : Img} (ho : ORel P μ (.cells c e false g) i w) (k : Nat) : w.frozen? ⟨i.blk, k, none⟩ = false := by
  obtain ⟨C, fz, h1, h2, _⟩ := ho
  obtain rfl := h2 rfl
  exact frozen_of_row w i.blk k C e h1

theorem shape_own {c : List Value} {e : TypeId} {ro g : Bool} {i : Img} (ho : ORel P μ (.cells c e ro g) i w) : ∃ n, w.shape? i.blk = some (e, n) := by
  obtain ⟨C, fz, h1, _⟩ := ho
  exact ⟨C.size, by simp [World.shape?, h1]⟩

theorem run_sameAddr_own {c c' : List Value} {e e' : TypeId} {g g' : Bool} {i j : Img} (h1 : ORel P μ (.cells c e false g) i w) (h2 : ORel P μ (.cells c' e' false g') j w) (hne : i.blk ≠ j.blk) (o o' : Nat) :
    (sameAddr ⟨i.blk, o, none⟩ ⟨j.blk, o', none⟩).run P w = .ok false w := by
  obtain ⟨n1, hs1⟩ := shape_own h1
  obtain ⟨n2, hs2⟩ := shape_own h2
  have hb : (i.blk == j.blk) = false := by simpa using hne
  simp [sameAddr, hb, noView, viewAt, mayBeOne, stringish, hs1, hs2, frozen_own h1, frozen_own h2]

theorem eqA_ok (hR : Rel P μ h w) {t : TypeId} {x y x' y' : Value} {b : Bool} (hx : VRel μ x x') (hy : VRel μ y y') (he : eqA P h t x y = some b) (op : BinOp) (p q : Operand) :
    (Op.equal t x' y').run P w = .ok b w ∧ (eqGuard op t p q x' y').run P w = .ok () w := by
  unfold eqA at he
  split at he
  case h_1 hd =>
    cases hx; cases hy; cases he
    exact ⟨by rw [run_equal_succ, Op.equalIn]; simp [run_underlying hd], by simp [eqGuard]⟩
  case h_2 hd =>
    cases hx
    cases hy with
    | nilPtr => cases he; exact ⟨by rw [run_equal_succ, Op.equalIn]; simp [run_underlying hd], by simp [eqGuard]⟩
    | ptr hi => cases he; exact ⟨by rw [run_equal_succ, Op.equalIn]; simp [run_underlying hd], by simp [eqGuard]⟩
  case h_3 hd =>
    cases hx; cases hy; cases he
    exact ⟨by rw [run_equal_succ, Op.equalIn]; simp [run_underlying hd], by simp [eqGuard]⟩
  case h_4 e a i b2 j hd =>
    cases hx with
    | ptr hi =>
    cases hy with
    | ptr hj =>
    refine ⟨?_, by simp [eqGuard]⟩
    split at he
    · rename_i inf hinf
      split at he
      · cases he
      · rename_i hsz
        rw [run_equal_succ, Op.equalIn]
        simp only [Sem.run_bind, run_underlying hd, Result.andThen_ok, run_sizeOf hinf]
        rw [if_pos hsz]
        split at he
        · rename_i hab
          subst hab
          rw [hi] at hj; cases hj
          cases he
          by_cases hij : i = j
          · subst hij; simp [sameAddr]
          · have e2 : ∀ (B d : Nat), (({ block := B, off := i + d } : Addr) == { block := B, off := j + d }) = false := fun B d =>
              beq_eq_false_iff_ne.2 fun e => hij (by have := congrArg Addr.off e; simp only at this; omega)
            have e3 : (i == j) = false := beq_eq_false_iff_ne.2 hij
            simp [sameAddr, e2, e3]
        · rename_i hab
          split at he
          · rename_i how
            cases he
            simp only [Bool.and_eq_true, isOwnA] at how
            obtain ⟨h1, h2⟩ := how
            split at h1
            · rename_i c1 e1 g1 hg1
              split at h2
              · rename_i c2 e2 g2 hg2
                obtain ⟨i2, hi2, o1⟩ := hR.obj _ _ hg1
                obtain ⟨j2, hj2, o2⟩ := hR.obj _ _ hg2
                rw [hi] at hi2; cases hi2
                rw [hj] at hj2; cases hj2
                exact run_sameAddr_own o1 o2 (fun e => hab (hR.inj _ _ _ _ _ _ hg1 hg2 rfl rfl hi hj e)) _ _
              · cases h2
            · cases h1
          · cases he
    · cases he
  case h_5 hd =>
    cases hx
    cases hy with
    | nilSlice => cases he; exact ⟨by rw [run_equal_succ, Op.equalIn]; simp [run_underlying hd], by simp [eqGuard]⟩
    | slice => cases he; exact ⟨by rw [run_equal_succ, Op.equalIn]; simp [run_underlying hd], by simp [eqGuard]⟩
    | empty => cases he; exact ⟨by rw [run_equal_succ, Op.equalIn]; simp [run_underlying hd], by simp [eqGuard]⟩
  case h_6 hne hd =>
    cases hy
    cases hx with
    | nilSlice => simp at hne
    | slice => cases he; exact ⟨by rw [run_equal_succ, Op.equalIn]; simp [run_underlying hd], by simp [eqGuard]⟩
    | empty => cases he; exact ⟨by rw [run_equal_succ, Op.equalIn]; simp [run_underlying hd], by simp [eqGuard]⟩
  case h_7 hd =>
    cases hx
    cases hy with
    | nilMap => cases he; exact ⟨by rw [run_equal_succ, Op.equalIn]; simp [run_underlying hd], by simp [eqGuard]⟩
    | map => cases he; exact ⟨by rw [run_equal_succ, Op.equalIn]; simp [run_underlying hd], by simp [eqGuard]⟩
  case h_8 hne hd =>
    cases hy
    cases hx with
    | nilMap => simp at hne
    | map => cases he; exact ⟨by rw [run_equal_succ, Op.equalIn]; simp [run_underlying hd], by simp [eqGuard]⟩
  case h_9 hd => cases hx; cases hy; cases he; exact ⟨by rw [run_equal_succ, Op.equalIn]; simp [run_underlying hd], by simp [eqGuard]⟩
  case h_10 hd => cases hx; cases he; cases hy <;> exact ⟨by rw [run_equal_succ, Op.equalIn]; simp [run_underlying hd], by simp [eqGuard]⟩
  case h_11 hd => cases hy; cases he; cases hx <;> exact ⟨by rw [run_equal_succ, Op.equalIn]; simp [run_underlying hd], by simp [eqGuard]⟩
  case h_12 hd =>
    split at he
    · cases he
    · rename_i hg
      obtain ⟨q1, q2⟩ := eqP_qv he
      rw [hx.eq_of_qv q1, hy.eq_of_qv q2]
      refine ⟨eqP_ok he w, ?_⟩
      simp only [Bool.not_eq_true] at hg
      cases op <;> simp [eqGuard, hg]
  case h_13 hd =>
    split at he
    · cases he
    · rename_i hg
      obtain ⟨q1, q2⟩ := eqP_qv he
      rw [hx.eq_of_qv q1, hy.eq_of_qv q2]
      refine ⟨eqP_ok he w, ?_⟩
      simp only [Bool.not_eq_true] at hg
      cases op <;> simp [eqGuard, hg]
  case h_14 => cases he

end
end Go.Ev
