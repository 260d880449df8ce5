/- Each operation that calls no function. -/
import Derived.Test.YtfickkmgbecamaaGreatDoorEv1
import Derived.Laws.Small
import Derived.Laws.Slices
import Derived.Laws.Shifts
import Derived.Laws.BytesString
namespace Go.Ev

section
variable {P : Program} {μ : Mu} {h h' : AHeap} {w : World}

theorem evalO_ok (hR : Rel P μ h w) {e : Tr Value} {n : Nat} {a : Act} (hT : TmpsRel μ e n a.tmps) {x : Operand} {v : Value} (hx : evalO P.globals.size e x = some v) : VRel μ v (a.eval x) := by
  cases x with
  | tmp t =>
    obtain ⟨v', h1, h2⟩ := hT.get t v hx
    have : a.eval (.tmp t) = v' := by simp [Act.eval, Array.getD_eq_getD_getElem?, h1]
    rwa [this]
  | const c =>
    simp only [evalO] at hx
    split at hx
    · rename_i hp; cases hx; exact VRel.of_pv hp
    · cases hx
  | global g =>
    simp only [evalO] at hx
    split at hx
    · rename_i hg
      cases hx
      obtain ⟨i, hi, h1, h2⟩ := hR.glob g hg
      have := VRel.ptr (o := 0) hi
      rw [h1, h2] at this
      exact this
    · cases hx
  | func f => cases hx; exact .func f .nil .nil

theorem evalsO_ok (hR : Rel P μ h w) {e : Tr Value} {n : Nat} {a : Act} (hT : TmpsRel μ e n a.tmps) : ∀ {xs : List Operand} {vs : List Value}, evalsO P.globals.size e xs = some vs → VsRel μ vs (xs.map a.eval)
  | [], vs, h => by simp only [evalsO, Option.some.injEq] at h; subst h; exact .nil
  | x :: xs, vs, h => by
    simp only [evalsO] at h
    split at h
    · rename_i v hv
      simp only [Option.map_eq_some_iff] at h
      obtain ⟨us, hu, rfl⟩ := h
      exact .cons (evalO_ok hR hT hv) (evalsO_ok hR hT hu)
    · cases h

theorem mapO_ok (hR : Rel P μ h w) {e : Tr Value} {n : Nat} {a : Act} (hT : TmpsRel μ e n a.tmps) {xs : Array Operand} {vs : Array Value} (hx : mapO P.globals.size e xs = some vs) : VsRel μ vs.toList (xs.map a.eval).toList := by
  unfold mapO at hx
  simp only [Option.map_eq_some_iff] at hx
  obtain ⟨us, hu, rfl⟩ := hx
  simpa using evalsO_ok hR hT hu

/-! ### Values alone -/

theorem intBin_ok {op : BinOp} {k : IntKind} {a b : Int} {v : Value} (hv : intBin op k a b = some v) (t : TypeId) (w : World) : (binOp op t (.int k a) (.int k b)).run P w = .ok v w := by
  cases op <;> simp only [intBin, Option.some.injEq, reduceCtorEq] at hv
  case quo => split at hv <;> cases hv; rename_i hb; simp [binOp, Op.intDiv, hb]
  case rem => split at hv <;> cases hv; rename_i hb; simp [binOp, Op.intDiv, hb]
  all_goals (subst hv; simp [binOp, Op.intArith, Op.intBits, Op.intCmp])

theorem intBin_V {op : BinOp} {k : IntKind} {a b : Int} {v : Value} (hv : intBin op k a b = some v) : VRel μ v v := by
  cases op <;> simp only [intBin, Option.some.injEq, reduceCtorEq] at hv
  case quo => split at hv <;> cases hv; exact .int _ _
  case rem => split at hv <;> cases hv; exact .int _ _
  all_goals (subst hv; first | exact .int _ _ | exact .bool _)

theorem shiftA_ok {op : BinOp} {k k' : IntKind} {a b : Int} {v : Value} (ho : op = .shl ∨ op = .shr) (hv : shiftA op k a b = some v) (t : TypeId) (w : World) :
    (binOp op t (.int k a) (.int k' b)).run P w = .ok v w ∧ VRel μ v v := by
  unfold shiftA at hv
  split at hv
  · cases hv
  · rename_i hn
    rcases ho with rfl | rfl
    · cases hv; exact ⟨by simp [binOp, Op.shift, hn], .int _ _⟩
    · cases hv; exact ⟨by simp [binOp, Op.shift, hn], .int _ _⟩

theorem strBin_ok {op : BinOp} {a b : ByteArray} {v : Value} (hv : strBin op a b = some v) (t : TypeId) (w : World) : (binOp op t (.string a) (.string b)).run P w = .ok v w ∧ VRel μ v v := by
  cases op <;> simp only [strBin, Option.some.injEq, reduceCtorEq] at hv
  case add =>
    split at hv <;> cases hv
    rename_i hb
    exact ⟨by simp only [binOp, Op.stringOp]; rw [if_neg hb]; rfl, .string _⟩
  all_goals (subst hv; exact ⟨by simp [binOp, Op.stringOp], .bool _⟩)

theorem run_equal_succ (t : TypeId) (x y : Value) (w : World) : (Op.equal t x y).run P w = (Op.equalIn (9999 + 1) t x y).run P w := rfl

theorem frozen_own {c : List Value} {e : TypeId} {g : Bool} {i : Img} (ho : ORel P μ (.cells c e false g) i w) (k : Nat) : w.frozen? ⟨i.blk, k, none⟩ = false := by
  obtain ⟨C, fz, h1, h2, _⟩ := ho
  obtain rfl := h2 rfl
  exact frozen_of_row w i.blk k C e h1

theorem shape_own {c : List Value} {e : TypeId} {ro g : Bool} {i : Img} (ho : ORel P μ (.cells c e ro g) i w) : ∃ n, w.shape? i.blk = some (e, n) := by
  obtain ⟨C, fz, h1, _⟩ := ho
  exact ⟨C.size, by simp [World.shape?, h1]⟩

theorem run_sameAddr_own {c c' : List Value} {e e' : TypeId} {g g' : Bool} {i j : Img} (h1 : ORel P μ (.cells c e false g) i w) (h2 : ORel P μ (.cells c' e' false g') j w) (hne : i.blk ≠ j.blk) (o o' : Nat) :
    (sameAddr ⟨i.blk, o, none⟩ ⟨j.blk, o', none⟩).run P w = .ok false w := by
  obtain ⟨n1, hs1⟩ := shape_own h1
  obtain ⟨n2, hs2⟩ := shape_own h2
  have hb : (i.blk == j.blk) = false := by simpa using hne
  simp [sameAddr, hb, noView, viewAt, mayBeOne, stringish, hs1, hs2, frozen_own h1, frozen_own h2]

theorem eqA_ok (hR : Rel P μ h w) {t : TypeId} {x y x' y' : Value} {b : Bool} (hx : VRel μ x x') (hy : VRel μ y y') (he : eqA P h t x y = some b) (op : BinOp) (p q : Operand) :
    (Op.equal t x' y').run P w = .ok b w ∧ (eqGuard op t p q x' y').run P w = .ok () w := by
  unfold eqA at he
  split at he
  case h_1 hd =>
    cases hx; cases hy; cases he
    exact ⟨by rw [run_equal_succ, Op.equalIn]; simp [run_underlying hd], by simp [eqGuard]⟩
  case h_2 hd =>
    cases hx
    cases hy with
    | nilPtr => cases he; exact ⟨by rw [run_equal_succ, Op.equalIn]; simp [run_underlying hd], by simp [eqGuard]⟩
    | ptr hi => cases he; exact ⟨by rw [run_equal_succ, Op.equalIn]; simp [run_underlying hd], by simp [eqGuard]⟩
  case h_3 hd =>
    cases hx; cases hy; cases he
    exact ⟨by rw [run_equal_succ, Op.equalIn]; simp [run_underlying hd], by simp [eqGuard]⟩
  case h_4 e a i b2 j hd =>
    cases hx with
    | ptr hi =>
    cases hy with
    | ptr hj =>
    refine ⟨?_, by simp [eqGuard]⟩
    split at he
    · rename_i inf hinf
      split at he
      · cases he
      · rename_i hsz
        rw [run_equal_succ, Op.equalIn]
        simp only [Sem.run_bind, run_underlying hd, Result.andThen_ok, run_sizeOf hinf]
        rw [if_pos hsz]
        split at he
        · rename_i hab
          subst hab
          rw [hi] at hj; cases hj
          cases he
          by_cases hij : i = j
          · subst hij; simp [sameAddr]
          · have e2 : ∀ (B d : Nat), (({ block := B, off := i + d } : Addr) == { block := B, off := j + d }) = false := fun B d =>
              beq_eq_false_iff_ne.2 fun e => hij (by have := congrArg Addr.off e; simp only at this; omega)
            have e3 : (i == j) = false := beq_eq_false_iff_ne.2 hij
            simp [sameAddr, e2, e3]
        · rename_i hab
          split at he
          · rename_i how
            cases he
            simp only [Bool.and_eq_true, isOwnA] at how
            obtain ⟨h1, h2⟩ := how
            split at h1
            · rename_i c1 e1 g1 hg1
              split at h2
              · rename_i c2 e2 g2 hg2
                obtain ⟨i2, hi2, o1⟩ := hR.obj _ _ hg1
                obtain ⟨j2, hj2, o2⟩ := hR.obj _ _ hg2
                rw [hi] at hi2; cases hi2
                rw [hj] at hj2; cases hj2
                exact run_sameAddr_own o1 o2 (fun e => hab (hR.inj _ _ _ _ _ _ hg1 hg2 rfl rfl hi hj e)) _ _
              · cases h2
            · cases h1
          · cases he
    · cases he
  case h_5 hd =>
    cases hx
    cases hy with
    | nilSlice => cases he; exact ⟨by rw [run_equal_succ, Op.equalIn]; simp [run_underlying hd], by simp [eqGuard]⟩
    | slice => cases he; exact ⟨by rw [run_equal_succ, Op.equalIn]; simp [run_underlying hd], by simp [eqGuard]⟩
    | empty => cases he; exact ⟨by rw [run_equal_succ, Op.equalIn]; simp [run_underlying hd], by simp [eqGuard]⟩
  case h_6 hne hd =>
    cases hy
    cases hx with
    | nilSlice => simp at hne
    | slice => cases he; exact ⟨by rw [run_equal_succ, Op.equalIn]; simp [run_underlying hd], by simp [eqGuard]⟩
    | empty => cases he; exact ⟨by rw [run_equal_succ, Op.equalIn]; simp [run_underlying hd], by simp [eqGuard]⟩
  case h_7 hd =>
    cases hx
    cases hy with
    | nilMap => cases he; exact ⟨by rw [run_equal_succ, Op.equalIn]; simp [run_underlying hd], by simp [eqGuard]⟩
    | map => cases he; exact ⟨by rw [run_equal_succ, Op.equalIn]; simp [run_underlying hd], by simp [eqGuard]⟩
  case h_8 hne hd =>
    cases hy
    cases hx with
    | nilMap => simp at hne
    | map => cases he; exact ⟨by rw [run_equal_succ, Op.equalIn]; simp [run_underlying hd], by simp [eqGuard]⟩
  case h_9 hd => cases hx; cases hy; cases he; exact ⟨by rw [run_equal_succ, Op.equalIn]; simp [run_underlying hd], by simp [eqGuard]⟩
  case h_10 hd => cases hx; cases he; cases hy <;> exact ⟨by rw [run_equal_succ, Op.equalIn]; simp [run_underlying hd], by simp [eqGuard]⟩
  case h_11 hd => cases hy; cases he; cases hx <;> exact ⟨by rw [run_equal_succ, Op.equalIn]; simp [run_underlying hd], by simp [eqGuard]⟩
  case h_12 hd =>
    split at he
    · cases he
    · rename_i hg
      obtain ⟨q1, q2⟩ := eqP_qv he
      rw [hx.eq_of_qv q1, hy.eq_of_qv q2]
      refine ⟨eqP_ok he w, ?_⟩
      simp only [Bool.not_eq_true] at hg
      cases op <;> simp [eqGuard, hg]
  case h_13 hd =>
    split at he
    · cases he
    · rename_i hg
      obtain ⟨q1, q2⟩ := eqP_qv he
      rw [hx.eq_of_qv q1, hy.eq_of_qv q2]
      refine ⟨eqP_ok he w, ?_⟩
      simp only [Bool.not_eq_true] at hg
      cases op <;> simp [eqGuard, hg]
  case h_14 => cases he

end
end Go.Ev

/- Each operation that calls no function, on. -/
namespace Go.Ev

section
variable {P : Program} {μ : Mu} {h h' : AHeap} {w : World}

theorem eqA_nj {t : TypeId} {x y : Value} {c : Bool} (hc : eqA P h t x y = some c) : x ≠ .chan (some 0) ∧ y ≠ .chan (some 0) := by
  unfold eqA at hc
  split at hc <;> first | (cases hc; done) | exact ⟨by simp, by simp⟩

theorem binA_ok (hR : Rel P μ h w) {op : BinOp} {t : TypeId} {x y x' y' v : Value} (hx : VRel μ x x') (hy : VRel μ y y') (hv : binA P h op t x y = some v) (p q : Operand) :
    (do eqGuard op t p q x' y'; binOp op t x' y' : Sem Value).run P w = .ok v w ∧ VRel μ v v := by
  unfold binA at hv
  split at hv
  · cases hx; cases hy
    rename_i k a k' b
    rw [eqGuard_at_int, pure_bind]
    split at hv
    · exact shiftA_ok (.inl rfl) hv t w
    · exact shiftA_ok (.inr rfl) hv t w
    · split at hv
      · rename_i hk; subst hk; exact ⟨intBin_ok hv t w, intBin_V hv⟩
      · cases hv
  · cases hx; cases hy
    rename_i a b
    rw [eqGuard_at_string, pure_bind]
    exact strBin_ok hv t w
  · rename_i hn1 hn2
    have hbin : ∀ (op : BinOp), op = .eql ∨ op = .neq → (x ≠ .chan (some 0) ∧ y ≠ .chan (some 0)) → ∀ c, (Op.equal t x' y').run P w = .ok c w → (eqGuard op t p q x' y').run P w = .ok () w →
        (do eqGuard op t p q x' y'; binOp op t x' y' : Sem Value).run P w = .ok (.bool (if op = .eql then c else !c)) w := fun op ho hj c he hg => by
      rw [Sem.run_bind, hg]
      simp only [Result.andThen_ok]
      have n1 : ∀ k a k' b, ¬ (x' = .int k a ∧ y' = .int k' b) := fun k a k' b ⟨e1, e2⟩ => by
        subst e1; subst e2; cases hx <;> first | exact hj.1 rfl | (cases hy <;> first | exact hj.2 rfl | exact hn1 _ _ _ _ rfl rfl)
      have n2 : ∀ a b, ¬ (x' = .string a ∧ y' = .string b) := fun a b ⟨e1, e2⟩ => by
        subst e1; subst e2; cases hx <;> first | exact hj.1 rfl | (cases hy <;> first | exact hj.2 rfl | exact hn2 _ _ rfl rfl)
      rcases ho with rfl | rfl
      · cases hx <;> cases hy <;> first
          | exact absurd rfl hj.1
          | exact absurd rfl hj.2
          | (exact (n1 _ _ _ _ ⟨rfl, rfl⟩).elim)
          | (exact (n2 _ _ ⟨rfl, rfl⟩).elim)
          | (simp [binOp, he])
      · cases hx <;> cases hy <;> first
          | exact absurd rfl hj.1
          | exact absurd rfl hj.2
          | (exact (n1 _ _ _ _ ⟨rfl, rfl⟩).elim)
          | (exact (n2 _ _ ⟨rfl, rfl⟩).elim)
          | (simp [binOp, he])
    split at hv
    · simp only [Option.map_eq_some_iff] at hv
      obtain ⟨c, hc, rfl⟩ := hv
      obtain ⟨h1, h2⟩ := eqA_ok hR hx hy hc .eql p q
      exact ⟨by have := hbin .eql (.inl rfl) (eqA_nj hc) c h1 h2; simpa using this, .bool _⟩
    · simp only [Option.map_eq_some_iff] at hv
      obtain ⟨c, hc, rfl⟩ := hv
      obtain ⟨h1, h2⟩ := eqA_ok hR hx hy hc .neq p q
      exact ⟨by have := hbin .neq (.inr rfl) (eqA_nj hc) c h1 h2; simpa using this, .bool _⟩
    · cases hv

theorem unA_ok {op : UnOp} {x x' v : Value} (hx : VRel μ x x') (hv : unA op x = some v) : (Op.unary op x').run P w = .ok v w ∧ VRel μ v v := by
  unfold unA at hv
  split at hv
  · cases hx; cases hv; exact ⟨by simp [Op.unary, Op.intArith], .int _ _⟩
  · cases hx
    simp only [intBin, Option.some.injEq] at hv
    subst hv
    exact ⟨by simp [Op.unary, Op.intBits], .int _ _⟩
  · cases hx; cases hv; exact ⟨by simp [Op.unary], .bool _⟩
  · cases hv

theorem convA_ok {s d : TypeId} {x x' v : Value} (hx : VRel μ x x') (hv : convA P s d x = some v) : (convert s d x').run P w = .ok v w ∧ VRel μ v v := by
  unfold convA at hv
  split at hv
  · rename_i h1 h2
    cases hx; cases hv
    exact ⟨by simp [convert, run_underlying h1, run_underlying h2, Conv.intToInt], .int _ _⟩
  · rename_i h1 h2
    cases hx; cases hv
    exact ⟨by simp [convert, run_underlying h1, run_underlying h2], .string _⟩
  · cases hv

/-! ### Building -/

theorem VsRel.foldl_set {off : Nat} : ∀ {vs vs' : List Value} (k : Nat) {cs cs' : Array Value}, VsRel μ vs vs' → VsRel μ cs.toList cs'.toList →
    VsRel μ (((vs.zipIdx k).foldl (fun cs (c, j) => cs.setIfInBounds (off + j) c) cs).toList) (((vs'.zipIdx k).foldl (fun cs (c, j) => cs.setIfInBounds (off + j) c) cs').toList)
  | _, _, _, _, _, .nil, hc => by simpa using hc
  | _, _, k, cs, cs', .cons h hs, hc => by
    simp only [List.zipIdx_cons, List.foldl_cons]
    refine VsRel.foldl_set (k + 1) hs ?_
    simp only [Array.toList_setIfInBounds]
    exact VsRel.set _ h hc

def PRel (μ : Mu) : List (Nat × Value) → List (Nat × Value) → Prop
  | [], [] => True
  | (i, v) :: r, (j, v') :: r' => i = j ∧ VRel μ v v' ∧ PRel μ r r'
  | _, _ => False

theorem fill_ok {place : Nat → Option (Nat × Nat)} : ∀ {ps ps' : List (Nat × Value)} {cs cs' rs : Array Value}, PRel μ ps ps' → VsRel μ cs.toList cs'.toList → Instr.fill place cs ps = some rs →
    ∃ rs', Instr.fill place cs' ps' = some rs' ∧ VsRel μ rs.toList rs'.toList
  | [], [], cs, cs', rs, _, hc, h => by simp only [Instr.fill, Option.some.injEq] at h ⊢; subst h; exact ⟨_, rfl, hc⟩
  | [], _ :: _, _, _, _, hp, _, _ => hp.elim
  | _ :: _, [], _, _, _, hp, _, _ => by cases hp
  | (i, v) :: r, (j, v') :: r', cs, cs', rs, hp, hc, h => by
    obtain ⟨rfl, hv, hr⟩ := hp
    have e1 : v'.cells.size = v.cells.size := by have := hv.cells.length; simpa using this.symm
    have e2 : cs'.size = cs.size := by have := hc.length; simpa using this.symm
    simp only [Instr.fill] at h ⊢
    split at h
    · cases h
    · rename_i off size hpl
      rw [e1, e2]
      split at h
      · cases h
      · rename_i hcond
        rw [if_neg hcond]
        refine fill_ok hr ?_ h
        have := VsRel.foldl_set (off := off) 0 hv.cells hc
        simp only [← Array.foldl_toList, Array.toList_zipIdx]
        exact this

theorem partsO_ok (hR : Rel P μ h w) {e : Tr Value} {n : Nat} {a : Act} (hT : TmpsRel μ e n a.tmps) : ∀ {xs : List (Nat × Operand)} {vs : List (Nat × Value)}, partsO P.globals.size e xs = some vs →
    PRel μ vs (xs.map fun (i, x) => (i, a.eval x))
  | [], vs, h => by simp only [partsO, Option.some.injEq] at h; subst h; trivial
  | (i, x) :: xs, vs, h => by
    simp only [partsO] at h
    split at h
    · rename_i v hv
      simp only [Option.map_eq_some_iff] at h
      obtain ⟨us, hu, rfl⟩ := h
      exact ⟨rfl, evalO_ok hR hT hv, partsO_ok hR hT hu⟩
    · cases h

theorem run_mapM_places {fs : List Field} (hall : ∀ f ∈ fs, (P.info? f.type).isSome = true) (w : World) :
    (fs.mapM (fun f => (do pure (f.offset, ← sizeOf f.type) : Sem (Nat × Nat)))).run P w = .ok (fs.map fun f => (f.offset, ((P.info? f.type).map (·.size)).getD 0)) w := by
  induction fs with
  | nil => simp
  | cons f fs ih =>
    obtain ⟨i, hi⟩ := Option.isSome_iff_exists.1 (hall f (by simp))
    have := ih fun g hg => hall g (by simp [hg])
    simp only [List.mapM_cons, Sem.run_bind, run_sizeOf hi, Result.andThen_ok, Sem.run_pure, this, List.map_cons, hi, Option.map_some, Option.getD_some]

theorem buildA_ok {t : TypeId} {ps ps' : List (Nat × Value)} {v : Value} (hp : PRel μ ps ps') (hv : buildA P t ps = some v) : ∃ v', (Instr.build t ps'.toArray).run P w = .ok v' w ∧ VRel μ v v' := by
  unfold buildA at hv
  split at hv
  · rename_i i d hi hd
    split at hv
    · rename_i z fs hz
      split at hv
      · rename_i hc
        simp only [Bool.and_eq_true] at hc
        obtain ⟨hall, hz1⟩ := hc
        simp only [Option.map_eq_some_iff] at hv
        obtain ⟨cs, hcs, rfl⟩ := hv
        have hplaces : ∀ j : Nat, ((fs.toList.map fun f => (f.offset, ((P.info? f.type).map (·.size)).getD 0)).toArray[j]? : Option (Nat × Nat)) = fillPlaces P fs j := fun j => by
          unfold fillPlaces
          simp only [List.getElem?_toArray, List.getElem?_map, Array.getElem?_toList]
          cases hf : fs[j]? with
          | none => rfl
          | some f =>
            have hmem : f ∈ fs := Array.mem_of_getElem? hf
            rw [Array.all_eq_true_iff_forall_mem] at hall
            obtain ⟨k, hk⟩ := Option.isSome_iff_exists.1 (hall f hmem)
            simp [hk]
        obtain ⟨cs', hcs', hrel⟩ := fill_ok hp (VsRel.of_pv1 hz1) hcs
        refine ⟨.agg cs', ?_, .agg hrel⟩
        have hm := run_mapM_places (P := P) (fs := fs.toList) (fun f hf => by
          rw [Array.all_eq_true_iff_forall_mem] at hall
          exact hall f (by simpa using hf)) w
        have hm2 : (fs.mapM (fun f => (do pure (f.offset, ← sizeOf f.type) : Sem (Nat × Nat)))).run P w = .ok (fs.toList.map fun f => (f.offset, ((P.info? f.type).map (·.size)).getD 0)).toArray w := by
          rw [Array.mapM_eq_mapM_toList, Sem.run_map, hm]; rfl
        have hfun : (fun j : Nat => ((fs.toList.map fun f => (f.offset, ((P.info? f.type).map (·.size)).getD 0)).toArray[j]? : Option (Nat × Nat))) = fillPlaces P fs := funext hplaces
        unfold Instr.build
        rw [Sem.run_bind, run_zeroValue hi hz]
        simp only [Result.andThen_ok]
        rw [Sem.run_bind, run_underlying hd]
        simp only [Result.andThen_ok]
        rw [Sem.run_bind, hm2]
        simp only [Result.andThen_ok, hfun, hcs', Sem.run_pure]
      · cases hv
    · rename_i z e len hz
      split at hv
      · rename_i j hj
        split at hv
        · rename_i hz1
          simp only [Option.map_eq_some_iff] at hv
          obtain ⟨cs, hcs, rfl⟩ := hv
          obtain ⟨cs', hcs', hrel⟩ := fill_ok hp (VsRel.of_pv1 hz1) hcs
          refine ⟨.agg cs', ?_, .agg hrel⟩
          unfold Instr.build
          rw [Sem.run_bind, run_zeroValue hi hz]
          simp only [Result.andThen_ok]
          rw [Sem.run_bind, run_underlying hd]
          simp only [Result.andThen_ok]
          rw [Sem.run_bind, run_sizeOf hj]
          simp only [Result.andThen_ok, hcs', Sem.run_pure]
        · cases hv
      · cases hv
    · cases hv
  · cases hv

theorem all_zeroRow {z : Array Value} (hz : z.toList.all pv1 = true) (hs : 0 < z.size) (n : Nat) : (zeroRow z n).toList.all pv1 = true := by
  rw [List.all_eq_true] at hz ⊢
  intro x hx
  simp only [zeroRow, Array.toList_map, Array.toList_range, List.mem_map, List.mem_range] at hx
  obtain ⟨i, hi, rfl⟩ := hx
  have hlt : i % z.size < z.size := Nat.mod_lt _ hs
  rw [getElem!_pos z (i % z.size) hlt]
  exact hz _ (by simp)

theorem buildSliceA_ok (hR : Rel P μ h w) {id : Nat} (hμ : μ id = none) {t : TypeId} {len : Nat} {ps ps' : List (Nat × Value)} {v : Value} (hp : PRel μ ps ps') (hv : buildSliceA P h id t len ps = some (v, h')) :
    ∃ v' w' μ', (Instr.buildSlice t len ps'.toArray).run P w = .ok v' w' ∧ VRel μ' v v' ∧ Rel P μ' h' w' ∧ Ste μ h w μ' h' w' ∧ Fr μ μ' id := by
  unfold buildSliceA at hv
  split at hv
  · rename_i e ht
    split at hv
    · rename_i j hj
      split at hv
      · rename_i z hz
        split at hv
        · rename_i hc
          obtain ⟨hlen, hz1, hzs, hpos⟩ := hc
          split at hv
          · rename_i cs hcs
            have hzr := all_zeroRow (z := z.cells) hz1 (by omega) (len * j.size)
            obtain ⟨cs', hcs', hrel⟩ := fill_ok hp (VsRel.of_pv1 hzr) hcs
            have hvv : v = .slice (some ⟨id, 0, none⟩) len len := by
              unfold newA at hv
              split at hv
              · simp only [Option.map_eq_some_iff, Prod.mk.injEq] at hv; obtain ⟨_, _, hh, _⟩ := hv; exact hh.symm
              · cases hv
            subst hvv
            obtain ⟨inf, hinf, h1, h2⟩ := newA_ok hR hμ (n := w.drawn) hrel hv rfl
            rw [hj] at hinf; cases hinf
            refine ⟨.slice (some ⟨w.heap.size, 0, none⟩) len len, _, _, ?_, ?_, h1, h2, Fr.add _ _ _⟩
            · have hle : ¬ (len * j.size > 2 ^ 24) := by omega
              by_cases h0 : len * j.size = 0
              · have hcs0 : Instr.fill (fun i => some (i * j.size, j.size)) #[] ps' = some cs' := by
                  have := hcs'; rw [h0] at this; simpa [zeroRow, Array.range_zero'] using this
                simp [Instr.buildSlice, run_underlying ht, run_sizeOf hj, h0, Array.range_zero', hcs0, newRow]
              · have hcs2 : Instr.fill (fun i => some (i * j.size, j.size)) ((Array.range (len * j.size)).map (z.cells[· % z.cells.size]!)) ps' = some cs' := hcs'
                simp [Instr.buildSlice, run_underlying ht, run_sizeOf hj, hle, h0, run_zeroValue hj hz, hcs2, newRow]
            · exact VRel.slice (o := 0) (Mu.add_self _ _ _) (Nat.le_refl _) (fun _ => rfl) (.inl rfl)
          · cases hv
        · cases hv
      · cases hv
    · cases hv
  · cases hv

theorem madeCells_eq (z : Array Value) (n : Nat) : madeCells z n = zeroRow z n := rfl

theorem makeSliceA_ok (hR : Rel P μ h w) {id : Nat} (hμ : μ id = none) {t : TypeId} {l c l' c' v : Value} (hl : VRel μ l l') (hc : VRel μ c c') (hv : makeSliceA P h id t l c = some (v, h')) :
    ∃ v' w' μ', (Instr.makeSlice t l' c').run P w = .ok v' w' ∧ VRel μ' v v' ∧ Rel P μ' h' w' ∧ Ste μ h w μ' h' w' ∧ Fr μ μ' id := by
  unfold makeSliceA at hv
  split at hv
  · rename_i e k1 l k2 c ht
    cases hl; cases hc
    split at hv
    · rename_i j hj
      split at hv
      · rename_i z hz
        split at hv
        · rename_i hcond
          obtain ⟨h0, hlc, hcr, hcb, hz1, hzs, hpos⟩ := hcond
          have hvv : v = .slice (some ⟨id, 0, none⟩) l.toNat c.toNat := by
            unfold newA at hv
            split at hv
            · simp only [Option.map_eq_some_iff, Prod.mk.injEq] at hv; obtain ⟨_, _, hh, _⟩ := hv; exact hh.symm
            · cases hv
          have hzr := all_zeroRow (z := z.cells) hz1 (by omega) (c.toNat * j.size)
          subst hvv
          obtain ⟨inf, hinf, h1, h2⟩ := newA_ok hR hμ (n := w.drawn) (VsRel.of_pv1 hzr) hv rfl
          rw [hj] at hinf; cases hinf
          refine ⟨.slice (some ⟨w.heap.size, 0, none⟩) l.toNat c.toNat, _, _, ?_, ?_, h1, h2, Fr.add _ _ _⟩
          · unfold room at hcr hcb
            have hcb' : (j.bytes : Int) * c ≤ 281474976710656 := by
              have h1 : ((c.toNat * j.bytes : Nat) : Int) ≤ ((2 ^ 40 : Nat) : Int) := Int.ofNat_le.2 hcb
              rw [Int.natCast_mul, Int.toNat_of_nonneg (by omega), Int.mul_comm] at h1
              omega
            have := run_make (P := P) w t e j z ht hj hz k1 k2 l c h0 hlc hcb' (by omega)
            rw [madeCells_eq] at this
            simpa using this
          · exact VRel.slice (o := 0) (Mu.add_self _ _ _) (Nat.le_refl _) (fun _ => rfl) (.inl rfl)
        · cases hv
      · cases hv
    · cases hv
  · cases hv

end
end Go.Ev

/- Slices, fields, indexes, maps. -/
namespace Go.Ev

section
variable {P : Program} {μ : Mu} {h h' : AHeap} {w : World}

/-! ### Slice expressions -/

def OV (μ : Mu) : Option Value → Option Value → Prop
  | none, none => True
  | some v, some v' => VRel μ v v'
  | _, _ => False

theorem boundA_some {y d n : Nat} {x : Value} (h : boundA y (some x) d = some n) : ∃ k i, x = .int k i ∧ 0 ≤ i ∧ i ≤ y ∧ n = i.toNat := by
  cases x <;> simp [boundA] at h
  rename_i k i
  exact ⟨k, i, rfl, h.1.1, h.1.2, h.2.symm⟩

theorem boundA_le {y d n : Nat} {x : Option Value} (h : boundA y x d = some n) (hd : d ≤ y) : n ≤ y := by
  cases x with
  | none => simp only [boundA, Option.some.injEq] at h; omega
  | some x => obtain ⟨k, i, _, _, h2, rfl⟩ := boundA_some h; omega

def bnd (y d : Nat) (c : BoundsCode) : Option Value → Sem Nat
  | some v => Instr.sliceBound v y c
  | none => pure d

theorem run_bound_ok {x x' : Option Value} {y d n : Nat} (hx : OV μ x x') (hb : boundA y x d = some n) (c : BoundsCode) (w : World) :
    (bnd y d c x').run P w = .ok n w := by
  cases x with
  | none =>
    cases x' with
    | none => simp only [boundA, Option.some.injEq] at hb; subst hb; simp [bnd]
    | some _ => exact hx.elim
  | some x =>
    cases x' with
    | none => exact hx.elim
    | some x' =>
      obtain ⟨k, i, rfl, h0, h1, rfl⟩ := boundA_some hb
      cases hx
      exact run_sliceBound w k i y c h0 h1

theorem boundsA_inv {len cap l u m : Nat} {lo hi mx : Option Value} : boundsA len cap lo hi mx = some (l, u, m) ↔
    boundA cap mx cap = some m ∧ (hi.isNone && mx.isSome) = false ∧ boundA m hi len = some u ∧ boundA u lo 0 = some l := by
  unfold boundsA
  constructor
  · intro hb
    split at hb
    · rename_i m' hm
      split at hb
      · cases hb
      · rename_i hne
        split at hb
        · rename_i u' hu
          split at hb
          · rename_i l' hl
            cases hb
            exact ⟨hm, by simpa using hne, hu, hl⟩
          · cases hb
        · cases hb
    · cases hb
  · rintro ⟨h1, h2, h3, h4⟩
    rw [h1]; simp only [h2, Bool.false_eq_true, if_false, h3, h4]

theorem boundsA_ok {isS : Bool} {len cap l u m : Nat} {lo hi mx lo' hi' mx' : Option Value} (h1 : OV μ lo lo') (h2 : OV μ hi hi') (h3 : OV μ mx mx') (hb : boundsA len cap lo hi mx = some (l, u, m)) (w : World) :
    (Instr.sliceBounds isS len cap lo' hi' mx').run P w = .ok (l, u, m) w := by
  obtain ⟨hm, hne, hu, hl⟩ := boundsA_inv.1 hb
  unfold Instr.sliceBounds
  have e1 := fun c => run_bound_ok (P := P) h3 hm c w
  have e2 := fun c => run_bound_ok (P := P) h2 hu c w
  have e3 := fun c => run_bound_ok (P := P) h1 hl c w
  have hne' : (hi'.isNone && mx'.isSome) = false := by
    have a1 : hi'.isNone = hi.isNone := by cases hi <;> cases hi' <;> first | rfl | exact h2.elim
    have a2 : mx'.isSome = mx.isSome := by cases mx <;> cases mx' <;> first | rfl | exact h3.elim
    rw [a1, a2]; exact hne
  clear hm hu hl hne h1 h2 h3 hb
  cases mx' <;> cases hi' <;> cases lo' <;> simp_all [bnd]

/-- The bounds, where the model's row has more room than is known. -/
theorem boundsA_cap {len cap cap' l u m : Nat} {lo hi mx : Option Value} (hc : cap ≤ cap') (hb : boundsA len cap lo hi mx = some (l, u, m)) :
    boundsA len cap' lo hi mx = some (l, u, if mx.isNone then cap' else m) ∧ (mx.isNone = true → m = cap) ∧ m ≤ cap ∧ l ≤ u := by
  obtain ⟨hm, hne, hu, hl⟩ := boundsA_inv.1 hb
  have hlu := boundA_le hl (Nat.zero_le _)
  have hmc := boundA_le hm (Nat.le_refl _)
  refine ⟨boundsA_inv.2 ⟨?_, hne, ?_, hl⟩, ?_, hmc, hlu⟩
  · cases mx with
    | none => rfl
    | some y =>
      obtain ⟨k, n, rfl, n0, n1, rfl⟩ := boundA_some hm
      simp [boundA]; omega
  · cases hi with
    | none => exact hu
    | some y =>
      obtain ⟨k, n, rfl, n0, n1, rfl⟩ := boundA_some hu
      cases mx with
      | none => simp [boundA]; omega
      | some _ => simp [boundA]; omega
  · intro hn
    cases mx with
    | none => simp only [boundA, Option.some.injEq] at hm; omega
    | some _ => simp at hn

theorem run_sliceAt_slice {t e : TypeId} {j : TypeInfo} (ht : P.underlying t = some (.slice e)) (hj : P.info? e = some j) {isS len cap l u m : Nat} {a : Option Addr} {lo' hi' mx' : Option Value} (_ : isS = 0)
    (hb : (Instr.sliceBounds true len cap lo' hi' mx').run P w = .ok (l, u, m) w) :
    (Instr.sliceAt t (.slice a len cap) lo' hi' mx').run P w = .ok (.slice (if m = l then a else a.map (·.add (l * j.size))) (u - l) (m - l)) w := by
  have e1 : (Instr.sliceAt t (.slice a len cap) lo' hi' mx') = (do
      match ← underlying t with
      | .array n elem =>
        let a ← Instr.sureAddr (.slice a len cap)
        let (l, h, m) ← Instr.sliceBounds false n n lo' hi' mx'
        let size ← sizeOf elem
        pure (.slice (some (if m = l then a else a.add (l * size))) (h - l) (m - l))
      | _ => Instr.slice t (.slice a len cap) lo' hi' mx') := rfl
  rw [e1, Sem.run_bind, run_underlying ht]
  simp only [Result.andThen_ok]
  unfold Instr.slice
  rw [Sem.run_bind, run_underlying ht]
  simp only [Result.andThen_ok]
  rw [Sem.run_bind, hb]
  simp only [Result.andThen_ok]
  rw [Sem.run_bind, run_sizeOf hj]
  simp only [Result.andThen_ok, Sem.run_pure]

theorem sliceA_ok (hR : Rel P μ h w) {t : TypeId} {x x' v : Value} {lo hi mx lo' hi' mx' : Option Value} (hx : VRel μ x x') (h1 : OV μ lo lo') (h2 : OV μ hi hi') (h3 : OV μ mx mx')
    (hv : sliceA P h t x lo hi mx = some v) : ∃ v', (Instr.sliceAt t x' lo' hi' mx').run P w = .ok v' w ∧ VRel μ v v' := by
  unfold sliceA at hv
  split at hv
  · -- a string
    rename_i s ht
    cases hx
    split at hv
    · cases hv
    · rename_i hmx
      simp only [Option.map_eq_some_iff, Prod.exists] at hv
      obtain ⟨l, u, m, hb, rfl⟩ := hv
      have hmx' : mx' = none := by
        cases mx with
        | none => cases mx' with
          | none => rfl
          | some _ => exact h3.elim
        | some _ => simp at hmx
      subst hmx'
      have := boundsA_ok (P := P) (isS := false) h1 h2 (mx := none) (mx' := none) trivial hb w
      exact ⟨.string (s.extract l u), by simp [Instr.sliceAt, Instr.slice, run_underlying ht, this], .string _⟩
  · -- a slice
    rename_i e a len cap ht
    split at hv
    · rename_i j l u m hj hb
      split at hv
      · -- over a row
        rename_i b o
        split at hv
        · rename_i c e' ro grown hgb
          cases hx with
          | @slice _ _ _ _ c' i hi' hc he hvv =>
          obtain ⟨i2, hi2, ho⟩ := hR.obj b _ hgb
          rw [hi'] at hi2; cases hi2
          obtain ⟨C, fz, _, _, _, _, _, hex, hsz⟩ := ho
          split at hv
          · cases hv
          · rename_i hge
            have hum : u ≤ m := Nat.le_of_not_lt fun hlt => hge (.inr hlt)
            obtain ⟨hbc, hmcap, hmle, hlu⟩ := boundsA_cap hc hb
            have hres := run_sliceAt_slice (P := P) (w := w) ht hj (a := some ⟨i.blk, o + i.d, none⟩) rfl (boundsA_ok (P := P) (isS := true) h1 h2 h3 hbc w)
            refine ⟨_, hres, ?_⟩
            split at hv
            · rename_i hq
              split at hv
              · rename_i hul
                cases hv
                rw [hul, Nat.sub_self]
                simp only [Option.map_some]
                generalize (if mx.isNone = true then c' else m) = z
                by_cases hz : z = l
                · rw [if_pos hz]; exact .empty
                · rw [if_neg hz]; exact .empty
              · cases hv
            · rename_i hq
              cases hv
              by_cases hmx : mx.isNone = true
              · have hm := hmcap hmx
                rw [if_pos hmx]
                have hv' : c' - l = m - l ∨ (if m = l then o else o + l * j.size) + (c' - l) * i.sz ≤ i.lim := by
                  rcases hvv with e1 | e1
                  · left; omega
                  · by_cases hg : grown = true
                    · right
                      have hee : e' = e := Classical.byContradiction fun hne => hge (.inl ⟨hg, hne⟩)
                      subst hee
                      have hsz := hsz (.inr hg)
                      rw [hj] at hsz
                      have hsz' : j.size = i.sz := by simpa using hsz
                      have hadd : l * i.sz + (c' - l) * i.sz = c' * i.sz := by rw [← Nat.add_mul]; congr 1; omega
                      by_cases hml : m = l
                      · rw [if_pos hml]; omega
                      · rw [if_neg hml, hsz']; omega
                    · left
                      have := he (hex (by simpa using hg))
                      omega
                have hc'' : (if c' = l then some (⟨i.blk, o + i.d, none⟩ : Addr) else Option.map (fun x : Addr => x.add (l * j.size)) (some ⟨i.blk, o + i.d, none⟩)) = some ⟨i.blk, (if m = l then o else o + l * j.size) + i.d, none⟩ := by
                  by_cases hml : m = l
                  · rw [if_pos hml]
                    -- l is 0, or there is a max
                    have hl0 : l = 0 := Classical.byContradiction fun hne => hq ⟨hml, hne, hmx⟩
                    subst hl0
                    split <;> simp [add_off]
                  · rw [if_neg hml, if_neg (by omega), Option.map_some, add_off]
                    congr 2; omega
                rw [hc'']
                exact .slice hi' (by omega) (fun hx => by rw [he hx, hm]) hv'
              · rw [if_neg hmx]
                have hc'' : (if m = l then some (⟨i.blk, o + i.d, none⟩ : Addr) else Option.map (fun x : Addr => x.add (l * j.size)) (some ⟨i.blk, o + i.d, none⟩)) = some ⟨i.blk, (if m = l then o else o + l * j.size) + i.d, none⟩ := by
                  split
                  · rfl
                  · rw [Option.map_some, add_off]; congr 2; omega
                rw [hc'']
                exact .slice hi' (Nat.le_refl _) (fun _ => rfl) (.inl rfl)
        · cases hv
      · -- an empty one
        rename_i b o s
        split at hv
        · rename_i hq
          obtain ⟨rfl, rfl, rfl, hmx⟩ := hq
          cases hv
          cases hx with
          | @empty _ _ _ a c' =>
          obtain ⟨hbc, _, _, _⟩ := boundsA_cap (cap' := c') (Nat.zero_le _) hb
          have hres := run_sliceAt_slice (P := P) (w := w) ht hj (a := some a) rfl (boundsA_ok (P := P) (isS := true) h1 h2 h3 hbc w)
          refine ⟨_, hres, ?_⟩
          simp only [Option.map_some, Nat.sub_self]
          generalize (if mx.isNone = true then c' else m) = z
          by_cases hz : z = 0
          · rw [if_pos hz]; exact .empty
          · rw [if_neg hz]; exact .empty
        · cases hv
      · -- nil
        split at hv
        · rename_i hq
          obtain ⟨rfl, rfl, rfl⟩ := hq
          cases hv
          cases hx
          have hres := run_sliceAt_slice (P := P) (w := w) ht hj (a := none) rfl (boundsA_ok (P := P) (isS := true) h1 h2 h3 hb w)
          exact ⟨_, hres, by simpa using VRel.nilSlice⟩
        · cases hv
    · cases hv
  · -- an array's variable
    rename_i n e b o ht
    split at hv
    · rename_i j l u m hj hb
      cases hv
      cases hx with
      | @ptr _ _ i hi' =>
      have hbo := boundsA_ok (P := P) (isS := false) h1 h2 h3 hb w
      refine ⟨.slice (some (if m = l then ⟨i.blk, o + i.d, none⟩ else (⟨i.blk, o + i.d, none⟩ : Addr).add (l * j.size))) (u - l) (m - l), ?_, ?_⟩
      · simp [Instr.sliceAt, Instr.sureAddr, run_underlying ht, hbo, run_sizeOf hj]
      · have hc'' : (if m = l then (⟨i.blk, o + i.d, none⟩ : Addr) else (⟨i.blk, o + i.d, none⟩ : Addr).add (l * j.size)) = ⟨i.blk, (if m = l then o else o + l * j.size) + i.d, none⟩ := by
          split
          · rfl
          · rw [add_off]; congr 1; omega
        rw [hc'']
        exact .slice hi' (Nat.le_refl _) (fun _ => rfl) (.inl rfl)
    · cases hv
  · cases hv

/-! ### Fields and indexes -/

theorem fieldAddrA_ok {s : TypeId} {x x' v : Value} {f : Nat} (hx : VRel μ x x') (hv : fieldAddrA P s x f = some v) : ∃ v', (Instr.fieldAt s x' f).run P w = .ok v' w ∧ VRel μ v v' := by
  unfold fieldAddrA at hv
  split at hv
  · rename_i fs b o hs
    cases hx with
    | @ptr _ _ i hi =>
    split at hv
    · rename_i fd hfd
      split at hv
      · rename_i j hj
        split at hv
        · cases hv
        · rename_i hz
          cases hv
          refine ⟨.pointer (some ⟨i.blk, o + i.d + fd.offset, none⟩), ?_, ?_⟩
          · simp [Instr.fieldAt, Instr.sureAddr, run_underlying hs, hfd, fieldPlace, run_sizeOf hj, hz, add_off]
          · have := VRel.ptr (o := o + fd.offset) hi
            rwa [show o + fd.offset + i.d = o + i.d + fd.offset from by omega] at this
      · cases hv
    · cases hv
  · cases hv

theorem partA_ok {t : TypeId} {cs cs' : Array Value} {off : Nat} {v : Value} (hc : VsRel μ cs.toList cs'.toList) (hv : partA P t cs off = some v) : ∃ v', (part t cs' off).run P w = .ok v' w ∧ VRel μ v v' := by
  unfold partA at hv
  split at hv
  · rename_i d hd
    split at hv
    · rename_i ha
      simp only [Option.map_eq_some_iff] at hv
      obtain ⟨i, hi, rfl⟩ := hv
      refine ⟨.agg (cs'.extract off (off + i.size)), by simp [part, run_isAgg hd, ha, run_sizeOf hi], .agg ?_⟩
      simp only [Array.toList_extract, List.extract_eq_take_drop]
      exact VsRel.take _ (VsRel.drop _ hc)
    · rename_i ha
      obtain ⟨v', h1, h2⟩ := hc.get off v (by simpa using hv)
      exact ⟨v', by
        have : cs'[off]? = some v' := by simpa using h1
        simp [part, run_isAgg hd, ha, this], h2⟩
  · cases hv

theorem fieldA_ok {t : TypeId} {x x' v : Value} {f : Nat} (hx : VRel μ x x') (hv : fieldA P t x f = some v) : ∃ v', (Instr.field t x' f).run P w = .ok v' w ∧ VRel μ v v' := by
  unfold fieldA at hv
  split at hv
  · rename_i fs cs hs
    cases hx with
    | @agg _ cs' hc =>
    split at hv
    · rename_i fd hfd
      obtain ⟨v', h1, h2⟩ := partA_ok (w := w) hc hv
      exact ⟨v', by simp [Instr.field, run_underlying hs, hfd, asAgg, h1], h2⟩
    · cases hv
  · cases hv

theorem indexAddrA_ok {t : TypeId} {x x' k k' v : Value} (hx : VRel μ x x') (hk : VRel μ k k') (hv : indexAddrA P t x k = some v) : ∃ v', (Instr.indexAt t x' k').run P w = .ok v' w ∧ VRel μ v v' := by
  unfold indexAddrA at hv
  split at hv
  · rename_i len e b o kd n ht
    cases hx with
    | @ptr _ _ i hi =>
    cases hk
    split at hv
    · rename_i j hj
      split at hv
      · rename_i hb
        cases hv
        refine ⟨.pointer (some ⟨i.blk, o + i.d + n.toNat * j.size, none⟩), ?_, ?_⟩
        · simp [Instr.indexAt, asIntOf, run_underlying ht, Instr.sureAddr, hb, run_sizeOf hj, add_off]
        · have := VRel.ptr (o := o + n.toNat * j.size) hi
          rwa [show o + n.toNat * j.size + i.d = o + i.d + n.toNat * j.size from by omega] at this
      · cases hv
    · cases hv
  · rename_i e b o len c kd n ht
    cases hx with
    | @slice _ _ _ _ c' i hi _ _ _ =>
    cases hk
    split at hv
    · rename_i j hj
      split at hv
      · rename_i hb
        cases hv
        refine ⟨.pointer (some ⟨i.blk, o + i.d + n.toNat * j.size, none⟩), ?_, ?_⟩
        · simp [Instr.indexAt, asIntOf, run_underlying ht, hb, run_sizeOf hj, add_off]
        · have := VRel.ptr (o := o + n.toNat * j.size) hi
          rwa [show o + n.toNat * j.size + i.d = o + i.d + n.toNat * j.size from by omega] at this
      · cases hv
    · cases hv
  · cases hv

theorem indexA_ok {t : TypeId} {x x' k k' v : Value} (hx : VRel μ x x') (hk : VRel μ k k') (hv : indexA P t x k = some v) : ∃ v', (Instr.index t x' k').run P w = .ok v' w ∧ VRel μ v v' := by
  unfold indexA at hv
  split at hv
  · rename_i len e cs kd n ht
    cases hx with
    | @agg _ cs' hc =>
    cases hk
    split at hv
    · rename_i j hj
      split at hv
      · rename_i hb
        obtain ⟨v', h1, h2⟩ := partA_ok (w := w) hc hv
        exact ⟨v', by simp [Instr.index, asIntOf, run_underlying ht, hb, run_sizeOf hj, h1], h2⟩
      · cases hv
    · cases hv
  · rename_i s kd n ht
    cases hx; cases hk
    split at hv
    · rename_i hb
      simp only [Option.map_eq_some_iff] at hv
      obtain ⟨c, hc, rfl⟩ := hv
      exact ⟨.int .u8 c.toNat, by simp [Instr.index, asIntOf, run_underlying ht, hb, hc], .int _ _⟩
    · cases hv
  · cases hv

/-! ### Maps -/

theorem mapObj (hR : Rel P μ h w) {r : Nat} {es : List MapEntry} {clock : Nat} (hg : h.get r = some (.map es clock)) {i : Img} (hi : μ r = some i) :
    ∃ E, w.heap[i.blk]? = some (.map E clock) ∧ EntsRel μ es E.toList ∧ (getObj i.blk).run P w = .ok (.map E clock) w := by
  obtain ⟨j, hj, ho⟩ := hR.obj _ _ hg
  rw [hi] at hj; cases hj
  obtain ⟨E, h1, h2⟩ := ho
  exact ⟨E, h1, h2, by simp [getObj, Sem.run, h1]⟩

theorem lookupA_ok (hR : Rel P μ h w) {t : TypeId} {m m' k k' v : Value} {ok : Bool} (hm : VRel μ m m') (hk : VRel μ k k') (hv : lookupA P h t m k ok = some v) :
    ∃ v', (Instr.lookup t m' k' ok).run P w = .ok v' w ∧ VRel μ v v' := by
  unfold lookupA at hv
  split at hv
  · rename_i kt et ht
    split at hv
    · rename_i hko
      have hkk := hk.eq_of_qv (keyOk_qv hko)
      subst hkk
      have zero : ∀ {z : Value}, (P.info? et).bind (·.zero) = some z → (zeroValue et).run P w = .ok z w := fun {z} hz => by
        obtain ⟨j, hj, hz'⟩ := Option.bind_eq_some_iff.1 hz
        exact run_zeroValue hj hz' w
      split at hv
      · cases hm
        split at hv
        · rename_i z hz
          split at hv
          · rename_i hpz
            cases hv
            refine ⟨if ok then .tuple #[z, .bool false] else z, ?_, ?_⟩
            · have hck := keyOk_ok hko true w
              simp [Instr.lookup, run_underlying ht, hck, Instr.findKey, Instr.findNow]
              have : ∃ d, P.underlying kt = some d := by
                unfold Instr.checkKey at hck
                rw [Sem.run_bind] at hck
                cases hu : P.underlying kt with
                | some d => exact ⟨d, rfl⟩
                | none => simp [Go.underlying, hu] at hck
              obtain ⟨d, hd⟩ := this
              simp [run_underlying hd, zero hz]
            · split
              · exact .tuple (.cons (VRel.of_pv hpz) (.cons (.bool _) .nil))
              · exact VRel.of_pv hpz
          · cases hv
        · cases hv
      · rename_i r
        cases hm with
        | @map _ i hi =>
        split at hv
        · rename_i es clock hg
          obtain ⟨E, hE, hrel, hget⟩ := mapObj hR hg hi
          have hck : ∀ b, (Instr.checkKey b 10000 kt k').run P w = .ok () w := fun b => keyOk_ok hko b w
          have hd : ∃ d, P.underlying kt = some d := by
            have := hck true
            unfold Instr.checkKey at this
            rw [Sem.run_bind] at this
            cases hu : P.underlying kt with
            | some d => exact ⟨d, rfl⟩
            | none => simp [Go.underlying, hu] at this
          obtain ⟨d, hd⟩ := hd
          split at hv
          · rename_i n u hf
            cases hv
            obtain ⟨r', hr', hfr⟩ := findKey_ok hd hrel hf w
            cases r' with
            | none => exact hfr.elim
            | some p =>
              obtain ⟨n', u'⟩ := p
              obtain ⟨_, hu⟩ := hfr
              refine ⟨if ok then .tuple #[u', .bool true] else u', ?_, ?_⟩
              · simp [Instr.lookup, run_underlying ht, hget, hck, hr']
              · split
                · exact .tuple (.cons hu (.cons (.bool _) .nil))
                · exact hu
          · rename_i hf
            obtain ⟨r', hr', hfr⟩ := findKey_ok hd hrel hf w
            cases r' with
            | some p => exact hfr.elim
            | none =>
              split at hv
              · rename_i z hz
                split at hv
                · rename_i hpz
                  cases hv
                  refine ⟨if ok then .tuple #[z, .bool false] else z, ?_, ?_⟩
                  · simp [Instr.lookup, run_underlying ht, hget, hck, hr', zero hz]
                  · split
                    · exact .tuple (.cons (VRel.of_pv hpz) (.cons (.bool _) .nil))
                    · exact VRel.of_pv hpz
                · cases hv
              · cases hv
          · cases hv
        · cases hv
      · cases hv
    · cases hv
  · cases hv

end
end Go.Ev

/- Maps written; len, append, copy. -/
namespace Go.Ev

section
variable {P : Program} {μ : Mu} {h h' : AHeap} {w : World}

theorem setMap_ok (hR : Rel P μ h w) {r : Nat} {es es' : List MapEntry} {clock clock' : Nat} (hg : h.get r = some (.map es clock)) {i : Img} (hi : μ r = some i) {E' : Array MapEntry} (hE : EntsRel μ es' E'.toList) :
    ∃ w', (setObj i.blk (.map E' clock')).run P w = .ok () w' ∧ Rel P μ (h.put r (.map es' clock')) w' ∧ Ste μ h w μ (h.put r (.map es' clock')) w' := by
  obtain ⟨E, h1, h2, _⟩ := mapObj hR hg hi
  have hlt : i.blk < w.heap.size := (Array.getElem?_eq_some_iff.1 h1).1
  refine ⟨{ w with heap := w.heap.setIfInBounds i.blk (.map E' clock') }, by simp [setObj, Sem.run, h1], ?_⟩
  exact hR.update hg rfl hi ⟨E', by simp [hlt], hE⟩ (by simp) rfl rfl rfl (fun k hk => by
    simp only
    rw [Array.getElem?_setIfInBounds_ne (fun e => hk e.symm)])

theorem keyDesc {t : TypeId} {k : Value} (h : keyOk P t k = true) : ∃ d, P.underlying t = some d := by
  have := keyOk_ok h true default
  unfold Instr.checkKey at this
  rw [Sem.run_bind] at this
  cases hu : P.underlying t with
  | some d => exact ⟨d, rfl⟩
  | none => simp [Go.underlying, hu] at this

theorem keyStays_ok {es : List MapEntry} {E : Array MapEntry} (hrel : EntsRel μ es E.toList) {i : Nat} {k : Value} (hs : sameAt es i k = true) (w : World) :
    (Instr.keyThatStays (((E[i]?).map (·.key)).getD k) k).run P w = .ok k w := by
  unfold sameAt at hs
  split at hs
  · rename_i e he
    obtain ⟨e', h1, h2⟩ := hrel.get i e he
    have h1' : E[i]? = some e' := by simpa using h1
    simp [Instr.keyThatStays, h1', h2.key, hs]
  · cases hs

theorem mapUpdateA_ok (hR : Rel P μ h w) {t : TypeId} {m m' k k' x x' : Value} (hm : VRel μ m m') (hk : VRel μ k k') (hx : VRel μ x x') (hv : mapUpdateA P h t m k x = some h') :
    ∃ w', (Instr.mapUpdate t m' k' x').run P w = .ok () w' ∧ Rel P μ h' w' ∧ Ste μ h w μ h' w' := by
  unfold mapUpdateA at hv
  split at hv
  · rename_i kt et r ht
    cases hm with
    | @map _ i hi =>
    split at hv
    · rename_i es clock hg
      obtain ⟨E, hE, hrel, hget⟩ := mapObj hR hg hi
      split at hv
      · rename_i hko
        have hkk := hk.eq_of_qv (keyOk_qv hko)
        subst hkk
        have hck := keyOk_ok hko false w
        obtain ⟨d, hd⟩ := keyDesc hko
        split at hv
        · rename_i n u hf
          split at hv
          · rename_i hs
            cases hv
            obtain ⟨r', hr', hfr⟩ := findKey_ok hd hrel hf w
            cases r' with
            | none => exact hfr.elim
            | some p =>
              obtain ⟨n', u'⟩ := p
              obtain ⟨rfl, _⟩ := hfr
              have hst := keyStays_ok (P := P) hrel hs w
              obtain ⟨w', hw', hrest⟩ := setMap_ok hR hg hi (clock' := clock) (E' := E.modify n fun e => { e with key := k', val := x' })
                (es' := es.modify n fun e => { e with key := k', val := x }) (by
                  rw [Array.toList_modify]
                  exact hrel.modify (fun a b hab => (⟨rfl, keyOk_qv hko, hx, hab.born⟩ : EntRel μ { a with key := k', val := x } { b with key := k', val := x' })) n)
              exact ⟨w', by simp [Instr.mapUpdate, run_underlying ht, hget, hck, hr', hst, hw'], hrest⟩
          · cases hv
        · rename_i hf
          cases hv
          obtain ⟨r', hr', hfr⟩ := findKey_ok hd hrel hf w
          cases r' with
          | some p => exact hfr.elim
          | none =>
            obtain ⟨w', hw', hrest⟩ := setMap_ok hR hg hi (clock' := clock + 1) (E' := E.push { key := k', val := x', born := clock })
              (es' := es ++ [{ key := k', val := x, born := clock }]) (by
                rw [Array.toList_push]
                exact hrel.append (.cons ⟨rfl, keyOk_qv hko, hx, rfl⟩ .nil))
            exact ⟨w', by simp [Instr.mapUpdate, run_underlying ht, hget, hck, hr', hw'], hrest⟩
        · cases hv
      · cases hv
    · cases hv
  · cases hv

theorem EntsRel.born {es E : List MapEntry} (hrel : EntsRel μ es E) (i : Nat) : ((E[i]?).map (fun x => (x.born : Int))).getD 0 = ((es[i]?).map (fun x => (x.born : Int))).getD 0 := by
  cases he : es[i]? with
  | some e =>
    obtain ⟨e', h1, h2⟩ := hrel.get i e he
    simp [h1, h2.born]
  | none =>
    have : E[i]? = none := by
      rw [List.getElem?_eq_none_iff] at he ⊢
      rw [← hrel.length]; exact he
    simp [this]

theorem mapEntryA_ok (hR : Rel P μ h w) {t : TypeId} {m m' k k' v : Value} (hm : VRel μ m m') (hk : VRel μ k k') (hv : mapEntryA P h t m k = some (v, h')) :
    ∃ v' w', (Instr.mapEntry t m' k').run P w = .ok v' w' ∧ VRel μ v v' ∧ Rel P μ h' w' ∧ Ste μ h w μ h' w' := by
  unfold mapEntryA at hv
  split at hv
  · rename_i kt et r ht
    cases hm with
    | @map _ i hi =>
    split at hv
    · rename_i es clock hg
      obtain ⟨E, hE, hrel, hget⟩ := mapObj hR hg hi
      split at hv
      · rename_i hko
        have hkk := hk.eq_of_qv (keyOk_qv hko)
        subst hkk
        have hck := keyOk_ok hko false w
        obtain ⟨d, hd⟩ := keyDesc hko
        split at hv
        · rename_i n u hf
          split at hv
          · rename_i hs
            cases hv
            obtain ⟨r', hr', hfr⟩ := findKey_ok hd hrel hf w
            cases r' with
            | none => exact hfr.elim
            | some p =>
              obtain ⟨n', u'⟩ := p
              obtain ⟨rfl, hu⟩ := hfr
              have hst := keyStays_ok (P := P) hrel hs w
              obtain ⟨w', hw', hrest⟩ := setMap_ok hR hg hi (clock' := clock) (E' := E.modify n fun e => { e with key := k' })
                (es' := es.modify n fun e => { e with key := k' }) (by
                  rw [Array.toList_modify]
                  exact hrel.modify (fun a b hab => (⟨rfl, keyOk_qv hko, hab.val, hab.born⟩ : EntRel μ { a with key := k' } { b with key := k' })) n)
              refine ⟨.tuple #[u', goInt (((E[n]?).map (·.born)).getD 0)], w', by simp [Instr.mapEntry, run_underlying ht, hget, hck, hr', hst, hw'], ?_, hrest⟩
              have hb : ((E[n]?).map (fun x => (x.born : Int))).getD 0 = ((es[n]?).map (fun x => (x.born : Int))).getD 0 := by simpa using hrel.born n
              rw [hb]
              exact .tuple (.cons hu (.cons (.int _ _) .nil))
          · cases hv
        · rename_i hf
          obtain ⟨r', hr', hfr⟩ := findKey_ok hd hrel hf w
          cases r' with
          | some p => exact hfr.elim
          | none =>
            split at hv
            · rename_i z hz
              split at hv
              · rename_i hpz
                cases hv
                obtain ⟨j, hj, hz'⟩ := Option.bind_eq_some_iff.1 hz
                have hzr := run_zeroValue hj hz' w
                obtain ⟨w', hw', hrest⟩ := setMap_ok hR hg hi (clock' := clock + 1) (E' := E.push { key := k', val := z, born := clock })
                  (es' := es ++ [{ key := k', val := z, born := clock }]) (by
                    rw [Array.toList_push]
                    exact hrel.append (.cons ⟨rfl, keyOk_qv hko, VRel.of_pv hpz, rfl⟩ .nil))
                exact ⟨.tuple #[z, goInt clock], w', by simp [Instr.mapEntry, run_underlying ht, hget, hck, hr', hzr, hw'], .tuple (.cons (VRel.of_pv hpz) (.cons (.int _ _) .nil)), hrest⟩
              · cases hv
            · cases hv
        · cases hv
      · cases hv
    · cases hv
  · cases hv

theorem findIdx_born {es E : List MapEntry} (hrel : EntsRel μ es E) (n : Int) : E.findIdx? (fun e => (e.born : Int) == n) = es.findIdx? (fun e => (e.born : Int) == n) := by
  induction hrel with
  | nil => rfl
  | cons he hs ih => simp only [List.findIdx?_cons, he.born, ih]

theorem entryStoreA_ok (hR : Rel P μ h w) {t : TypeId} {m m' k k' x x' : Value} (hm : VRel μ m m') (hk : VRel μ k k') (hx : VRel μ x x') (hv : entryStoreA h m k x = some h') :
    ∃ w', (Instr.entryStore t m' k' x').run P w = .ok () w' ∧ Rel P μ h' w' ∧ Ste μ h w μ h' w' := by
  unfold entryStoreA at hv
  split at hv
  · rename_i r kd n
    cases hk
    cases hm with
    | @map _ i hi =>
    split at hv
    · rename_i es clock hg
      obtain ⟨E, hE, hrel, hget⟩ := mapObj hR hg hi
      split at hv
      · rename_i j hj
        cases hv
        have hj' : E.findIdx? (fun e => (e.born : Int) == n) = some j := by
          rw [← findIdx_born hrel n] at hj
          rw [← hj, ← List.findIdx?_toArray, Array.toArray_toList]
        obtain ⟨w', hw', hrest⟩ := setMap_ok hR hg hi (clock' := clock) (E' := E.modify j fun e => { e with val := x' })
          (es' := es.modify j fun e => { e with val := x }) (by
            rw [Array.toList_modify]
            exact hrel.modify (fun a b hab => (⟨hab.key, hab.qv, hx, hab.born⟩ : EntRel μ { a with val := x } { b with val := x' })) j)
        exact ⟨w', by simp [Instr.entryStore, hget, asInt, asIntOf, hj', hw'], hrest⟩
      · cases hv
    · cases hv
  · cases hv

theorem deleteA_ok (hR : Rel P μ h w) {t ty : TypeId} {ts : Array TypeId} (hts : ts[0]? = some t) {m m' k k' : Value} (hm : VRel μ m m') (hk : VRel μ k k') (hv : deleteA P h t m k = some h') :
    ∃ w', (Builtin.delete_ ts ty #[m', k']).run P w = .ok (.tuple #[]) w' ∧ Rel P μ h' w' ∧ Ste μ h w μ h' w' := by
  unfold deleteA at hv
  split at hv
  · rename_i kt et ht
    split at hv
    · rename_i hko
      have hkk := hk.eq_of_qv (keyOk_qv hko)
      subst hkk
      have hck := fun b => keyOk_ok hko b w
      split at hv
      · cases hm; cases hv
        exact ⟨w, by simp [Builtin.delete_, hts, run_underlying ht, hck], hR, Ste.refl _ _ _⟩
      · rename_i r
        cases hm with
        | @map _ i hi =>
        split at hv
        · rename_i es clock hg
          obtain ⟨E, hE, hrel, hget⟩ := mapObj hR hg hi
          obtain ⟨d, hd⟩ := keyDesc hko
          split at hv
          · rename_i n u hf
            cases hv
            obtain ⟨r', hr', hfr⟩ := findKey_ok hd hrel hf w
            cases r' with
            | none => exact hfr.elim
            | some p =>
              obtain ⟨n', u'⟩ := p
              obtain ⟨rfl, _⟩ := hfr
              obtain ⟨w', hw', hrest⟩ := setMap_ok hR hg hi (clock' := clock) (E' := E.eraseIdxIfInBounds n) (es' := es.eraseIdx n) (by
                rw [Array.toList_eraseIdxIfInBounds]
                exact hrel.eraseIdx n)
              exact ⟨w', by simp [Builtin.delete_, hts, run_underlying ht, hget, hck, hr', hw'], hrest⟩
          · rename_i hf
            cases hv
            obtain ⟨r', hr', hfr⟩ := findKey_ok hd hrel hf w
            cases r' with
            | some p => exact hfr.elim
            | none =>
              obtain ⟨w', hw', hrest⟩ := setMap_ok hR hg hi (clock' := clock) (E' := E) (es' := es) hrel
              exact ⟨w', by simp [Builtin.delete_, hts, run_underlying ht, hget, hck, hr', hw'], hrest⟩
          · cases hv
        · cases hv
      · cases hv
    · cases hv
  · cases hv

/-! ### Builtins -/

theorem lenA_ok (hR : Rel P μ h w) {t ty : TypeId} {ts : Array TypeId} (hts : ts[0]? = some t) {x x' v : Value} (hx : VRel μ x x') {rest : Array Value} (hrest : rest[0]? = some x') (hv : lenA P h t x = some v) :
    ∃ v', (Builtin.len_ ts ty rest).run P w = .ok v' w ∧ VRel μ v v' := by
  unfold lenA at hv
  split at hv
  · rename_i s ht
    cases hx; cases hv
    exact ⟨goInt s.size, by simp [Builtin.len_, hts, hrest, run_underlying ht], .int _ _⟩
  · rename_i n e ht
    cases hv
    exact ⟨goInt n, by simp [Builtin.len_, hts, hrest, run_underlying ht], .int _ _⟩
  · rename_i e a n c ht
    cases hv
    refine ⟨goInt n, ?_, .int _ _⟩
    cases hx <;> simp [Builtin.len_, hts, hrest, run_underlying ht]
  · rename_i ht
    cases hx; cases hv
    exact ⟨goInt 0, by simp [Builtin.len_, hts, hrest, run_underlying ht], .int _ _⟩
  · rename_i kt et r ht
    cases hx with
    | @map _ i hi =>
    split at hv
    · rename_i es clock hg
      cases hv
      obtain ⟨E, hE, hrel, hget⟩ := mapObj hR hg hi
      have hl : E.size = es.length := by have := hrel.length; simpa using this.symm
      refine ⟨goInt E.size, ?_, by rw [hl]; exact .int _ _⟩
      simp [Builtin.len_, hts, hrest, run_underlying ht, hget]
    · cases hv
  · cases hv

theorem ite_inst {α : Type} (p : Prop) (i j : Decidable p) (a b : α) : @ite α p i a b = @ite α p j a b := by rw [Subsingleton.elim i j]

theorem minA_ok {xs : List Value} {ys : List Value} {v : Value} (hx : VsRel μ xs ys) (hv : minA xs = some v) (ts : Array TypeId) (ty : TypeId) : (Builtin.min_ ts ty ys.toArray).run P w = .ok v w ∧ VRel μ v v := by
  unfold minA at hv
  split at hv
  · cases hv
    cases hx with
    | cons h1 hs =>
    cases hs with
    | cons h2 hs =>
    cases hs
    cases h1; cases h2
    refine ⟨(run_min_int2 w ts ty _ _ _ _).trans ?_, .int _ _⟩
    congr 2
    exact ite_inst _ _ _ _ _
  · cases hv

theorem maxA_ok {xs : List Value} {ys : List Value} {v : Value} (hx : VsRel μ xs ys) (hv : maxA xs = some v) (ts : Array TypeId) (ty : TypeId) : (Builtin.max_ ts ty ys.toArray).run P w = .ok v w ∧ VRel μ v v := by
  unfold maxA at hv
  split at hv
  · cases hv
    cases hx with
    | cons h1 hs =>
    cases hs with
    | cons h2 hs =>
    cases hs
    cases h1; cases h2
    refine ⟨(run_max_int2 w ts ty _ _ _ _).trans ?_, .int _ _⟩
    congr 2
    exact ite_inst _ _ _ _ _
  · cases hv

theorem lenOfA_ok {x x' : Value} {n : Nat} (hx : VRel μ x x') (hn : lenOfA x = some n) (w : World) : (Builtin.lenOf x').run P w = .ok n w := by
  cases x <;> simp [lenOfA] at hn
  · subst hn; cases hx; simp [Builtin.lenOf]
  · subst hn; cases hx <;> simp [Builtin.lenOf]

theorem firstA_ok (hR : Rel P μ h w) {size n : Nat} {x x' : Value} {cs : List Value} (hx : VRel μ x x') (hf : firstA h size n x = some cs) :
    ∃ ds : List Value, VsRel μ cs ds ∧ ds.length = cs.length ∧ ∀ k, (Builtin.firstCells size n x').run P { w with drawn := k } = .ok ds.toArray { w with drawn := k } := by
  have hz : ∀ (a : Addr) (l c k : Nat), (Builtin.firstCells size 0 (.slice (some a) l c)).run P { w with drawn := k } = .ok #[] { w with drawn := k } := fun a l c k => by
    simp [Builtin.firstCells, loadCells, loadCellsFrom]
  cases hx with
  | @slice b o l c c' i hi hc he hv =>
    simp only [firstA] at hf
    split at hf
    · rename_i h0; subst h0; cases hf
      exact ⟨[], .nil, rfl, fun k => hz _ _ _ _⟩
    · split at hf
      · rename_i cc e ro g hg
        obtain ⟨j, hj, ho⟩ := hR.obj _ _ hg
        rw [hi] at hj; cases hj
        obtain ⟨ys, hys, hrel, hcell, _⟩ := loadCells_ok ho hf
        refine ⟨ys, hrel, by rw [hys]; exact (loadRow_get hf).1.symm, fun k => ?_⟩
        have hrun := run_loadCells_list (P := P) { w with drawn := k } ⟨i.blk, o + i.d, none⟩ ys hcell
        rw [hys] at hrun
        simp [Builtin.firstCells, hrun]
      · cases hf
  | nilSlice =>
    simp only [firstA] at hf
    split at hf
    · cases hf; exact ⟨[], .nil, rfl, fun k => by simp [Builtin.firstCells]⟩
    · cases hf
  | @empty b o s a c =>
    simp only [firstA] at hf
    split at hf
    · rename_i h0; subst h0; cases hf
      exact ⟨[], .nil, rfl, fun k => hz _ _ _ _⟩
    · cases hf
  | string s =>
    simp only [firstA, Option.some.injEq] at hf
    subst hf
    refine ⟨_, VsRel.map _ _ _ fun x _ => .int _ _, rfl, fun k => ?_⟩
    simp only [Builtin.firstCells, Sem.run_pure]
    congr 1
    apply Array.toList_inj.1
    simp
  | _ => simp [firstA] at hf

theorem bytesA_ok : ∀ {xs ys : List Value} {s t : ByteArray}, VsRel μ xs ys → bytesA xs s = some t → ∃ ns : List Int, ys = ns.map (Value.int .u8) ∧ t = ns.foldl (fun r n => r.push (UInt8.ofNat n.toNat)) s
  | [], _, s, t, h, hb => by cases h; cases hb; exact ⟨[], rfl, rfl⟩
  | x :: xs, _, s, t, h, hb => by
    cases h with
    | cons h hs =>
      unfold bytesA at hb
      split at hb
      · rename_i heq; cases heq
      · rename_i heq
        cases heq
        cases h with
        | int k n =>
          obtain ⟨ns, rfl, rfl⟩ := bytesA_ok hs hb
          exact ⟨_ :: ns, rfl, rfl⟩
      · cases hb

theorem convH_ok (hR : Rel P μ h w) {s d : TypeId} {x x' v : Value} (hx : VRel μ x x') (hv : convH P h s d x = some v) : (convert s d x').run P w = .ok v w ∧ VRel μ v v := by
  unfold convH at hv
  split at hv
  · rename_i a n c
    split at hv
    · rename_i e hs hd
      split at hv
      · rename_i he
        have hzero : ∀ (a' : Addr) (c' : Nat), (Conv.bytesToString (.slice (some a') 0 c')).run P w = .ok (.string ByteArray.empty) w := fun a' c' =>
          run_bytesToString (P := P) w a' 0 c' [] (by simp [loadCells, loadCellsFrom])
        cases hx with
        | nilSlice =>
          simp only [bytesH, if_true] at hv
          cases hv
          rw [run_convert_bytes_string w s d e none 0 0 hs he hd]
          exact ⟨by simp [Conv.bytesToString], .string _⟩
        | @empty b o sp a' c' =>
          simp only [bytesH, if_true] at hv
          cases hv
          rw [run_convert_bytes_string w s d e (some a') 0 c' hs he hd]
          exact ⟨hzero _ _, .string _⟩
        | @slice b o l c0 c' i hi hc hex hvv =>
          rw [run_convert_bytes_string w s d e _ _ c' hs he hd]
          simp only [bytesH] at hv
          split at hv
          · rename_i h0; subst h0
            cases hv
            exact ⟨hzero _ _, .string _⟩
          · split at hv
            · rename_i cc e' ro g hg
              obtain ⟨xs, hxs, hv⟩ := Option.bind_eq_some_iff.1 hv
              obtain ⟨t, ht, rfl⟩ := Option.map_eq_some_iff.1 hv
              obtain ⟨j, hj, ho⟩ := hR.obj _ _ hg
              rw [hi] at hj; cases hj
              obtain ⟨ys, hys, hrel, _, hrun⟩ := loadCells_ok ho hxs
              obtain ⟨ns, rfl, rfl⟩ := bytesA_ok hrel ht
              exact ⟨run_bytesToString (P := P) w _ _ c' ns hrun, .string _⟩
            · cases hv
      · cases hv
    · cases hv
  · exact convA_ok hx hv

end
end Go.Ev

/- append and copy. -/
namespace Go.Ev

section
variable {P : Program} {μ : Mu} {h h' : AHeap} {w : World}

set_option maxHeartbeats 1000000 in
theorem run_append_inplace {st xt e : TypeId} {xd : TypeDesc} {j : TypeInfo} (hst : P.underlying st = some (.slice e)) (hxt : P.underlying xt = some xd) (hxd : isIntD xd = false)
    (hj : P.info? e = some j) {b o sLen sCap n : Nat} {x : Value} {ds : List Value} {C : Array Value} {t : TypeId} (hb : w.heap[b]? = some (.cells C t (0, 0)))
    (hn : (Builtin.lenOf x).run P w = .ok n w) (hf : (Builtin.firstCells j.size n x).run P w = .ok ds.toArray w) (hroom : sLen + n ≤ sCap) (hfit : o + sLen * j.size + ds.length ≤ C.size) (h1 : ds.all oneCell = true)
    {ts : Array TypeId} (h0 : ts[0]? = some st) (h01 : ts[1]? = some xt) (ty : TypeId) :
    (Builtin.append_ ts ty #[.slice (some ⟨b, o, none⟩) sLen sCap, x]).run P w =
      .ok (.slice (some ⟨b, o, none⟩) (sLen + n) sCap) (if ds = [] then w else World.putRow w b (setArr C (o + sLen * j.size) ds) t) := by
  have hs := run_storeCells (P := P) ds 0 (o + sLen * j.size) C w hb (by omega) h1
  cases xd <;> simp only [isIntD, reduceCtorEq] at hxd
  · simp [Builtin.append_, h0, h01, run_underlying hst, run_underlying hxt, run_sizeOf hj, hn, hroom, hf, add_off, hs]
  · simp [Builtin.append_, h0, h01, run_underlying hst, run_underlying hxt, run_sizeOf hj, hn, hroom, hf, add_off, hs]

set_option maxHeartbeats 1000000 in
theorem run_append_new {st xt e : TypeId} {xd : TypeDesc} {j : TypeInfo} {z : Value} (hst : P.underlying st = some (.slice e)) (hxt : P.underlying xt = some xd) (hxd : isIntD xd = false)
    (hj : P.info? e = some j) (hz : j.zero = some z) {base : Option Addr} {sLen sCap n : Nat} {x : Value} {olds ds : List Value}
    (hn : (Builtin.lenOf x).run P w = .ok n w) (ho : ∀ k, (Builtin.firstCells j.size sLen (.slice base sLen sCap)).run P { w with drawn := k } = .ok olds.toArray { w with drawn := k })
    (hf : ∀ k, (Builtin.firstCells j.size n x).run P { w with drawn := k } = .ok ds.toArray { w with drawn := k })
    (hroom : sCap < sLen + n) (hsmall : sLen + n ≤ 2 ^ 40) (hbytes : (sLen + n) * j.bytes ≤ 2 ^ 40)
    {ts : Array TypeId} (h0 : ts[0]? = some st) (h01 : ts[1]? = some xt) (ty : TypeId) :
    ∃ cap, sLen + n ≤ cap ∧ (Builtin.append_ ts ty #[.slice base sLen sCap, x]).run P w =
      .ok (.slice (some ⟨w.heap.size, 0, none⟩) (sLen + n) cap) (({ w with drawn := w.drawn + 1 } : World).alloc (.cells (olds ++ ds ++ (Builtin.zeroCells z.cells (cap - (sLen + n))).toList).toArray e)) := by
  have hn1 : ¬ (sLen + n ≤ sCap) := by omega
  have h63 : ¬ (9223372036854775807 < ((sLen : Int) + (n : Int))) := by omega
  have h48 : ¬ (281474976710656 < Builtin.nextslicecap (sLen + n) sCap * j.bytes) := by
    have := growslice_fits (bytes := j.bytes) hroom (by omega)
    omega
  have ho' := ho (w.drawn + 1)
  have hf' := hf (w.drawn + 1)
  refine ⟨grownCap w (sLen + n) sCap e, grownCap_ge w _ _ _, ?_⟩
  have key : (Builtin.append_ ts ty #[.slice base sLen sCap, x]).run P w = .ok (.slice (some ⟨w.heap.size, 0, none⟩) (sLen + n) (grownCap w (sLen + n) sCap e)) (({ w with drawn := w.drawn + 1 } : World).alloc (.cells (olds.toArray ++ ds.toArray ++ Builtin.zeroCells z.cells (grownCap w (sLen + n) sCap e - (sLen + n))) e)) := by
    have ho2 : (Builtin.firstCells j.size sLen (.slice base sLen sCap)).run P w.drew = .ok olds.toArray w.drew := ho'
    have hf2 : (Builtin.firstCells j.size n x).run P w.drew = .ok ds.toArray w.drew := hf'
    cases xd <;> simp only [isIntD, reduceCtorEq] at hxd
    · simp [Builtin.append_, h0, h01, run_underlying hst, run_underlying hxt, run_sizeOf hj, run_typeInfo hj, hn, hn1, h63, h48, Question.forced, run_zeroValue hj hz, newRow, grownCap, ho2, hf2]
      simp [← Array.append_assoc]
    · simp [Builtin.append_, h0, h01, run_underlying hst, run_underlying hxt, run_sizeOf hj, run_typeInfo hj, hn, hn1, h63, h48, Question.forced, run_zeroValue hj hz, newRow, grownCap, ho2, hf2]
      simp [← Array.append_assoc]
  rw [key]
  congr 3
  apply Array.toList_inj.1
  simp

theorem newA_val {id : Nat} {e : TypeId} {cs : List Value} {g : Bool} {v v2 : Value} (hn : newA P h id e cs g v = some (v2, h')) : v2 = v := by
  unfold newA at hn
  split at hn
  · simp only [Option.map_eq_some_iff, Prod.mk.injEq] at hn; obtain ⟨_, _, hh, _⟩ := hn; exact hh.symm
  · cases hn

theorem size_zeroCells' (z : Array Value) (n : Nat) : (Builtin.zeroCells z n).size = n * z.size := by simp [Builtin.zeroCells]

theorem Rel.kill (hR : Rel P μ h w) {b : Nat} {o : AObj} {i : Img} (hb : h.get b = some o) (hm : mutO o = true) (hi : μ b = some i) : Rel P μ (h.put b .dead) w ∧ Ste μ h w μ (h.put b .dead) w :=
  hR.update hb hm hi trivial rfl rfl rfl rfl fun _ _ => rfl

/-- A new row behind an append: it may have room to spare. -/
theorem append_fresh {st xt e : TypeId} {xd : TypeDesc} {j : TypeInfo} {z : Value} (hst : P.underlying st = some (.slice e)) (hxt : P.underlying xt = some xd) (hxd : isIntD xd = false)
    (hj : P.info? e = some j) (hz : j.zero = some z) (hzs : z.cells.size = j.size) {base : Option Addr} {sLen sCap n : Nat} {x : Value} {old new olds ds : List Value} (hol : VsRel μ old olds) (hds : VsRel μ new ds)
    (hl1 : olds.length = sLen * j.size) (hl2 : ds.length = n * j.size)
    (hn : (Builtin.lenOf x).run P w = .ok n w) (ho : ∀ k, (Builtin.firstCells j.size sLen (.slice base sLen sCap)).run P { w with drawn := k } = .ok olds.toArray { w with drawn := k })
    (hf : ∀ k, (Builtin.firstCells j.size n x).run P { w with drawn := k } = .ok ds.toArray { w with drawn := k })
    (hroom : sCap < sLen + n) (hsmall : sLen + n ≤ 2 ^ 40) (hbytes : (sLen + n) * j.bytes ≤ 2 ^ 40)
    {ts : Array TypeId} (h0 : ts[0]? = some st) (h01 : ts[1]? = some xt) (ty : TypeId) (hR : Rel P μ h w) {id : Nat} (hμ : μ id = none) {v : Value}
    (hnn : newA P h id e (old ++ new) true (.slice (some ⟨id, 0, none⟩) (sLen + n) (sLen + n)) = some (v, h')) :
    ∃ v' w' μ', (Builtin.append_ ts ty #[.slice base sLen sCap, x]).run P w = .ok v' w' ∧ VRel μ' v v' ∧ Rel P μ' h' w' ∧ Ste μ h w μ' h' w' ∧ Fr μ μ' id := by
  obtain rfl := newA_val hnn
  obtain ⟨cap, hcap, hrun⟩ := run_append_new (P := P) (w := w) hst hxt hxd hj hz hn ho hf hroom hsmall hbytes h0 h01 ty
  obtain ⟨inf, hinf, h1, h2⟩ := newG_ok hR hμ (n := w.drawn + 1) (spare := (Builtin.zeroCells z.cells (cap - (sLen + n))).toList) (hol.append hds) hnn
  rw [hj] at hinf; cases hinf
  refine ⟨_, _, _, hrun, ?_, h1, h2, Fr.add _ _ _⟩
  refine VRel.slice (o := 0) (Mu.add_self _ _ _) hcap (fun hx => by cases hx) (.inr ?_)
  clear hrun h1 h2 hnn hol hds hn ho hf
  have e1 : (olds ++ ds ++ (Builtin.zeroCells z.cells (cap - (sLen + n))).toList).length = cap * j.size := by
    have e0 : (Builtin.zeroCells z.cells (cap - (sLen + n))).toList.length = (cap - (sLen + n)) * j.size := by rw [Array.length_toList, size_zeroCells', hzs]
    rw [List.length_append, List.length_append, e0, hl1, hl2, ← Nat.add_mul, ← Nat.add_mul]
    congr 1; omega
  simp only [e1]; omega

/-- A row with unknown room has it: the new one lies in the same block. -/
theorem append_move {st xt e : TypeId} {xd : TypeDesc} {j : TypeInfo} (hst : P.underlying st = some (.slice e)) (hxt : P.underlying xt = some xd) (hxd : isIntD xd = false)
    (hj : P.info? e = some j) (hpos : 0 < j.size) {b o sLen n c' : Nat} {x : Value} {c old new ds : List Value} {i : Img} {g : Bool} (hR : Rel P μ h w) (hgb : h.get b = some (.cells c e false g)) (hi : μ b = some i)
    (hold : loadRow c o (sLen * j.size) = some old) (hds : VsRel μ new ds) (hl2 : ds.length = n * j.size) (hn0 : n ≠ 0) (hone : ds.all oneCell = true)
    (hn : (Builtin.lenOf x).run P w = .ok n w) (hf : (Builtin.firstCells j.size n x).run P w = .ok ds.toArray w)
    (hin : sLen + n ≤ c') (hcfit : o + c' * j.size ≤ i.lim)
    {ts : Array TypeId} (h0 : ts[0]? = some st) (h01 : ts[1]? = some xt) (ty : TypeId) {id : Nat} (hμid : μ id = none) {v : Value}
    (hnn : newA P (h.put b .dead) id e (old ++ new) true (.slice (some ⟨id, 0, none⟩) (sLen + n) (sLen + n)) = some (v, h')) :
    ∃ v' w' μ', (Builtin.append_ ts ty #[.slice (some ⟨i.blk, o + i.d, none⟩) sLen c', x]).run P w = .ok v' w' ∧ VRel μ' v v' ∧ Rel P μ' h' w' ∧ Ste μ h w μ' h' w' ∧ Fr μ μ' id := by
  obtain rfl := newA_val hnn
  obtain ⟨i2, hi2, ho⟩ := hR.obj _ _ hgb
  rw [hi] at hi2; cases hi2
  obtain ⟨C, fz, hC, hfz, hdim, hcl, hget, hex, hsz2⟩ := ho
  obtain rfl := hfz rfl
  obtain ⟨ol, ofit, oget⟩ := loadRow_get hold
  have hisz : i.sz = j.size := by have hsz3 := hsz2 (.inl rfl); rw [hj] at hsz3; simpa using hsz3.symm
  have hmul : (sLen + n) * j.size ≤ c' * j.size := Nat.mul_le_mul_right _ hin
  rw [Nat.add_mul] at hmul
  have hnl := hds.length
  have hfits : o + i.d + sLen * j.size + ds.length ≤ C.size := by omega
  have hdsne : ds ≠ [] := fun h0 => by
    have : 0 < n * j.size := Nat.mul_pos (by omega) hpos
    rw [h0, List.length_nil] at hl2
    omega
  have hrun := run_append_inplace (P := P) (w := w) hst hxt hxd hj hC hn hf hin hfits hone h0 h01 ty
  rw [if_neg hdsne] at hrun
  unfold newA at hnn
  rw [hj] at hnn
  simp only [Option.map_eq_some_iff, Prod.mk.injEq, true_and] at hnn
  obtain ⟨h2, hnew2, rfl⟩ := hnn
  have hlt : i.blk < w.heap.size := (Array.getElem?_eq_some_iff.1 hC).1
  obtain ⟨i', hi'⟩ : ∃ i' : Img, i' = { blk := i.blk, d := i.d + o, lim := i.lim - o, sz := i.sz, exact := false } := ⟨_, rfl⟩
  have hle2 := Mu.le_add (μ := μ) (b := id) i' hμid
  have hcells : ∀ k u, (old ++ new)[k]? = some u → ∃ u', (setArr C (o + i.d + sLen * j.size) ds)[i.d + o + k]? = some u' ∧ VRel (μ.add id i') u u' := fun k u hk => by
    rw [getElem?_setArr hfits]
    by_cases hk1 : k < old.length
    · rw [List.getElem?_append_left hk1] at hk
      rw [if_neg (by omega)]
      obtain ⟨u', a, b2⟩ := hget _ _ (oget k u hk).1
      exact ⟨u', by rw [show i.d + o + k = i.d + (o + k) from by omega]; exact a, b2.mono hle2⟩
    · rw [List.getElem?_append_right (by omega)] at hk
      obtain ⟨u', a, b2⟩ := hds.get _ _ hk
      have hkl : k - old.length < ds.length := (List.getElem?_eq_some_iff.1 a).1
      rw [if_pos ⟨by omega, by omega⟩]
      exact ⟨u', by rw [show i.d + o + k - (o + i.d + sLen * j.size) = k - old.length from by omega]; exact a, b2.mono hle2⟩
  have hORel : ORel P (μ.add id i') (.cells (old ++ new) e false true) i' (World.putRow w i.blk (setArr C (o + i.d + sLen * j.size) ds) e) := by
    subst hi'
    exact ⟨setArr C (o + i.d + sLen * j.size) ds, (0, 0), putRow_same _ _ hlt, fun _ => rfl, by rw [size_setArr hfits]; show i.d + o + (i.lim - o) = C.size; omega, by
      show (old ++ new).length ≤ i.lim - o
      rw [List.length_append]; omega, hcells, fun hx => (by cases hx), fun _ => hsz2 (.inl rfl)⟩
  obtain ⟨r1, r2⟩ := hR.move hμid (w' := World.putRow w i.blk (setArr C (o + i.d + sLen * j.size) ds) e) hgb rfl hi hnew2 (by rw [hi']) hORel
    (putRow_size _ _ _ _) rfl rfl rfl (fun k hk => putRow_other _ _ hk)
  refine ⟨_, _, _, hrun, ?_, r1, r2, Fr.add _ _ _⟩
  have hvr := VRel.slice (μ := μ.add id i') (b := id) (o := 0) (l := sLen + n) (c := sLen + n) (c' := c') (Mu.add_self _ _ _) hin (fun hx => by rw [hi'] at hx; cases hx) (.inr (by rw [hi']; show 0 + c' * i.sz ≤ i.lim - o; rw [hisz]; omega))
  have e1 : i'.blk = i.blk := by rw [hi']
  have e2 : 0 + i'.d = o + i.d := by rw [hi']; show 0 + (i.d + o) = _; omega
  rw [e1, e2] at hvr
  exact hvr

/-- A row with known room has it. -/
theorem append_room {st xt e : TypeId} {xd : TypeDesc} {j : TypeInfo} (hst : P.underlying st = some (.slice e)) (hxt : P.underlying xt = some xd) (hxd : isIntD xd = false)
    (hj : P.info? e = some j) (hpos : 0 < j.size) {b o sLen n sCap : Nat} {x : Value} {c new ds : List Value} {i : Img} {g : Bool} (hR : Rel P μ h w) (hgb : h.get b = some (.cells c e false g)) (hi : μ b = some i)
    (hds : VsRel μ new ds) (hl2 : ds.length = n * j.size) (hn0 : n ≠ 0) (hone : ds.all oneCell = true)
    (hn : (Builtin.lenOf x).run P w = .ok n w) (hf : (Builtin.firstCells j.size n x).run P w = .ok ds.toArray w)
    (hin : sLen + n ≤ sCap) (hfit : o + sCap * j.size ≤ c.length)
    {ts : Array TypeId} (h0 : ts[0]? = some st) (h01 : ts[1]? = some xt) (ty : TypeId) :
    ∃ v' w', (Builtin.append_ ts ty #[.slice (some ⟨i.blk, o + i.d, none⟩) sLen sCap, x]).run P w = .ok v' w' ∧ v' = .slice (some ⟨i.blk, o + i.d, none⟩) (sLen + n) sCap ∧
      Rel P μ (h.put b (.cells (setRow c (o + sLen * j.size) new) e false g)) w' ∧ Ste μ h w μ (h.put b (.cells (setRow c (o + sLen * j.size) new) e false g)) w' := by
  obtain ⟨i2, hi2, ho⟩ := hR.obj _ _ hgb
  rw [hi] at hi2; cases hi2
  have hmul : (sLen + n) * j.size ≤ sCap * j.size := Nat.mul_le_mul_right _ hin
  rw [Nat.add_mul] at hmul
  have hnl := hds.length
  obtain ⟨C, hC, hfits, hnew3⟩ := ho.set (off := o + sLen * j.size) hds (by omega)
  have hdsne : ds ≠ [] := fun h0 => by
    have : 0 < n * j.size := Nat.mul_pos (by omega) hpos
    rw [h0, List.length_nil] at hl2
    omega
  have hfits' : o + i.d + sLen * j.size + ds.length ≤ C.size := by omega
  have hrun := run_append_inplace (P := P) (w := w) hst hxt hxd hj hC hn hf hin hfits' hone h0 h01 ty
  rw [if_neg hdsne, show o + i.d + sLen * j.size = o + sLen * j.size + i.d from by omega] at hrun
  obtain ⟨r1, r2⟩ := hR.update hgb rfl hi hnew3 (putRow_size _ _ _ _) rfl rfl rfl (fun k hk => putRow_other _ _ hk)
  exact ⟨_, _, hrun, rfl, r1, r2⟩

/-- Nothing is appended. -/
theorem append_none {st xt e : TypeId} {xd : TypeDesc} {j : TypeInfo} (hst : P.underlying st = some (.slice e)) (hxt : P.underlying xt = some xd) (hxd : isIntD xd = false)
    (hj : P.info? e = some j) {base : Option Addr} {sLen c' : Nat} {x : Value} (hn : (Builtin.lenOf x).run P w = .ok 0 w) (hf : (Builtin.firstCells j.size 0 x).run P w = .ok #[] w) (hle : sLen ≤ c')
    {ts : Array TypeId} (h0 : ts[0]? = some st) (h01 : ts[1]? = some xt) (ty : TypeId) :
    (Builtin.append_ ts ty #[.slice base sLen c', x]).run P w = .ok (.slice base sLen c') w := by
  cases xd <;> simp only [isIntD, reduceCtorEq] at hxd
  · cases base <;> simp [Builtin.append_, h0, h01, run_underlying hst, run_underlying hxt, run_sizeOf hj, hn, hf, hle, storeCells]
  · cases base <;> simp [Builtin.append_, h0, h01, run_underlying hst, run_underlying hxt, run_sizeOf hj, hn, hf, hle, storeCells]

theorem two_args {args args' : Array Value} (ha : VsRel μ args.toList args'.toList) (hsz : args.size = 2) {s x : Value} (h0 : args[0]? = some s) (h1 : args[1]? = some x) :
    ∃ s' x', args' = #[s', x'] ∧ VRel μ s s' ∧ VRel μ x x' := by
  obtain ⟨s', hs', hsr⟩ := ha.get 0 _ (by simpa using h0)
  obtain ⟨x', hx', hxr⟩ := ha.get 1 _ (by simpa using h1)
  refine ⟨s', x', ?_, hsr, hxr⟩
  have hl := ha.length
  have hl2 : args.toList.length = 2 := by simpa using hsz
  apply Array.toList_inj.1
  match hl' : args'.toList with
  | [a, b] => rw [hl'] at hs' hx'; simp at hs' hx'; rw [hs', hx']
  | [] => rw [hl'] at hl; simp only [List.length_nil] at hl; omega
  | [_] => rw [hl'] at hl; simp only [List.length_cons, List.length_nil] at hl; omega
  | _ :: _ :: _ :: _ => rw [hl'] at hl; simp only [List.length_cons] at hl; omega

theorem appendA_ok (hR : Rel P μ h w) {id : Nat} (hμ : μ id = none) {ts : Array TypeId} {ty : TypeId} {args args' : Array Value} {v : Value} (ha : VsRel μ args.toList args'.toList) (hsz : args.size = 2) (hv : appendA P h id ts args = some (v, h')) :
    ∃ v' w' μ', (Builtin.append_ ts ty args').run P w = .ok v' w' ∧ VRel μ' v v' ∧ Rel P μ' h' w' ∧ Ste μ h w μ' h' w' ∧ Fr μ μ' id := by
  unfold appendA at hv
  split at hv
  · rename_i st xt base sLen sCap x hst0 hxt0 ha0 ha1
    obtain ⟨s', x', rfl, hsr, hxr⟩ := two_args ha hsz ha0 ha1
    split at hv
    · rename_i e xd hst hxt
      split at hv
      · cases hv
      · rename_i hxd
        simp only [Bool.not_eq_true] at hxd
        split at hv
        · rename_i j hj
          split at hv
          · rename_i z n hz hn
            split at hv
            · rename_i hc
              obtain ⟨hpos, hbytes, hroom, hzs⟩ := hc
              unfold room at hbytes hroom
              split at hv
              · rename_i new hnew
                have hlen := lenOfA_ok (P := P) hxr hn w
                obtain ⟨ds, hds, hdl, hdrun⟩ := firstA_ok hR hxr hnew
                split at hv
                · rename_i hnl
                  obtain ⟨hnl, hone⟩ := hnl
                  have hdl' : ds.length = n * j.size := hdl.trans hnl
                  have hf0 : (Builtin.firstCells j.size n x').run P w = .ok ds.toArray w := hdrun w.drawn
                  split at hv
                  · -- onto nil
                    split at hv
                    · rename_i hs0
                      obtain ⟨rfl, rfl⟩ := hs0
                      cases hsr
                      split at hv
                      · rename_i hn0
                        subst hn0
                        cases hv
                        have hds0 : ds = [] := List.eq_nil_of_length_eq_zero (by rw [hdl', Nat.zero_mul])
                        subst hds0
                        exact ⟨_, w, μ, append_none hst hxt hxd hj hlen hf0 (Nat.le_refl _) hst0 hxt0 ty, .nilSlice, hR, Ste.refl _ _ _, Fr.refl _ _⟩
                      · rename_i hn0
                        exact append_fresh hst hxt hxd hj hz hzs (sLen := 0) (sCap := 0) (old := []) (olds := []) .nil hds (by simp) hdl' hlen (fun k => by simp [Builtin.firstCells]) hdrun (by omega) hroom hbytes hst0 hxt0 ty hR hμ (by simpa using hv)
                    · cases hv
                  · -- onto a row
                    rename_i b o
                    split at hv
                    · rename_i c e' ro grown hgb
                      cases hsr with
                      | @slice _ _ _ _ c' i hi hcc he hvv =>
                      obtain ⟨i2, hi2, ho⟩ := hR.obj _ _ hgb
                      rw [hi] at hi2; cases hi2
                      split at hv
                      · rename_i hq
                        obtain ⟨rfl, hlc, hfit⟩ := hq
                        have hcfit : o + c' * j.size ≤ i.lim := by
                          obtain ⟨C, fz, hC, hfz, hdim, hcl, hget, hex, hsz2⟩ := ho
                          by_cases hg : grown = true
                          · have hisz : i.sz = j.size := by have hsz3 := hsz2 (.inr hg); rw [hj] at hsz3; simpa using hsz3.symm
                            rcases hvv with e1 | e1
                            · rw [e1]; omega
                            · rw [hisz] at e1; exact e1
                          · rw [he (hex (by simpa using hg))]; omega
                        have hexx : grown = false → i.exact = true := by
                          obtain ⟨C, fz, hC, hfz, hdim, hcl, hget, hex, hsz2⟩ := ho
                          exact hex
                        split at hv
                        · rename_i hn0
                          subst hn0
                          cases hv
                          have hds0 : ds = [] := List.eq_nil_of_length_eq_zero (by rw [hdl', Nat.zero_mul])
                          subst hds0
                          exact ⟨_, w, μ, append_none hst hxt hxd hj hlen hf0 (Nat.le_trans hlc hcc) hst0 hxt0 ty, .slice hi hcc he hvv, hR, Ste.refl _ _ _, Fr.refl _ _⟩
                        · rename_i hn0
                          split at hv
                          · rename_i old hold
                            obtain ⟨ys, hys, hyrel, hycell, _⟩ := loadCells_ok ho hold
                            have hyrun : ∀ k, (Builtin.firstCells j.size sLen (.slice (some ⟨i.blk, o + i.d, none⟩) sLen c')).run P { w with drawn := k } = .ok ys.toArray { w with drawn := k } := fun k => by
                              have hrun := run_loadCells_list (P := P) { w with drawn := k } ⟨i.blk, o + i.d, none⟩ ys hycell
                              rw [hys] at hrun
                              simp [Builtin.firstCells, hrun]
                            have hdsone := VsRel.all_oneCell hds hone
                            split at hv
                            · split at hv
                              · cases hv
                              · rename_i hro
                                simp only [Bool.not_eq_true] at hro
                                subst hro
                                by_cases hin : sLen + n ≤ c'
                                · exact append_move hst hxt hxd hj hpos hR hgb hi hold hds hdl' hn0 hdsone hlen hf0 hin hcfit hst0 hxt0 ty hμ hv
                                · obtain ⟨k1, k2⟩ := Rel.kill hR hgb rfl hi
                                  obtain ⟨v', w', μ', q1, q2, q3, q4⟩ := append_fresh hst hxt hxd hj hz hzs hyrel hds hys hdl' hlen hyrun hdrun (Nat.lt_of_not_le hin) hroom hbytes hst0 hxt0 ty k1 hμ hv
                                  exact ⟨v', w', μ', q1, q2, q3, k2.trans q4.1, q4.2⟩
                            · rename_i hgr
                              simp only [Bool.not_eq_true] at hgr
                              have hce : c' = sCap := he (hexx hgr)
                              subst hce
                              split at hv
                              · rename_i hin
                                split at hv
                                · cases hv
                                · rename_i hro
                                  simp only [Bool.not_eq_true] at hro
                                  subst hro
                                  subst hgr
                                  cases hv
                                  obtain ⟨v', w', q1, rfl, q3, q4⟩ := append_room hst hxt hxd hj hpos hR hgb hi hds hdl' hn0 hdsone hlen hf0 hin hfit hst0 hxt0 ty
                                  exact ⟨_, w', μ, q1, .slice hi (Nat.le_refl _) (fun _ => rfl) (.inl rfl), q3, q4, Fr.refl _ _⟩
                              · rename_i hin
                                exact append_fresh hst hxt hxd hj hz hzs hyrel hds hys hdl' hlen hyrun hdrun (Nat.lt_of_not_le hin) hroom hbytes hst0 hxt0 ty hR hμ hv
                          · cases hv
                      · cases hv
                    · cases hv
                  · cases hv
                · cases hv
              · cases hv
            · cases hv
          · cases hv
        · cases hv
    · cases hv
  · cases hv

theorem copyA_ok {id : Nat} (hR : Rel P μ h w) {ts : Array TypeId} {ty : TypeId} {args args' : Array Value} {v : Value} (ha : VsRel μ args.toList args'.toList) (hsz : args.size = 2) (hv : copyA P h ts args = some (v, h')) :
    ∃ v' w' μ', (Builtin.copy_ ts ty args').run P w = .ok v' w' ∧ VRel μ' v v' ∧ Rel P μ' h' w' ∧ Ste μ h w μ' h' w' ∧ Fr μ μ' id := by
  unfold copyA at hv
  split at hv
  · rename_i dt base dLen dCap x hdt0 ha0 ha1
    obtain ⟨s', x', rfl, hsr, hxr⟩ := two_args ha hsz ha0 ha1
    split at hv
    · rename_i e hdt
      split at hv
      · rename_i j xn hj hxn
        split at hv
        · rename_i new hnew
          have hlen := lenOfA_ok (P := P) hxr hxn w
          obtain ⟨ds, hds, hdl, hdrun⟩ := firstA_ok hR hxr hnew
          have hf0 : (Builtin.firstCells j.size (Nat.min xn dLen) x').run P w = .ok ds.toArray w := hdrun w.drawn
          split at hv
          · rename_i h0
            split at hv
            · rename_i hne
              cases hv
              have hn0 : new = [] := by simpa using hne
              have hds0 : ds = [] := List.eq_nil_of_length_eq_zero (by rw [hdl, hn0]; rfl)
              rw [h0, hds0] at hf0
              refine ⟨goInt 0, w, μ, ?_, .int _ _, hR, Ste.refl _ _ _, Fr.refl _ _⟩
              have h0' : xn.min dLen = 0 := h0
              cases hsr <;> simp [Builtin.copy_, hdt0, run_underlying hdt, hlen, run_sizeOf hj, h0', hf0, storeCells]
            · cases hv
          · split at hv
            · rename_i b o
              split at hv
              · rename_i c e' g hgb
                split at hv
                · rename_i hc
                  obtain ⟨hfit, hone⟩ := hc
                  cases hv
                  cases hsr with
                  | @slice _ _ _ _ c' i hi hcc he hvv =>
                  obtain ⟨i2, hi2, ho⟩ := hR.obj _ _ hgb
                  rw [hi] at hi2; cases hi2
                  obtain ⟨C, hC, hfits, hnew3⟩ := ho.set (off := o) hds hfit
                  have hst := run_storeCells (P := P) ds 0 (o + i.d) C w hC (by simpa using hfits) (VsRel.all_oneCell hds hone)
                  have hrun : (Builtin.copy_ ts ty #[.slice (some ⟨i.blk, o + i.d, none⟩) dLen c', x']).run P w = .ok (goInt (Nat.min xn dLen : Nat)) (if ds = [] then w else World.putRow w i.blk (setArr C (o + i.d + 0) ds) e') := by
                    simp [Builtin.copy_, hdt0, run_underlying hdt, hlen, run_sizeOf hj, hf0, hst]
                  by_cases hd0 : ds = []
                  · rw [if_pos hd0] at hrun
                    have hn0 : new = [] := List.eq_nil_of_length_eq_zero (by rw [← hdl, hd0]; rfl)
                    obtain ⟨r1, r2⟩ := hR.update hgb rfl hi (o' := .cells (setRow c o new) e' false g) (by rw [hn0]; simpa [setRow] using ho) rfl rfl rfl rfl (fun _ _ => rfl)
                    exact ⟨_, _, _, hrun, .int _ _, r1, r2, Fr.refl _ _⟩
                  · rw [if_neg hd0] at hrun
                    obtain ⟨r1, r2⟩ := hR.update hgb rfl hi hnew3 (putRow_size _ _ _ _) rfl rfl rfl (fun k hk => putRow_other _ _ hk)
                    exact ⟨_, _, _, hrun, .int _ _, r1, r2, Fr.refl _ _⟩
                · cases hv
              · cases hv
            · cases hv
        · cases hv
      · cases hv
    · cases hv
  · cases hv

end
end Go.Ev

/- Every operation that calls no function. -/
namespace Go.Ev

section
variable {P : Program} {μ : Mu} {h h' : AHeap} {w : World}

theorem OpOk.pure {id : Nat} (hR : Rel P μ h w) {v v' : Value} (hv : VRel μ v v') : OpOk P μ id h w ((Pure.pure (Next.value v') : Sem Next).run P w) v h :=
  ⟨.value v', v', w, μ, rfl, .inl rfl, hv, hR, Ste.refl _ _ _, Fr.refl _ _⟩

theorem optO_ok (hR : Rel P μ h w) {e : Tr Value} {n : Nat} {a : Act} (hT : TmpsRel μ e n a.tmps) {x : Option Operand} {v : Option Value} (hx : optO P.globals.size e x = some v) : OV μ v (x.map a.eval) := by
  cases x with
  | none => simp only [optO, Option.some.injEq] at hx; subst hx; trivial
  | some x =>
    simp only [optO, Option.map_eq_some_iff] at hx
    obtain ⟨u, hu, rfl⟩ := hx
    exact evalO_ok hR hT hu

theorem newA_ok' (hR : Rel P μ h w) {id : Nat} (hμ : μ id = none) {e : TypeId} {cs ds : Array Value} {v : Value} (hv : VsRel μ cs.toList ds.toList) (hn : newA P h id e cs.toList false (.pointer (some ⟨id, 0, none⟩)) = some (v, h')) :
    ∃ v' w' μ', (do pure (Value.pointer (some (← newRow e ds))) : Sem Value).run P w = .ok v' w' ∧ VRel μ' v v' ∧ Rel P μ' h' w' ∧ Ste μ h w μ' h' w' ∧ Fr μ μ' id := by
  obtain rfl := newA_val hn
  obtain ⟨inf, hinf, h1, h2⟩ := newA_ok hR hμ (n := w.drawn) hv hn rfl
  refine ⟨.pointer (some ⟨w.heap.size, 0, none⟩), _, _, ?_, ?_, h1, h2, Fr.add _ _ _⟩
  · simp [newRow]
  · exact VRel.ptr (o := 0) (Mu.add_self _ _ _)

theorem opA_ok (hR : Rel P μ h w) {e : Tr Value} {n : Nat} {a : Act} (hT : TmpsRel μ e n a.tmps) {o : Oper} {id : Nat} (hμ : μ id = none) {v : Value} (hv : opA P h id e o = some (v, h')) :
    OpOk P μ id h w ((execOp a.eval o).run P w) v h' := by
  have E := fun {x : Operand} {u : Value} => evalO_ok (x := x) (v := u) hR hT
  unfold opA at hv
  unfold execOp
  split at hv
  case h_1 x ho =>
    rw [ho]; simp only [Option.map_eq_some_iff, Prod.mk.injEq] at hv
    obtain ⟨u, hu, rfl, rfl⟩ := hv
    exact OpOk.pure hR (E hu)
  case h_2 x ho =>
    rw [ho]; simp only [Option.map_eq_some_iff, Prod.mk.injEq] at hv
    obtain ⟨u, hu, rfl, rfl⟩ := hv
    exact OpOk.pure hR (E hu)
  case h_3 c x y ho =>
    rw [ho]
    split at hv
    · rename_i hc
      simp only [Option.map_eq_some_iff, Prod.mk.injEq] at hv
      obtain ⟨u, hu, rfl, rfl⟩ := hv
      have hcc := E hc
      generalize hq : a.eval c = q at hcc
      cases hcc
      have := E hu
      refine ⟨.value (a.eval x), a.eval x, w, μ, by simp [hq, asBool], .inl rfl, this, hR, Ste.refl _ _ _, Fr.refl _ _⟩
    · rename_i hc
      simp only [Option.map_eq_some_iff, Prod.mk.injEq] at hv
      obtain ⟨u, hu, rfl, rfl⟩ := hv
      have hcc := E hc
      generalize hq : a.eval c = q at hcc
      cases hcc
      have := E hu
      refine ⟨.value (a.eval y), a.eval y, w, μ, by simp [hq, asBool], .inl rfl, this, hR, Ste.refl _ _ _, Fr.refl _ _⟩
    · cases hv
  case h_4 t ho =>
    rw [ho]
    split at hv
    · rename_i z hz
      split at hv
      · rename_i hzp
        obtain ⟨j, hj, hz'⟩ := Option.bind_eq_some_iff.1 hz
        obtain ⟨v', w', μ', h1, h2, h3, h4⟩ := newA_ok' hR hμ (VsRel.of_pv1 hzp) hv
        refine OpOk.val' (v' := v') (w' := w') ?_ h2 h3 h4
        rw [← h1]
        simp [Instr.alloc, run_zeroValue hj hz', newVar]
      · cases hv
    · cases hv
  case h_5 t x ho =>
    rw [ho]
    obtain ⟨u, hu, hv⟩ := Option.bind_eq_some_iff.1 hv
    obtain ⟨v', w', μ', h1, h2, h3, h4⟩ := newA_ok' hR hμ (E hu).cells hv
    refine OpOk.val' (v' := v') (w' := w') ?_ h2 h3 h4
    rw [← h1]
    simp [Instr.box, newVar]
  case h_6 t parts ho =>
    rw [ho]
    obtain ⟨ps, hps, hv⟩ := Option.bind_eq_some_iff.1 hv
    simp only [Option.map_eq_some_iff, Prod.mk.injEq] at hv
    obtain ⟨u, hu, rfl, rfl⟩ := hv
    obtain ⟨v', h1, h2⟩ := buildA_ok (w := w) (partsO_ok hR hT hps) hu
    have he : (parts.map fun (i, x) => (i, a.eval x)) = (parts.toList.map fun (i, x) => (i, a.eval x)).toArray := by
      apply Array.toList_inj.1; simp
    refine OpOk.val hR (v' := v') ?_ h2
    rw [← h1, ← he]
  case h_7 t len parts ho =>
    rw [ho]
    obtain ⟨ps, hps, hv⟩ := Option.bind_eq_some_iff.1 hv
    obtain ⟨v', w', μ', h1, h2, h3, h4⟩ := buildSliceA_ok hR hμ (partsO_ok hR hT hps) hv
    have he : (parts.map fun (i, x) => (i, a.eval x)) = (parts.toList.map fun (i, x) => (i, a.eval x)).toArray := by
      apply Array.toList_inj.1; simp
    refine OpOk.val' (v' := v') (w' := w') ?_ h2 h3 h4
    rw [← h1, ← he]
  case h_8 t x ho =>
    rw [ho]
    obtain ⟨u, hu, hv⟩ := Option.bind_eq_some_iff.1 hv
    simp only [Option.map_eq_some_iff, Prod.mk.injEq] at hv
    obtain ⟨y, hy, rfl, rfl⟩ := hv
    obtain ⟨v', h1, h2⟩ := loadA_ok hR (E hu) hy
    exact OpOk.val hR h1 h2
  case h_9 t x y ho =>
    rw [ho]
    obtain ⟨u, hu, hv⟩ := Option.bind_eq_some_iff.1 hv
    obtain ⟨z, hz, hv⟩ := Option.bind_eq_some_iff.1 hv
    simp only [Option.map_eq_some_iff, Prod.mk.injEq] at hv
    obtain ⟨h2, hh, rfl, rfl⟩ := hv
    obtain ⟨w', h1, h2, h3⟩ := storeA_ok hR (E hu) (E hz) hh
    exact OpOk.skip h1 h2 h3
  case h_10 x ho =>
    rw [ho]
    split at hv
    · rename_i ad hu
      cases hv
      have := E hu
      generalize hq : a.eval x = q at this
      cases this with
      | ptr hi => simp only [hq]; exact OpOk.pure hR (.ptr hi)
    · rename_i f b c hu
      cases hv
      have := E hu
      generalize hq : a.eval x = q at this
      cases this with
      | func f ha hc => simp only [hq]; exact OpOk.pure hR (.func f ha hc)
    · rename_i f b c hu
      cases hv
      have := E hu
      generalize hq : a.eval x = q at this
      cases this with
      | yield hi ha hc => simp only [hq]; exact OpOk.pure hR (.yield hi ha hc)
    · cases hv
  case h_11 op t x y ty ho =>
    rw [ho]
    obtain ⟨u, hu, hv⟩ := Option.bind_eq_some_iff.1 hv
    obtain ⟨z, hz, hv⟩ := Option.bind_eq_some_iff.1 hv
    simp only [Option.map_eq_some_iff, Prod.mk.injEq] at hv
    obtain ⟨r, hr, rfl, rfl⟩ := hv
    obtain ⟨h1, h2⟩ := binA_ok hR (E hu) (E hz) hr x y
    exact OpOk.val hR h1 h2
  case h_12 op t x ho =>
    rw [ho]
    obtain ⟨u, hu, hv⟩ := Option.bind_eq_some_iff.1 hv
    simp only [Option.map_eq_some_iff, Prod.mk.injEq] at hv
    obtain ⟨r, hr, rfl, rfl⟩ := hv
    obtain ⟨h1, h2⟩ := unA_ok (P := P) (w := w) (E hu) hr
    exact OpOk.val hR h1 h2
  case h_13 s d x ho =>
    rw [ho]
    obtain ⟨u, hu, hv⟩ := Option.bind_eq_some_iff.1 hv
    simp only [Option.map_eq_some_iff, Prod.mk.injEq] at hv
    obtain ⟨r, hr, rfl, rfl⟩ := hv
    obtain ⟨h1, h2⟩ := convH_ok hR (E hu) hr
    exact OpOk.val hR h1 h2
  case h_14 f first captured ho =>
    rw [ho]
    obtain ⟨u, hu, hv⟩ := Option.bind_eq_some_iff.1 hv
    simp only [Option.map_eq_some_iff, Prod.mk.injEq] at hv
    obtain ⟨r, hr, rfl, rfl⟩ := hv
    exact OpOk.val hR (v' := .func (.func f) (first.map a.eval) (captured.map a.eval)) (by simp [Instr.makeFunc]) (.func f (mapO_ok hR hT hu) (mapO_ok hR hT hr))
  case h_15 t ho =>
    rw [ho]
    simp only [Option.map_eq_some_iff, Prod.mk.injEq] at hv
    obtain ⟨h2, hn, rfl, rfl⟩ := hv
    obtain ⟨h1, h3⟩ := hR.grow hμ (w' := w.alloc (.map #[] 0)) (i := { blk := w.heap.size, d := 0, lim := 0, sz := 0, exact := true }) hn (Nat.le_refl _) ⟨#[], heap_alloc_new w _, .nil⟩ (by simp) rfl rfl rfl (fun k hk => heap_alloc_old w _ k hk)
    refine OpOk.val' (v' := .map (some w.heap.size)) (w' := w.alloc (.map #[] 0)) ?_ (VRel.map (Mu.add_self _ _ _)) h1 ⟨h3, Fr.add _ _ _⟩
    simp [Instr.makeMap]
  case h_16 t l c ho =>
    rw [ho]
    obtain ⟨u, hu, hv⟩ := Option.bind_eq_some_iff.1 hv
    obtain ⟨z, hz, hv⟩ := Option.bind_eq_some_iff.1 hv
    obtain ⟨v', w', μ', h1, h2, h3, h4⟩ := makeSliceA_ok hR hμ (E hu) (E hz) hv
    exact OpOk.val' h1 h2 h3 h4
  case h_17 t x lo hi mx ho =>
    rw [ho]
    obtain ⟨u, hu, hv⟩ := Option.bind_eq_some_iff.1 hv
    obtain ⟨p, hp, hv⟩ := Option.bind_eq_some_iff.1 hv
    obtain ⟨q, hq, hv⟩ := Option.bind_eq_some_iff.1 hv
    obtain ⟨s, hs, hv⟩ := Option.bind_eq_some_iff.1 hv
    simp only [Option.map_eq_some_iff, Prod.mk.injEq] at hv
    obtain ⟨r, hr, rfl, rfl⟩ := hv
    obtain ⟨v', h1, h2⟩ := sliceA_ok hR (E hu) (optO_ok hR hT hp) (optO_ok hR hT hq) (optO_ok hR hT hs) hr
    exact OpOk.val hR h1 h2
  case h_18 s x f ho =>
    rw [ho]
    obtain ⟨u, hu, hv⟩ := Option.bind_eq_some_iff.1 hv
    simp only [Option.map_eq_some_iff, Prod.mk.injEq] at hv
    obtain ⟨r, hr, rfl, rfl⟩ := hv
    obtain ⟨v', h1, h2⟩ := fieldAddrA_ok (w := w) (E hu) hr
    exact OpOk.val hR h1 h2
  case h_19 t x f ho =>
    rw [ho]
    obtain ⟨u, hu, hv⟩ := Option.bind_eq_some_iff.1 hv
    simp only [Option.map_eq_some_iff, Prod.mk.injEq] at hv
    obtain ⟨r, hr, rfl, rfl⟩ := hv
    obtain ⟨v', h1, h2⟩ := fieldA_ok (w := w) (E hu) hr
    exact OpOk.val hR h1 h2
  case h_20 t x ix ho =>
    rw [ho]
    obtain ⟨u, hu, hv⟩ := Option.bind_eq_some_iff.1 hv
    obtain ⟨z, hz, hv⟩ := Option.bind_eq_some_iff.1 hv
    simp only [Option.map_eq_some_iff, Prod.mk.injEq] at hv
    obtain ⟨r, hr, rfl, rfl⟩ := hv
    obtain ⟨v', h1, h2⟩ := indexAddrA_ok (w := w) (E hu) (E hz) hr
    exact OpOk.val hR h1 h2
  case h_21 t x ix ho =>
    rw [ho]
    obtain ⟨u, hu, hv⟩ := Option.bind_eq_some_iff.1 hv
    obtain ⟨z, hz, hv⟩ := Option.bind_eq_some_iff.1 hv
    simp only [Option.map_eq_some_iff, Prod.mk.injEq] at hv
    obtain ⟨r, hr, rfl, rfl⟩ := hv
    obtain ⟨v', h1, h2⟩ := indexA_ok (w := w) (E hu) (E hz) hr
    exact OpOk.val hR h1 h2
  case h_22 t x ix ok ho =>
    rw [ho]
    obtain ⟨u, hu, hv⟩ := Option.bind_eq_some_iff.1 hv
    obtain ⟨z, hz, hv⟩ := Option.bind_eq_some_iff.1 hv
    simp only [Option.map_eq_some_iff, Prod.mk.injEq] at hv
    obtain ⟨r, hr, rfl, rfl⟩ := hv
    obtain ⟨v', h1, h2⟩ := lookupA_ok hR (E hu) (E hz) hr
    exact OpOk.val hR h1 h2
  case h_23 t m k x ho =>
    rw [ho]
    obtain ⟨u, hu, hv⟩ := Option.bind_eq_some_iff.1 hv
    obtain ⟨z, hz, hv⟩ := Option.bind_eq_some_iff.1 hv
    obtain ⟨y, hy, hv⟩ := Option.bind_eq_some_iff.1 hv
    simp only [Option.map_eq_some_iff, Prod.mk.injEq] at hv
    obtain ⟨r, hr, rfl, rfl⟩ := hv
    obtain ⟨w', h1, h2, h3⟩ := mapUpdateA_ok hR (E hu) (E hz) (E hy) hr
    exact OpOk.skip h1 h2 h3
  case h_24 t m k x ho =>
    rw [ho]
    obtain ⟨u, hu, hv⟩ := Option.bind_eq_some_iff.1 hv
    obtain ⟨z, hz, hv⟩ := Option.bind_eq_some_iff.1 hv
    obtain ⟨y, hy, hv⟩ := Option.bind_eq_some_iff.1 hv
    simp only [Option.map_eq_some_iff, Prod.mk.injEq] at hv
    obtain ⟨r, hr, rfl, rfl⟩ := hv
    obtain ⟨w', h1, h2, h3⟩ := mapUpdateA_ok hR (E hu) (E hz) (E hy) hr
    exact OpOk.skip h1 h2 h3
  case h_25 t m k ho =>
    rw [ho]
    obtain ⟨u, hu, hv⟩ := Option.bind_eq_some_iff.1 hv
    obtain ⟨z, hz, hv⟩ := Option.bind_eq_some_iff.1 hv
    obtain ⟨v', w', h1, h2, h3, h4⟩ := mapEntryA_ok hR (E hu) (E hz) hv
    exact OpOk.val' h1 h2 h3 ⟨h4, Fr.refl _ _⟩
  case h_26 t m s x ho =>
    rw [ho]
    obtain ⟨u, hu, hv⟩ := Option.bind_eq_some_iff.1 hv
    obtain ⟨z, hz, hv⟩ := Option.bind_eq_some_iff.1 hv
    obtain ⟨y, hy, hv⟩ := Option.bind_eq_some_iff.1 hv
    simp only [Option.map_eq_some_iff, Prod.mk.injEq] at hv
    obtain ⟨r, hr, rfl, rfl⟩ := hv
    obtain ⟨w', h1, h2, h3⟩ := entryStoreA_ok hR (t := t) (E hu) (E hz) (E hy) hr
    exact OpOk.skip h1 h2 h3
  case h_27 t i ho =>
    rw [ho]
    split at hv
    · rename_i vs hu
      simp only [Option.map_eq_some_iff, Prod.mk.injEq] at hv
      obtain ⟨r, hr, rfl, rfl⟩ := hv
      have := E hu
      generalize hq : a.eval t = q at this
      cases this with
      | @tuple _ vs' hvs =>
        obtain ⟨r', h1, h2⟩ := hvs.get i r (by simpa using hr)
        have h1' : vs'[i]? = some r' := by simpa using h1
        exact OpOk.val hR (v' := r') (by simp [hq, Instr.extract, h1']) h2
    · cases hv
  case h_28 b args ts ho =>
    rw [ho]
    obtain ⟨vs, hvs, hv⟩ := Option.bind_eq_some_iff.1 hv
    have hA := mapO_ok hR hT hvs
    have key : ∀ {s : Sem Value} {v2 : Value} {h2 : AHeap}, builtin b ts o.type (args.map fun | .const _ => true | _ => false) (args.map a.eval) = (do pure (Next.value (← s)) : Sem Next) →
        (∃ v' w' μ', s.run P w = .ok v' w' ∧ VRel μ' v2 v' ∧ Rel P μ' h2 w' ∧ Ste μ h w μ' h2 w' ∧ Fr μ μ' id) →
        OpOk P μ id h w ((do let d ← resolve a.eval { callee := .builtin b, args := args, argTypes := ts } o.type; invoke d.target d.args : Sem Next).run P w) v2 h2 := fun {s v2 h2} he hh => by
      obtain ⟨v', w', μ', h1, h3, h4, h5⟩ := hh
      have : ((do let d ← resolve a.eval { callee := .builtin b, args := args, argTypes := ts } o.type; invoke d.target d.args : Sem Next).run P w) = ((do pure (Next.value (← s)) : Sem Next).run P w) := by
        rw [← he]
        simp [resolve, invoke]
        rfl
      rw [this]
      exact OpOk.val' h1 h3 h4 h5
    unfold builtinA at hv
    split at hv
    · -- len
      split at hv
      · rename_i t x ht hx
        simp only [Option.map_eq_some_iff, Prod.mk.injEq] at hv
        obtain ⟨r, hr, rfl, rfl⟩ := hv
        obtain ⟨x', hx', hxr⟩ := hA.get 0 x (by simpa using hx)
        refine key (s := Builtin.len_ ts o.type (args.map a.eval)) rfl ?_
        obtain ⟨v', h1, h2⟩ := lenA_ok hR (ty := o.type) ht hxr (rest := args.map a.eval) (by simpa using hx') hr
        exact ⟨v', w, μ, h1, h2, hR, Ste.refl _ _ _, Fr.refl _ _⟩
      · cases hv
    · split at hv
      · rename_i hsz
        exact key (s := Builtin.append_ ts o.type (args.map a.eval)) rfl (appendA_ok hR hμ hA hsz hv)
      · cases hv
    · split at hv
      · rename_i hsz
        exact key (s := Builtin.copy_ ts o.type (args.map a.eval)) rfl (copyA_ok hR hA hsz hv)
      · cases hv
    · simp only [Option.map_eq_some_iff, Prod.mk.injEq] at hv
      obtain ⟨r, hr, rfl, rfl⟩ := hv
      refine key (s := Builtin.min_ ts o.type (args.map a.eval)) rfl ?_
      obtain ⟨h1, h2⟩ := minA_ok (P := P) (w := w) hA hr ts o.type
      have he : args.map a.eval = (args.map a.eval).toList.toArray := (Array.toArray_toList).symm
      exact ⟨r, w, μ, by rw [he]; exact h1, h2, hR, Ste.refl _ _ _, Fr.refl _ _⟩
    · simp only [Option.map_eq_some_iff, Prod.mk.injEq] at hv
      obtain ⟨r, hr, rfl, rfl⟩ := hv
      refine key (s := Builtin.max_ ts o.type (args.map a.eval)) rfl ?_
      obtain ⟨h1, h2⟩ := maxA_ok (P := P) (w := w) hA hr ts o.type
      have he : args.map a.eval = (args.map a.eval).toList.toArray := (Array.toArray_toList).symm
      exact ⟨r, w, μ, by rw [he]; exact h1, h2, hR, Ste.refl _ _ _, Fr.refl _ _⟩
    · -- delete
      split at hv
      · rename_i t m k ht hm hk
        split at hv
        case isFalse => cases hv
        rename_i hsz
        simp only [Option.map_eq_some_iff, Prod.mk.injEq] at hv
        obtain ⟨r, hr, rfl, rfl⟩ := hv
        refine key (s := Builtin.delete_ ts o.type (args.map a.eval)) rfl ?_
        obtain ⟨m', k', hargs, hmr, hkr⟩ := two_args hA hsz hm hk
        obtain ⟨w', h1, h2, h3⟩ := deleteA_ok hR (ty := o.type) ht hmr hkr hr
        rw [hargs]
        exact ⟨.tuple #[], w', μ, h1, .tuple .nil, h2, h3, Fr.refl _ _⟩
      · cases hv
    · cases hv
  case h_29 => cases hv

end
end Go.Ev
