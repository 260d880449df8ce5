/- Each operation that calls no function, on. -/
import Derived.Test.YtfickkmgbecamaaDoorEvG
namespace Go.Ev

section
variable {P : Program} {μ : Mu} {h h' : AHeap} {w : World}

theorem binA_ok (hR : Rel P μ h w) {op : BinOp} {t : TypeId} {x y x' y' v : Value} (hx : VRel μ x x') (hy : VRel μ y y') (hv : binA P h op t x y = some v) (p q : Operand) :
    (do eqGuard op t p q x' y'; binOp op t x' y' : Sem Value).run P w = .ok v w ∧ VRel μ v v := by
  unfold binA at hv
  split at hv
  · cases hx; cases hy
    rename_i k a k' b
    rw [eqGuard_at_int, pure_bind]
    split at hv
    · exact shiftA_ok (.inl rfl) hv t w
    · exact shiftA_ok (.inr rfl) hv t w
    · split at hv
      · rename_i hk; subst hk; exact ⟨intBin_ok hv t w, intBin_V hv⟩
      · cases hv
  · cases hx; cases hy
    rename_i a b
    rw [eqGuard_at_string, pure_bind]
    exact strBin_ok hv t w
  · rename_i hn1 hn2
    have hbin : ∀ (op : BinOp), op = .eql ∨ op = .neq → ∀ c, (Op.equal t x' y').run P w = .ok c w → (eqGuard op t p q x' y').run P w = .ok () w →
        (do eqGuard op t p q x' y'; binOp op t x' y' : Sem Value).run P w = .ok (.bool (if op = .eql then c else !c)) w := fun op ho c he hg => by
      rw [Sem.run_bind, hg]
      simp only [Result.andThen_ok]
      have n1 : ∀ k a k' b, ¬ (x' = .int k a ∧ y' = .int k' b) := fun k a k' b ⟨e1, e2⟩ => by
        subst e1; subst e2; cases hx; cases hy; exact hn1 _ _ _ _ rfl rfl
      have n2 : ∀ a b, ¬ (x' = .string a ∧ y' = .string b) := fun a b ⟨e1, e2⟩ => by
        subst e1; subst e2; cases hx; cases hy; exact hn2 _ _ rfl rfl
      rcases ho with rfl | rfl
      · cases hx <;> cases hy <;> first
          | (exact (n1 _ _ _ _ ⟨rfl, rfl⟩).elim)
          | (exact (n2 _ _ ⟨rfl, rfl⟩).elim)
          | (simp [binOp, he])
      · cases hx <;> cases hy <;> first
          | (exact (n1 _ _ _ _ ⟨rfl, rfl⟩).elim)
          | (exact (n2 _ _ ⟨rfl, rfl⟩).elim)
          | (simp [binOp, he])
    split at hv
    · simp only [Option.map_eq_some_iff] at hv
      obtain ⟨c, hc, rfl⟩ := hv
      obtain ⟨h1, h2⟩ := eqA_ok hR hx hy hc .eql p q
      exact ⟨by have := hbin .eql (.inl rfl) c h1 h2; simpa using this, .bool _⟩
    · simp only [Option.map_eq_some_iff] at hv
      obtain ⟨c, hc, rfl⟩ := hv
      obtain ⟨h1, h2⟩ := eqA_ok hR hx hy hc .neq p q
      exact ⟨by have := hbin .neq (.inr rfl) c h1 h2; simpa using this, .bool _⟩
    · cases hv

theorem unA_ok {op : UnOp} {x x' v : Value} (hx : VRel μ x x') (hv : unA op x = some v) : (Op.unary op x').run P w = .ok v w ∧ VRel μ v v := by
  unfold unA at hv
  split at hv
  · cases hx; cases hv; exact ⟨by simp [Op.unary, Op.intArith], .int _ _⟩
  · cases hx
    simp only [intBin, Option.some.injEq] at hv
    subst hv
    exact ⟨by simp [Op.unary, Op.intBits], .int _ _⟩
  · cases hx; cases hv; exact ⟨by simp [Op.unary], .bool _⟩
  · cases hv

theorem convA_ok {s d : TypeId} {x x' v : Value} (hx : VRel μ x x') (hv : convA P s d x = some v) : (convert s d x').run P w = .ok v w ∧ VRel μ v v := by
  unfold convA at hv
  split at hv
  · rename_i h1 h2
    cases hx; cases hv
    exact ⟨by simp [convert, run_underlying h1, run_underlying h2, Conv.intToInt], .int _ _⟩
  · rename_i h1 h2
    cases hx; cases hv
    exact ⟨by simp [convert, run_underlying h1, run_underlying h2], .string _⟩
  · cases hv

/-! ### Building -/

theorem VsRel.foldl_set {off : Nat} : ∀ {vs vs' : List Value} (k : Nat) {cs cs' : Array Value}, VsRel μ vs vs' → VsRel μ cs.toList cs'.toList →
    VsRel μ (((vs.zipIdx k).foldl (fun cs (c, j) => cs.setIfInBounds (off + j) c) cs).toList) (((vs'.zipIdx k).foldl (fun cs (c, j) => cs.setIfInBounds (off + j) c) cs').toList)
  | _, _, _, _, _, .nil, hc => by simpa using hc
  | _, _, k, cs, cs', .cons h hs, hc => by
    simp only [List.zipIdx_cons, List.foldl_cons]
    refine VsRel.foldl_set (k + 1) hs ?_
    simp only [Array.toList_setIfInBounds]
    exact VsRel.set _ h hc

def PRel (μ : Mu) : List (Nat × Value) → List (Nat × Value) → Prop
  | [], [] => True
  | (i, v) :: r, (j, v') :: r' => i = j ∧ VRel μ v v' ∧ PRel μ r r'
  | _, _ => False

theorem fill_ok {place : Nat → Option (Nat × Nat)} : ∀ {ps ps' : List (Nat × Value)} {cs cs' rs : Array Value}, PRel μ ps ps' → VsRel μ cs.toList cs'.toList → Instr.fill place cs ps = some rs →
    ∃ rs', Instr.fill place cs' ps' = some rs' ∧ VsRel μ rs.toList rs'.toList
  | [], [], cs, cs', rs, _, hc, h => by simp only [Instr.fill, Option.some.injEq] at h ⊢; subst h; exact ⟨_, rfl, hc⟩
  | [], _ :: _, _, _, _, hp, _, _ => hp.elim
  | _ :: _, [], _, _, _, hp, _, _ => by cases hp
  | (i, v) :: r, (j, v') :: r', cs, cs', rs, hp, hc, h => by
    obtain ⟨rfl, hv, hr⟩ := hp
    have e1 : v'.cells.size = v.cells.size := by have := hv.cells.length; simpa using this.symm
    have e2 : cs'.size = cs.size := by have := hc.length; simpa using this.symm
    simp only [Instr.fill] at h ⊢
    split at h
    · cases h
    · rename_i off size hpl
      rw [e1, e2]
      split at h
      · cases h
      · rename_i hcond
        rw [if_neg hcond]
        refine fill_ok hr ?_ h
        have := VsRel.foldl_set (off := off) 0 hv.cells hc
        simp only [← Array.foldl_toList, Array.toList_zipIdx]
        exact this

theorem partsO_ok (hR : Rel P μ h w) {e : Tr Value} {n : Nat} {a : Act} (hT : TmpsRel μ e n a.tmps) : ∀ {xs : List (Nat × Operand)} {vs : List (Nat × Value)}, partsO P.globals.size e xs = some vs →
    PRel μ vs (xs.map fun (i, x) => (i, a.eval x))
  | [], vs, h => by simp only [partsO, Option.some.injEq] at h; subst h; trivial
  | (i, x) :: xs, vs, h => by
    simp only [partsO] at h
    split at h
    · rename_i v hv
      simp only [Option.map_eq_some_iff] at h
      obtain ⟨us, hu, rfl⟩ := h
      exact ⟨rfl, evalO_ok hR hT hv, partsO_ok hR hT hu⟩
    · cases h

theorem run_mapM_places {fs : List Field} (hall : ∀ f ∈ fs, (P.info? f.type).isSome = true) (w : World) :
    (fs.mapM (fun f => (do pure (f.offset, ← sizeOf f.type) : Sem (Nat × Nat)))).run P w = .ok (fs.map fun f => (f.offset, ((P.info? f.type).map (·.size)).getD 0)) w := by
  induction fs with
  | nil => simp
  | cons f fs ih =>
    obtain ⟨i, hi⟩ := Option.isSome_iff_exists.1 (hall f (by simp))
    have := ih fun g hg => hall g (by simp [hg])
    simp only [List.mapM_cons, Sem.run_bind, run_sizeOf hi, Result.andThen_ok, Sem.run_pure, this, List.map_cons, hi, Option.map_some, Option.getD_some]

theorem buildA_ok {t : TypeId} {ps ps' : List (Nat × Value)} {v : Value} (hp : PRel μ ps ps') (hv : buildA P t ps = some v) : ∃ v', (Instr.build t ps'.toArray).run P w = .ok v' w ∧ VRel μ v v' := by
  unfold buildA at hv
  split at hv
  · rename_i i d hi hd
    split at hv
    · rename_i z fs hz
      split at hv
      · rename_i hc
        simp only [Bool.and_eq_true] at hc
        obtain ⟨hall, hz1⟩ := hc
        simp only [Option.map_eq_some_iff] at hv
        obtain ⟨cs, hcs, rfl⟩ := hv
        have hplaces : ∀ j : Nat, ((fs.toList.map fun f => (f.offset, ((P.info? f.type).map (·.size)).getD 0)).toArray[j]? : Option (Nat × Nat)) = fillPlaces P fs j := fun j => by
          unfold fillPlaces
          simp only [List.getElem?_toArray, List.getElem?_map, Array.getElem?_toList]
          cases hf : fs[j]? with
          | none => rfl
          | some f =>
            have hmem : f ∈ fs := Array.mem_of_getElem? hf
            rw [Array.all_eq_true_iff_forall_mem] at hall
            obtain ⟨k, hk⟩ := Option.isSome_iff_exists.1 (hall f hmem)
            simp [hk]
        obtain ⟨cs', hcs', hrel⟩ := fill_ok hp (VsRel.of_pv1 hz1) hcs
        refine ⟨.agg cs', ?_, .agg hrel⟩
        have hm := run_mapM_places (P := P) (fs := fs.toList) (fun f hf => by
          rw [Array.all_eq_true_iff_forall_mem] at hall
          exact hall f (by simpa using hf)) w
        have hm2 : (fs.mapM (fun f => (do pure (f.offset, ← sizeOf f.type) : Sem (Nat × Nat)))).run P w = .ok (fs.toList.map fun f => (f.offset, ((P.info? f.type).map (·.size)).getD 0)).toArray w := by
          rw [Array.mapM_eq_mapM_toList, Sem.run_map, hm]; rfl
        have hfun : (fun j : Nat => ((fs.toList.map fun f => (f.offset, ((P.info? f.type).map (·.size)).getD 0)).toArray[j]? : Option (Nat × Nat))) = fillPlaces P fs := funext hplaces
        unfold Instr.build
        rw [Sem.run_bind, run_zeroValue hi hz]
        simp only [Result.andThen_ok]
        rw [Sem.run_bind, run_underlying hd]
        simp only [Result.andThen_ok]
        rw [Sem.run_bind, hm2]
        simp only [Result.andThen_ok, hfun, hcs', Sem.run_pure]
      · cases hv
    · rename_i z e len hz
      split at hv
      · rename_i j hj
        split at hv
        · rename_i hz1
          simp only [Option.map_eq_some_iff] at hv
          obtain ⟨cs, hcs, rfl⟩ := hv
          obtain ⟨cs', hcs', hrel⟩ := fill_ok hp (VsRel.of_pv1 hz1) hcs
          refine ⟨.agg cs', ?_, .agg hrel⟩
          unfold Instr.build
          rw [Sem.run_bind, run_zeroValue hi hz]
          simp only [Result.andThen_ok]
          rw [Sem.run_bind, run_underlying hd]
          simp only [Result.andThen_ok]
          rw [Sem.run_bind, run_sizeOf hj]
          simp only [Result.andThen_ok, hcs', Sem.run_pure]
        · cases hv
      · cases hv
    · cases hv
  · cases hv

theorem all_zeroRow {z : Array Value} (hz : z.toList.all pv1 = true) (hs : 0 < z.size) (n : Nat) : (zeroRow z n).toList.all pv1 = true := by
  rw [List.all_eq_true] at hz ⊢
  intro x hx
  simp only [zeroRow, Array.toList_map, Array.toList_range, List.mem_map, List.mem_range] at hx
  obtain ⟨i, hi, rfl⟩ := hx
  have hlt : i % z.size < z.size := Nat.mod_lt _ hs
  rw [getElem!_pos z (i % z.size) hlt]
  exact hz _ (by simp)

theorem buildSliceA_ok (hR : Rel P μ h w) {id : Nat} (hμ : μ id = none) {t : TypeId} {len : Nat} {ps ps' : List (Nat × Value)} {v : Value} (hp : PRel μ ps ps') (hv : buildSliceA P h id t len ps = some (v, h')) :
    ∃ v' w' μ', (Instr.buildSlice t len ps'.toArray).run P w = .ok v' w' ∧ VRel μ' v v' ∧ Rel P μ' h' w' ∧ Ste μ h w μ' h' w' ∧ Fr μ μ' id := by
  unfold buildSliceA at hv
  split at hv
  · rename_i e ht
    split at hv
    · rename_i j hj
      split at hv
      · rename_i z hz
        split at hv
        · rename_i hc
          obtain ⟨hlen, hz1, hzs, hpos⟩ := hc
          split at hv
          · rename_i cs hcs
            have hzr := all_zeroRow (z := z.cells) hz1 (by omega) (len * j.size)
            obtain ⟨cs', hcs', hrel⟩ := fill_ok hp (VsRel.of_pv1 hzr) hcs
            have hvv : v = .slice (some ⟨id, 0, none⟩) len len := by
              unfold newA at hv
              split at hv
              · simp only [Option.map_eq_some_iff, Prod.mk.injEq] at hv; obtain ⟨_, _, hh, _⟩ := hv; exact hh.symm
              · cases hv
            subst hvv
            obtain ⟨inf, hinf, h1, h2⟩ := newA_ok hR hμ (n := w.drawn) hrel hv rfl
            rw [hj] at hinf; cases hinf
            refine ⟨.slice (some ⟨w.heap.size, 0, none⟩) len len, _, _, ?_, ?_, h1, h2, Fr.add _ _ _⟩
            · have hle : ¬ (len * j.size > 2 ^ 24) := by omega
              by_cases h0 : len * j.size = 0
              · have hcs0 : Instr.fill (fun i => some (i * j.size, j.size)) #[] ps' = some cs' := by
                  have := hcs'; rw [h0] at this; simpa [zeroRow, Array.range_zero'] using this
                simp [Instr.buildSlice, run_underlying ht, run_sizeOf hj, h0, Array.range_zero', hcs0, newRow]
              · have hcs2 : Instr.fill (fun i => some (i * j.size, j.size)) ((Array.range (len * j.size)).map (z.cells[· % z.cells.size]!)) ps' = some cs' := hcs'
                simp [Instr.buildSlice, run_underlying ht, run_sizeOf hj, hle, h0, run_zeroValue hj hz, hcs2, newRow]
            · exact VRel.slice (o := 0) (Mu.add_self _ _ _) (Nat.le_refl _) (fun _ => rfl) (.inl rfl)
          · cases hv
        · cases hv
      · cases hv
    · cases hv
  · cases hv

theorem madeCells_eq (z : Array Value) (n : Nat) : madeCells z n = zeroRow z n := rfl

theorem makeSliceA_ok (hR : Rel P μ h w) {id : Nat} (hμ : μ id = none) {t : TypeId} {l c l' c' v : Value} (hl : VRel μ l l') (hc : VRel μ c c') (hv : makeSliceA P h id t l c = some (v, h')) :
    ∃ v' w' μ', (Instr.makeSlice t l' c').run P w = .ok v' w' ∧ VRel μ' v v' ∧ Rel P μ' h' w' ∧ Ste μ h w μ' h' w' ∧ Fr μ μ' id := by
  unfold makeSliceA at hv
  split at hv
  · rename_i e k1 l k2 c ht
    cases hl; cases hc
    split at hv
    · rename_i j hj
      split at hv
      · rename_i z hz
        split at hv
        · rename_i hcond
          obtain ⟨h0, hlc, hcr, hcb, hz1, hzs, hpos⟩ := hcond
          have hvv : v = .slice (some ⟨id, 0, none⟩) l.toNat c.toNat := by
            unfold newA at hv
            split at hv
            · simp only [Option.map_eq_some_iff, Prod.mk.injEq] at hv; obtain ⟨_, _, hh, _⟩ := hv; exact hh.symm
            · cases hv
          have hzr := all_zeroRow (z := z.cells) hz1 (by omega) (c.toNat * j.size)
          subst hvv
          obtain ⟨inf, hinf, h1, h2⟩ := newA_ok hR hμ (n := w.drawn) (VsRel.of_pv1 hzr) hv rfl
          rw [hj] at hinf; cases hinf
          refine ⟨.slice (some ⟨w.heap.size, 0, none⟩) l.toNat c.toNat, _, _, ?_, ?_, h1, h2, Fr.add _ _ _⟩
          · unfold room at hcr hcb
            have hcb' : (j.bytes : Int) * c ≤ 281474976710656 := by
              have h1 : ((c.toNat * j.bytes : Nat) : Int) ≤ ((2 ^ 40 : Nat) : Int) := Int.ofNat_le.2 hcb
              rw [Int.natCast_mul, Int.toNat_of_nonneg (by omega), Int.mul_comm] at h1
              omega
            have := run_make (P := P) w t e j z ht hj hz k1 k2 l c h0 hlc hcb' (by omega)
            rw [madeCells_eq] at this
            simpa using this
          · exact VRel.slice (o := 0) (Mu.add_self _ _ _) (Nat.le_refl _) (fun _ => rfl) (.inl rfl)
        · cases hv
      · cases hv
    · cases hv
  · cases hv

end
end Go.Ev
