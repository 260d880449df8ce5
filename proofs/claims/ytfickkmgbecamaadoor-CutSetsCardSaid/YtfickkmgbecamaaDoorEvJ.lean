/- Maps written; len, append, copy. -/
import Derived.Test.YtfickkmgbecamaaDoorEvI
namespace Go.Ev

section
variable {P : Program} {μ : Mu} {h h' : AHeap} {w : World}

theorem setMap_ok (hR : Rel P μ h w) {r : Nat} {es es' : List MapEntry} {clock clock' : Nat} (hg : h.get r = some (.map es clock)) {i : Img} (hi : μ r = some i) {E' : Array MapEntry} (hE : EntsRel μ es' E'.toList) :
    ∃ w', (setObj i.blk (.map E' clock')).run P w = .ok () w' ∧ Rel P μ (h.put r (.map es' clock')) w' ∧ Ste μ h w μ (h.put r (.map es' clock')) w' := by
  obtain ⟨E, h1, h2, _⟩ := mapObj hR hg hi
  have hlt : i.blk < w.heap.size := (Array.getElem?_eq_some_iff.1 h1).1
  refine ⟨{ w with heap := w.heap.setIfInBounds i.blk (.map E' clock') }, by simp [setObj, Sem.run, h1], ?_⟩
  exact hR.update hg rfl hi ⟨E', by simp [hlt], hE⟩ (by simp) rfl rfl rfl (fun k hk => by
    simp only
    rw [Array.getElem?_setIfInBounds_ne (fun e => hk e.symm)])

theorem keyDesc {t : TypeId} {k : Value} (h : keyOk P t k = true) : ∃ d, P.underlying t = some d := by
  have := keyOk_ok h true default
  unfold Instr.checkKey at this
  rw [Sem.run_bind] at this
  cases hu : P.underlying t with
  | some d => exact ⟨d, rfl⟩
  | none => simp [Go.underlying, hu] at this

theorem keyStays_ok {es : List MapEntry} {E : Array MapEntry} (hrel : EntsRel μ es E.toList) {i : Nat} {k : Value} (hs : sameAt es i k = true) (w : World) :
    (Instr.keyThatStays (((E[i]?).map (·.key)).getD k) k).run P w = .ok k w := by
  unfold sameAt at hs
  split at hs
  · rename_i e he
    obtain ⟨e', h1, h2⟩ := hrel.get i e he
    have h1' : E[i]? = some e' := by simpa using h1
    simp [Instr.keyThatStays, h1', h2.key, hs]
  · cases hs

theorem mapUpdateA_ok (hR : Rel P μ h w) {t : TypeId} {m m' k k' x x' : Value} (hm : VRel μ m m') (hk : VRel μ k k') (hx : VRel μ x x') (hv : mapUpdateA P h t m k x = some h') :
    ∃ w', (Instr.mapUpdate t m' k' x').run P w = .ok () w' ∧ Rel P μ h' w' ∧ Ste μ h w μ h' w' := by
  unfold mapUpdateA at hv
  split at hv
  · rename_i kt et r ht
    cases hm with
    | @map _ i hi =>
    split at hv
    · rename_i es clock hg
      obtain ⟨E, hE, hrel, hget⟩ := mapObj hR hg hi
      split at hv
      · rename_i hko
        have hkk := hk.eq_of_qv (keyOk_qv hko)
        subst hkk
        have hck := keyOk_ok hko false w
        obtain ⟨d, hd⟩ := keyDesc hko
        split at hv
        · rename_i n u hf
          split at hv
          · rename_i hs
            cases hv
            obtain ⟨r', hr', hfr⟩ := findKey_ok hd hrel hf w
            cases r' with
            | none => exact hfr.elim
            | some p =>
              obtain ⟨n', u'⟩ := p
              obtain ⟨rfl, _⟩ := hfr
              have hst := keyStays_ok (P := P) hrel hs w
              obtain ⟨w', hw', hrest⟩ := setMap_ok hR hg hi (clock' := clock) (E' := E.modify n fun e => { e with key := k', val := x' })
                (es' := es.modify n fun e => { e with key := k', val := x }) (by
                  rw [Array.toList_modify]
                  exact hrel.modify (fun a b hab => (⟨rfl, keyOk_qv hko, hx, hab.born⟩ : EntRel μ { a with key := k', val := x } { b with key := k', val := x' })) n)
              exact ⟨w', by simp [Instr.mapUpdate, run_underlying ht, hget, hck, hr', hst, hw'], hrest⟩
          · cases hv
        · rename_i hf
          cases hv
          obtain ⟨r', hr', hfr⟩ := findKey_ok hd hrel hf w
          cases r' with
          | some p => exact hfr.elim
          | none =>
            obtain ⟨w', hw', hrest⟩ := setMap_ok hR hg hi (clock' := clock + 1) (E' := E.push { key := k', val := x', born := clock })
              (es' := es ++ [{ key := k', val := x, born := clock }]) (by
                rw [Array.toList_push]
                exact hrel.append (.cons ⟨rfl, keyOk_qv hko, hx, rfl⟩ .nil))
            exact ⟨w', by simp [Instr.mapUpdate, run_underlying ht, hget, hck, hr', hw'], hrest⟩
        · cases hv
      · cases hv
    · cases hv
  · cases hv

theorem EntsRel.born {es E : List MapEntry} (hrel : EntsRel μ es E) (i : Nat) : ((E[i]?).map (fun x => (x.born : Int))).getD 0 = ((es[i]?).map (fun x => (x.born : Int))).getD 0 := by
  cases he : es[i]? with
  | some e =>
    obtain ⟨e', h1, h2⟩ := hrel.get i e he
    simp [h1, h2.born]
  | none =>
    have : E[i]? = none := by
      rw [List.getElem?_eq_none_iff] at he ⊢
      rw [← hrel.length]; exact he
    simp [this]

theorem mapEntryA_ok (hR : Rel P μ h w) {t : TypeId} {m m' k k' v : Value} (hm : VRel μ m m') (hk : VRel μ k k') (hv : mapEntryA P h t m k = some (v, h')) :
    ∃ v' w', (Instr.mapEntry t m' k').run P w = .ok v' w' ∧ VRel μ v v' ∧ Rel P μ h' w' ∧ Ste μ h w μ h' w' := by
  unfold mapEntryA at hv
  split at hv
  · rename_i kt et r ht
    cases hm with
    | @map _ i hi =>
    split at hv
    · rename_i es clock hg
      obtain ⟨E, hE, hrel, hget⟩ := mapObj hR hg hi
      split at hv
      · rename_i hko
        have hkk := hk.eq_of_qv (keyOk_qv hko)
        subst hkk
        have hck := keyOk_ok hko false w
        obtain ⟨d, hd⟩ := keyDesc hko
        split at hv
        · rename_i n u hf
          split at hv
          · rename_i hs
            cases hv
            obtain ⟨r', hr', hfr⟩ := findKey_ok hd hrel hf w
            cases r' with
            | none => exact hfr.elim
            | some p =>
              obtain ⟨n', u'⟩ := p
              obtain ⟨rfl, hu⟩ := hfr
              have hst := keyStays_ok (P := P) hrel hs w
              obtain ⟨w', hw', hrest⟩ := setMap_ok hR hg hi (clock' := clock) (E' := E.modify n fun e => { e with key := k' })
                (es' := es.modify n fun e => { e with key := k' }) (by
                  rw [Array.toList_modify]
                  exact hrel.modify (fun a b hab => (⟨rfl, keyOk_qv hko, hab.val, hab.born⟩ : EntRel μ { a with key := k' } { b with key := k' })) n)
              refine ⟨.tuple #[u', goInt (((E[n]?).map (·.born)).getD 0)], w', by simp [Instr.mapEntry, run_underlying ht, hget, hck, hr', hst, hw'], ?_, hrest⟩
              have hb : ((E[n]?).map (fun x => (x.born : Int))).getD 0 = ((es[n]?).map (fun x => (x.born : Int))).getD 0 := by simpa using hrel.born n
              rw [hb]
              exact .tuple (.cons hu (.cons (.int _ _) .nil))
          · cases hv
        · rename_i hf
          obtain ⟨r', hr', hfr⟩ := findKey_ok hd hrel hf w
          cases r' with
          | some p => exact hfr.elim
          | none =>
            split at hv
            · rename_i z hz
              split at hv
              · rename_i hpz
                cases hv
                obtain ⟨j, hj, hz'⟩ := Option.bind_eq_some_iff.1 hz
                have hzr := run_zeroValue hj hz' w
                obtain ⟨w', hw', hrest⟩ := setMap_ok hR hg hi (clock' := clock + 1) (E' := E.push { key := k', val := z, born := clock })
                  (es' := es ++ [{ key := k', val := z, born := clock }]) (by
                    rw [Array.toList_push]
                    exact hrel.append (.cons ⟨rfl, keyOk_qv hko, VRel.of_pv hpz, rfl⟩ .nil))
                exact ⟨.tuple #[z, goInt clock], w', by simp [Instr.mapEntry, run_underlying ht, hget, hck, hr', hzr, hw'], .tuple (.cons (VRel.of_pv hpz) (.cons (.int _ _) .nil)), hrest⟩
              · cases hv
            · cases hv
        · cases hv
      · cases hv
    · cases hv
  · cases hv

theorem findIdx_born {es E : List MapEntry} (hrel : EntsRel μ es E) (n : Int) : E.findIdx? (fun e => (e.born : Int) == n) = es.findIdx? (fun e => (e.born : Int) == n) := by
  induction hrel with
  | nil => rfl
  | cons he hs ih => simp only [List.findIdx?_cons, he.born, ih]

theorem entryStoreA_ok (hR : Rel P μ h w) {t : TypeId} {m m' k k' x x' : Value} (hm : VRel μ m m') (hk : VRel μ k k') (hx : VRel μ x x') (hv : entryStoreA h m k x = some h') :
    ∃ w', (Instr.entryStore t m' k' x').run P w = .ok () w' ∧ Rel P μ h' w' ∧ Ste μ h w μ h' w' := by
  unfold entryStoreA at hv
  split at hv
  · rename_i r kd n
    cases hk
    cases hm with
    | @map _ i hi =>
    split at hv
    · rename_i es clock hg
      obtain ⟨E, hE, hrel, hget⟩ := mapObj hR hg hi
      split at hv
      · rename_i j hj
        cases hv
        have hj' : E.findIdx? (fun e => (e.born : Int) == n) = some j := by
          rw [← findIdx_born hrel n] at hj
          rw [← hj, ← List.findIdx?_toArray, Array.toArray_toList]
        obtain ⟨w', hw', hrest⟩ := setMap_ok hR hg hi (clock' := clock) (E' := E.modify j fun e => { e with val := x' })
          (es' := es.modify j fun e => { e with val := x }) (by
            rw [Array.toList_modify]
            exact hrel.modify (fun a b hab => (⟨hab.key, hab.qv, hx, hab.born⟩ : EntRel μ { a with val := x } { b with val := x' })) j)
        exact ⟨w', by simp [Instr.entryStore, hget, asInt, asIntOf, hj', hw'], hrest⟩
      · cases hv
    · cases hv
  · cases hv

theorem deleteA_ok (hR : Rel P μ h w) {t ty : TypeId} {ts : Array TypeId} (hts : ts[0]? = some t) {m m' k k' : Value} (hm : VRel μ m m') (hk : VRel μ k k') (hv : deleteA P h t m k = some h') :
    ∃ w', (Builtin.delete_ ts ty #[m', k']).run P w = .ok (.tuple #[]) w' ∧ Rel P μ h' w' ∧ Ste μ h w μ h' w' := by
  unfold deleteA at hv
  split at hv
  · rename_i kt et ht
    split at hv
    · rename_i hko
      have hkk := hk.eq_of_qv (keyOk_qv hko)
      subst hkk
      have hck := fun b => keyOk_ok hko b w
      split at hv
      · cases hm; cases hv
        exact ⟨w, by simp [Builtin.delete_, hts, run_underlying ht, hck], hR, Ste.refl _ _ _⟩
      · rename_i r
        cases hm with
        | @map _ i hi =>
        split at hv
        · rename_i es clock hg
          obtain ⟨E, hE, hrel, hget⟩ := mapObj hR hg hi
          obtain ⟨d, hd⟩ := keyDesc hko
          split at hv
          · rename_i n u hf
            cases hv
            obtain ⟨r', hr', hfr⟩ := findKey_ok hd hrel hf w
            cases r' with
            | none => exact hfr.elim
            | some p =>
              obtain ⟨n', u'⟩ := p
              obtain ⟨rfl, _⟩ := hfr
              obtain ⟨w', hw', hrest⟩ := setMap_ok hR hg hi (clock' := clock) (E' := E.eraseIdxIfInBounds n) (es' := es.eraseIdx n) (by
                rw [Array.toList_eraseIdxIfInBounds]
                exact hrel.eraseIdx n)
              exact ⟨w', by simp [Builtin.delete_, hts, run_underlying ht, hget, hck, hr', hw'], hrest⟩
          · rename_i hf
            cases hv
            obtain ⟨r', hr', hfr⟩ := findKey_ok hd hrel hf w
            cases r' with
            | some p => exact hfr.elim
            | none =>
              obtain ⟨w', hw', hrest⟩ := setMap_ok hR hg hi (clock' := clock) (E' := E) (es' := es) hrel
              exact ⟨w', by simp [Builtin.delete_, hts, run_underlying ht, hget, hck, hr', hw'], hrest⟩
          · cases hv
        · cases hv
      · cases hv
    · cases hv
  · cases hv

/-! ### Builtins -/

theorem lenA_ok (hR : Rel P μ h w) {t ty : TypeId} {ts : Array TypeId} (hts : ts[0]? = some t) {x x' v : Value} (hx : VRel μ x x') {rest : Array Value} (hrest : rest[0]? = some x') (hv : lenA P h t x = some v) :
    ∃ v', (Builtin.len_ ts ty rest).run P w = .ok v' w ∧ VRel μ v v' := by
  unfold lenA at hv
  split at hv
  · rename_i s ht
    cases hx; cases hv
    exact ⟨goInt s.size, by simp [Builtin.len_, hts, hrest, run_underlying ht], .int _ _⟩
  · rename_i n e ht
    cases hv
    exact ⟨goInt n, by simp [Builtin.len_, hts, hrest, run_underlying ht], .int _ _⟩
  · rename_i e a n c ht
    cases hv
    refine ⟨goInt n, ?_, .int _ _⟩
    cases hx <;> simp [Builtin.len_, hts, hrest, run_underlying ht]
  · rename_i ht
    cases hx; cases hv
    exact ⟨goInt 0, by simp [Builtin.len_, hts, hrest, run_underlying ht], .int _ _⟩
  · rename_i kt et r ht
    cases hx with
    | @map _ i hi =>
    split at hv
    · rename_i es clock hg
      cases hv
      obtain ⟨E, hE, hrel, hget⟩ := mapObj hR hg hi
      have hl : E.size = es.length := by have := hrel.length; simpa using this.symm
      refine ⟨goInt E.size, ?_, by rw [hl]; exact .int _ _⟩
      simp [Builtin.len_, hts, hrest, run_underlying ht, hget]
    · cases hv
  · cases hv

theorem ite_inst {α : Type} (p : Prop) (i j : Decidable p) (a b : α) : @ite α p i a b = @ite α p j a b := by rw [Subsingleton.elim i j]

theorem minA_ok {xs : List Value} {ys : List Value} {v : Value} (hx : VsRel μ xs ys) (hv : minA xs = some v) (ts : Array TypeId) (ty : TypeId) : (Builtin.min_ ts ty ys.toArray).run P w = .ok v w ∧ VRel μ v v := by
  unfold minA at hv
  split at hv
  · cases hv
    cases hx with
    | cons h1 hs =>
    cases hs with
    | cons h2 hs =>
    cases hs
    cases h1; cases h2
    refine ⟨(run_min_int2 w ts ty _ _ _ _).trans ?_, .int _ _⟩
    congr 2
    exact ite_inst _ _ _ _ _
  · cases hv

theorem maxA_ok {xs : List Value} {ys : List Value} {v : Value} (hx : VsRel μ xs ys) (hv : maxA xs = some v) (ts : Array TypeId) (ty : TypeId) : (Builtin.max_ ts ty ys.toArray).run P w = .ok v w ∧ VRel μ v v := by
  unfold maxA at hv
  split at hv
  · cases hv
    cases hx with
    | cons h1 hs =>
    cases hs with
    | cons h2 hs =>
    cases hs
    cases h1; cases h2
    refine ⟨(run_max_int2 w ts ty _ _ _ _).trans ?_, .int _ _⟩
    congr 2
    exact ite_inst _ _ _ _ _
  · cases hv

theorem lenOfA_ok {x x' : Value} {n : Nat} (hx : VRel μ x x') (hn : lenOfA x = some n) (w : World) : (Builtin.lenOf x').run P w = .ok n w := by
  cases x <;> simp [lenOfA] at hn
  · subst hn; cases hx; simp [Builtin.lenOf]
  · subst hn; cases hx <;> simp [Builtin.lenOf]

theorem firstA_ok (hR : Rel P μ h w) {size n : Nat} {x x' : Value} {cs : List Value} (hx : VRel μ x x') (hf : firstA h size n x = some cs) :
    ∃ ds : List Value, VsRel μ cs ds ∧ ds.length = cs.length ∧ ∀ k, (Builtin.firstCells size n x').run P { w with drawn := k } = .ok ds.toArray { w with drawn := k } := by
  have hz : ∀ (a : Addr) (l c k : Nat), (Builtin.firstCells size 0 (.slice (some a) l c)).run P { w with drawn := k } = .ok #[] { w with drawn := k } := fun a l c k => by
    simp [Builtin.firstCells, loadCells, loadCellsFrom]
  cases hx with
  | @slice b o l c c' i hi hc he hv =>
    simp only [firstA] at hf
    split at hf
    · rename_i h0; subst h0; cases hf
      exact ⟨[], .nil, rfl, fun k => hz _ _ _ _⟩
    · split at hf
      · rename_i cc e ro g hg
        obtain ⟨j, hj, ho⟩ := hR.obj _ _ hg
        rw [hi] at hj; cases hj
        obtain ⟨ys, hys, hrel, hcell, _⟩ := loadCells_ok ho hf
        refine ⟨ys, hrel, by rw [hys]; exact (loadRow_get hf).1.symm, fun k => ?_⟩
        have hrun := run_loadCells_list (P := P) { w with drawn := k } ⟨i.blk, o + i.d, none⟩ ys hcell
        rw [hys] at hrun
        simp [Builtin.firstCells, hrun]
      · cases hf
  | nilSlice =>
    simp only [firstA] at hf
    split at hf
    · cases hf; exact ⟨[], .nil, rfl, fun k => by simp [Builtin.firstCells]⟩
    · cases hf
  | @empty b o s a c =>
    simp only [firstA] at hf
    split at hf
    · rename_i h0; subst h0; cases hf
      exact ⟨[], .nil, rfl, fun k => hz _ _ _ _⟩
    · cases hf
  | string s =>
    simp only [firstA, Option.some.injEq] at hf
    subst hf
    refine ⟨_, VsRel.map _ _ _ fun x _ => .int _ _, rfl, fun k => ?_⟩
    simp only [Builtin.firstCells, Sem.run_pure]
    congr 1
    apply Array.toList_inj.1
    simp
  | _ => simp [firstA] at hf

end
end Go.Ev
