/- Every operation that calls no function. -/
import Derived.Test.YtfickkmgbecamaaDoorEvK
namespace Go.Ev

section
variable {P : Program} {μ : Mu} {h h' : AHeap} {w : World}

theorem OpOk.pure {id : Nat} (hR : Rel P μ h w) {v v' : Value} (hv : VRel μ v v') : OpOk P μ id h w ((Pure.pure (Next.value v') : Sem Next).run P w) v h :=
  ⟨.value v', v', w, μ, rfl, .inl rfl, hv, hR, Ste.refl _ _ _, Fr.refl _ _⟩

theorem optO_ok (hR : Rel P μ h w) {e : Tr Value} {n : Nat} {a : Act} (hT : TmpsRel μ e n a.tmps) {x : Option Operand} {v : Option Value} (hx : optO P.globals.size e x = some v) : OV μ v (x.map a.eval) := by
  cases x with
  | none => simp only [optO, Option.some.injEq] at hx; subst hx; trivial
  | some x =>
    simp only [optO, Option.map_eq_some_iff] at hx
    obtain ⟨u, hu, rfl⟩ := hx
    exact evalO_ok hR hT hu

theorem newA_ok' (hR : Rel P μ h w) {id : Nat} (hμ : μ id = none) {e : TypeId} {cs ds : Array Value} {v : Value} (hv : VsRel μ cs.toList ds.toList) (hn : newA P h id e cs.toList false (.pointer (some ⟨id, 0, none⟩)) = some (v, h')) :
    ∃ v' w' μ', (do pure (Value.pointer (some (← newRow e ds))) : Sem Value).run P w = .ok v' w' ∧ VRel μ' v v' ∧ Rel P μ' h' w' ∧ Ste μ h w μ' h' w' ∧ Fr μ μ' id := by
  obtain rfl := newA_val hn
  obtain ⟨inf, hinf, h1, h2⟩ := newA_ok hR hμ (n := w.drawn) hv hn rfl
  refine ⟨.pointer (some ⟨w.heap.size, 0, none⟩), _, _, ?_, ?_, h1, h2, Fr.add _ _ _⟩
  · simp [newRow]
  · exact VRel.ptr (o := 0) (Mu.add_self _ _ _)

theorem opA_ok (hR : Rel P μ h w) {e : Tr Value} {n : Nat} {a : Act} (hT : TmpsRel μ e n a.tmps) {o : Oper} {id : Nat} (hμ : μ id = none) {v : Value} (hv : opA P h id e o = some (v, h')) :
    OpOk P μ id h w ((execOp a.eval o).run P w) v h' := by
  have E := fun {x : Operand} {u : Value} => evalO_ok (x := x) (v := u) hR hT
  unfold opA at hv
  unfold execOp
  split at hv
  case h_1 x ho =>
    rw [ho]; simp only [Option.map_eq_some_iff, Prod.mk.injEq] at hv
    obtain ⟨u, hu, rfl, rfl⟩ := hv
    exact OpOk.pure hR (E hu)
  case h_2 x ho =>
    rw [ho]; simp only [Option.map_eq_some_iff, Prod.mk.injEq] at hv
    obtain ⟨u, hu, rfl, rfl⟩ := hv
    exact OpOk.pure hR (E hu)
  case h_3 c x y ho =>
    rw [ho]
    split at hv
    · rename_i hc
      simp only [Option.map_eq_some_iff, Prod.mk.injEq] at hv
      obtain ⟨u, hu, rfl, rfl⟩ := hv
      have hcc := E hc
      generalize hq : a.eval c = q at hcc
      cases hcc
      have := E hu
      refine ⟨.value (a.eval x), a.eval x, w, μ, by simp [hq, asBool], .inl rfl, this, hR, Ste.refl _ _ _, Fr.refl _ _⟩
    · rename_i hc
      simp only [Option.map_eq_some_iff, Prod.mk.injEq] at hv
      obtain ⟨u, hu, rfl, rfl⟩ := hv
      have hcc := E hc
      generalize hq : a.eval c = q at hcc
      cases hcc
      have := E hu
      refine ⟨.value (a.eval y), a.eval y, w, μ, by simp [hq, asBool], .inl rfl, this, hR, Ste.refl _ _ _, Fr.refl _ _⟩
    · cases hv
  case h_4 t ho =>
    rw [ho]
    split at hv
    · rename_i z hz
      split at hv
      · rename_i hzp
        obtain ⟨j, hj, hz'⟩ := Option.bind_eq_some_iff.1 hz
        obtain ⟨v', w', μ', h1, h2, h3, h4⟩ := newA_ok' hR hμ (VsRel.of_pv1 hzp) hv
        refine OpOk.val' (v' := v') (w' := w') ?_ h2 h3 h4
        rw [← h1]
        simp [Instr.alloc, run_zeroValue hj hz', newVar]
      · cases hv
    · cases hv
  case h_5 t x ho =>
    rw [ho]
    obtain ⟨u, hu, hv⟩ := Option.bind_eq_some_iff.1 hv
    obtain ⟨v', w', μ', h1, h2, h3, h4⟩ := newA_ok' hR hμ (E hu).cells hv
    refine OpOk.val' (v' := v') (w' := w') ?_ h2 h3 h4
    rw [← h1]
    simp [Instr.box, newVar]
  case h_6 t parts ho =>
    rw [ho]
    obtain ⟨ps, hps, hv⟩ := Option.bind_eq_some_iff.1 hv
    simp only [Option.map_eq_some_iff, Prod.mk.injEq] at hv
    obtain ⟨u, hu, rfl, rfl⟩ := hv
    obtain ⟨v', h1, h2⟩ := buildA_ok (w := w) (partsO_ok hR hT hps) hu
    have he : (parts.map fun (i, x) => (i, a.eval x)) = (parts.toList.map fun (i, x) => (i, a.eval x)).toArray := by
      apply Array.toList_inj.1; simp
    refine OpOk.val hR (v' := v') ?_ h2
    rw [← h1, ← he]
  case h_7 t len parts ho =>
    rw [ho]
    obtain ⟨ps, hps, hv⟩ := Option.bind_eq_some_iff.1 hv
    obtain ⟨v', w', μ', h1, h2, h3, h4⟩ := buildSliceA_ok hR hμ (partsO_ok hR hT hps) hv
    have he : (parts.map fun (i, x) => (i, a.eval x)) = (parts.toList.map fun (i, x) => (i, a.eval x)).toArray := by
      apply Array.toList_inj.1; simp
    refine OpOk.val' (v' := v') (w' := w') ?_ h2 h3 h4
    rw [← h1, ← he]
  case h_8 t x ho =>
    rw [ho]
    obtain ⟨u, hu, hv⟩ := Option.bind_eq_some_iff.1 hv
    simp only [Option.map_eq_some_iff, Prod.mk.injEq] at hv
    obtain ⟨y, hy, rfl, rfl⟩ := hv
    obtain ⟨v', h1, h2⟩ := loadA_ok hR (E hu) hy
    exact OpOk.val hR h1 h2
  case h_9 t x y ho =>
    rw [ho]
    obtain ⟨u, hu, hv⟩ := Option.bind_eq_some_iff.1 hv
    obtain ⟨z, hz, hv⟩ := Option.bind_eq_some_iff.1 hv
    simp only [Option.map_eq_some_iff, Prod.mk.injEq] at hv
    obtain ⟨h2, hh, rfl, rfl⟩ := hv
    obtain ⟨w', h1, h2, h3⟩ := storeA_ok hR (E hu) (E hz) hh
    exact OpOk.skip h1 h2 h3
  case h_10 x ho =>
    rw [ho]
    split at hv
    · rename_i ad hu
      cases hv
      have := E hu
      generalize hq : a.eval x = q at this
      cases this with
      | ptr hi => simp only [hq]; exact OpOk.pure hR (.ptr hi)
    · rename_i f b c hu
      cases hv
      have := E hu
      generalize hq : a.eval x = q at this
      cases this with
      | func f ha hc => simp only [hq]; exact OpOk.pure hR (.func f ha hc)
    · rename_i f b c hu
      cases hv
      have := E hu
      generalize hq : a.eval x = q at this
      cases this with
      | yield hi ha hc => simp only [hq]; exact OpOk.pure hR (.yield hi ha hc)
    · cases hv
  case h_11 op t x y ty ho =>
    rw [ho]
    obtain ⟨u, hu, hv⟩ := Option.bind_eq_some_iff.1 hv
    obtain ⟨z, hz, hv⟩ := Option.bind_eq_some_iff.1 hv
    simp only [Option.map_eq_some_iff, Prod.mk.injEq] at hv
    obtain ⟨r, hr, rfl, rfl⟩ := hv
    obtain ⟨h1, h2⟩ := binA_ok hR (E hu) (E hz) hr x y
    exact OpOk.val hR h1 h2
  case h_12 op t x ho =>
    rw [ho]
    obtain ⟨u, hu, hv⟩ := Option.bind_eq_some_iff.1 hv
    simp only [Option.map_eq_some_iff, Prod.mk.injEq] at hv
    obtain ⟨r, hr, rfl, rfl⟩ := hv
    obtain ⟨h1, h2⟩ := unA_ok (P := P) (w := w) (E hu) hr
    exact OpOk.val hR h1 h2
  case h_13 s d x ho =>
    rw [ho]
    obtain ⟨u, hu, hv⟩ := Option.bind_eq_some_iff.1 hv
    simp only [Option.map_eq_some_iff, Prod.mk.injEq] at hv
    obtain ⟨r, hr, rfl, rfl⟩ := hv
    obtain ⟨h1, h2⟩ := convA_ok (w := w) (E hu) hr
    exact OpOk.val hR h1 h2
  case h_14 f first captured ho =>
    rw [ho]
    obtain ⟨u, hu, hv⟩ := Option.bind_eq_some_iff.1 hv
    simp only [Option.map_eq_some_iff, Prod.mk.injEq] at hv
    obtain ⟨r, hr, rfl, rfl⟩ := hv
    exact OpOk.val hR (v' := .func (.func f) (first.map a.eval) (captured.map a.eval)) (by simp [Instr.makeFunc]) (.func f (mapO_ok hR hT hu) (mapO_ok hR hT hr))
  case h_15 t ho =>
    rw [ho]
    simp only [Option.map_eq_some_iff, Prod.mk.injEq] at hv
    obtain ⟨h2, hn, rfl, rfl⟩ := hv
    obtain ⟨h1, h3⟩ := hR.grow hμ (w' := w.alloc (.map #[] 0)) (i := { blk := w.heap.size, d := 0, lim := 0, sz := 0, exact := true }) hn (Nat.le_refl _) ⟨#[], heap_alloc_new w _, .nil⟩ (by simp) rfl rfl rfl (fun k hk => heap_alloc_old w _ k hk)
    refine OpOk.val' (v' := .map (some w.heap.size)) (w' := w.alloc (.map #[] 0)) ?_ (VRel.map (Mu.add_self _ _ _)) h1 ⟨h3, Fr.add _ _ _⟩
    simp [Instr.makeMap]
  case h_16 t l c ho =>
    rw [ho]
    obtain ⟨u, hu, hv⟩ := Option.bind_eq_some_iff.1 hv
    obtain ⟨z, hz, hv⟩ := Option.bind_eq_some_iff.1 hv
    obtain ⟨v', w', μ', h1, h2, h3, h4⟩ := makeSliceA_ok hR hμ (E hu) (E hz) hv
    exact OpOk.val' h1 h2 h3 h4
  case h_17 t x lo hi mx ho =>
    rw [ho]
    obtain ⟨u, hu, hv⟩ := Option.bind_eq_some_iff.1 hv
    obtain ⟨p, hp, hv⟩ := Option.bind_eq_some_iff.1 hv
    obtain ⟨q, hq, hv⟩ := Option.bind_eq_some_iff.1 hv
    obtain ⟨s, hs, hv⟩ := Option.bind_eq_some_iff.1 hv
    simp only [Option.map_eq_some_iff, Prod.mk.injEq] at hv
    obtain ⟨r, hr, rfl, rfl⟩ := hv
    obtain ⟨v', h1, h2⟩ := sliceA_ok hR (E hu) (optO_ok hR hT hp) (optO_ok hR hT hq) (optO_ok hR hT hs) hr
    exact OpOk.val hR h1 h2
  case h_18 s x f ho =>
    rw [ho]
    obtain ⟨u, hu, hv⟩ := Option.bind_eq_some_iff.1 hv
    simp only [Option.map_eq_some_iff, Prod.mk.injEq] at hv
    obtain ⟨r, hr, rfl, rfl⟩ := hv
    obtain ⟨v', h1, h2⟩ := fieldAddrA_ok (w := w) (E hu) hr
    exact OpOk.val hR h1 h2
  case h_19 t x f ho =>
    rw [ho]
    obtain ⟨u, hu, hv⟩ := Option.bind_eq_some_iff.1 hv
    simp only [Option.map_eq_some_iff, Prod.mk.injEq] at hv
    obtain ⟨r, hr, rfl, rfl⟩ := hv
    obtain ⟨v', h1, h2⟩ := fieldA_ok (w := w) (E hu) hr
    exact OpOk.val hR h1 h2
  case h_20 t x ix ho =>
    rw [ho]
    obtain ⟨u, hu, hv⟩ := Option.bind_eq_some_iff.1 hv
    obtain ⟨z, hz, hv⟩ := Option.bind_eq_some_iff.1 hv
    simp only [Option.map_eq_some_iff, Prod.mk.injEq] at hv
    obtain ⟨r, hr, rfl, rfl⟩ := hv
    obtain ⟨v', h1, h2⟩ := indexAddrA_ok (w := w) (E hu) (E hz) hr
    exact OpOk.val hR h1 h2
  case h_21 t x ix ho =>
    rw [ho]
    obtain ⟨u, hu, hv⟩ := Option.bind_eq_some_iff.1 hv
    obtain ⟨z, hz, hv⟩ := Option.bind_eq_some_iff.1 hv
    simp only [Option.map_eq_some_iff, Prod.mk.injEq] at hv
    obtain ⟨r, hr, rfl, rfl⟩ := hv
    obtain ⟨v', h1, h2⟩ := indexA_ok (w := w) (E hu) (E hz) hr
    exact OpOk.val hR h1 h2
  case h_22 t x ix ok ho =>
    rw [ho]
    obtain ⟨u, hu, hv⟩ := Option.bind_eq_some_iff.1 hv
    obtain ⟨z, hz, hv⟩ := Option.bind_eq_some_iff.1 hv
    simp only [Option.map_eq_some_iff, Prod.mk.injEq] at hv
    obtain ⟨r, hr, rfl, rfl⟩ := hv
    obtain ⟨v', h1, h2⟩ := lookupA_ok hR (E hu) (E hz) hr
    exact OpOk.val hR h1 h2
  case h_23 t m k x ho =>
    rw [ho]
    obtain ⟨u, hu, hv⟩ := Option.bind_eq_some_iff.1 hv
    obtain ⟨z, hz, hv⟩ := Option.bind_eq_some_iff.1 hv
    obtain ⟨y, hy, hv⟩ := Option.bind_eq_some_iff.1 hv
    simp only [Option.map_eq_some_iff, Prod.mk.injEq] at hv
    obtain ⟨r, hr, rfl, rfl⟩ := hv
    obtain ⟨w', h1, h2, h3⟩ := mapUpdateA_ok hR (E hu) (E hz) (E hy) hr
    exact OpOk.skip h1 h2 h3
  case h_24 t m k x ho =>
    rw [ho]
    obtain ⟨u, hu, hv⟩ := Option.bind_eq_some_iff.1 hv
    obtain ⟨z, hz, hv⟩ := Option.bind_eq_some_iff.1 hv
    obtain ⟨y, hy, hv⟩ := Option.bind_eq_some_iff.1 hv
    simp only [Option.map_eq_some_iff, Prod.mk.injEq] at hv
    obtain ⟨r, hr, rfl, rfl⟩ := hv
    obtain ⟨w', h1, h2, h3⟩ := mapUpdateA_ok hR (E hu) (E hz) (E hy) hr
    exact OpOk.skip h1 h2 h3
  case h_25 t m k ho =>
    rw [ho]
    obtain ⟨u, hu, hv⟩ := Option.bind_eq_some_iff.1 hv
    obtain ⟨z, hz, hv⟩ := Option.bind_eq_some_iff.1 hv
    obtain ⟨v', w', h1, h2, h3, h4⟩ := mapEntryA_ok hR (E hu) (E hz) hv
    exact OpOk.val' h1 h2 h3 ⟨h4, Fr.refl _ _⟩
  case h_26 t m s x ho =>
    rw [ho]
    obtain ⟨u, hu, hv⟩ := Option.bind_eq_some_iff.1 hv
    obtain ⟨z, hz, hv⟩ := Option.bind_eq_some_iff.1 hv
    obtain ⟨y, hy, hv⟩ := Option.bind_eq_some_iff.1 hv
    simp only [Option.map_eq_some_iff, Prod.mk.injEq] at hv
    obtain ⟨r, hr, rfl, rfl⟩ := hv
    obtain ⟨w', h1, h2, h3⟩ := entryStoreA_ok hR (t := t) (E hu) (E hz) (E hy) hr
    exact OpOk.skip h1 h2 h3
  case h_27 t i ho =>
    rw [ho]
    split at hv
    · rename_i vs hu
      simp only [Option.map_eq_some_iff, Prod.mk.injEq] at hv
      obtain ⟨r, hr, rfl, rfl⟩ := hv
      have := E hu
      generalize hq : a.eval t = q at this
      cases this with
      | @tuple _ vs' hvs =>
        obtain ⟨r', h1, h2⟩ := hvs.get i r (by simpa using hr)
        have h1' : vs'[i]? = some r' := by simpa using h1
        exact OpOk.val hR (v' := r') (by simp [hq, Instr.extract, h1']) h2
    · cases hv
  case h_28 b args ts ho =>
    rw [ho]
    obtain ⟨vs, hvs, hv⟩ := Option.bind_eq_some_iff.1 hv
    have hA := mapO_ok hR hT hvs
    have key : ∀ {s : Sem Value} {v2 : Value} {h2 : AHeap}, builtin b ts o.type (args.map fun | .const _ => true | _ => false) (args.map a.eval) = (do pure (Next.value (← s)) : Sem Next) →
        (∃ v' w' μ', s.run P w = .ok v' w' ∧ VRel μ' v2 v' ∧ Rel P μ' h2 w' ∧ Ste μ h w μ' h2 w' ∧ Fr μ μ' id) →
        OpOk P μ id h w ((do let d ← resolve a.eval { callee := .builtin b, args := args, argTypes := ts } o.type; invoke d.target d.args : Sem Next).run P w) v2 h2 := fun {s v2 h2} he hh => by
      obtain ⟨v', w', μ', h1, h3, h4, h5⟩ := hh
      have : ((do let d ← resolve a.eval { callee := .builtin b, args := args, argTypes := ts } o.type; invoke d.target d.args : Sem Next).run P w) = ((do pure (Next.value (← s)) : Sem Next).run P w) := by
        rw [← he]
        simp [resolve, invoke]
        rfl
      rw [this]
      exact OpOk.val' h1 h3 h4 h5
    unfold builtinA at hv
    split at hv
    · -- len
      split at hv
      · rename_i t x ht hx
        simp only [Option.map_eq_some_iff, Prod.mk.injEq] at hv
        obtain ⟨r, hr, rfl, rfl⟩ := hv
        obtain ⟨x', hx', hxr⟩ := hA.get 0 x (by simpa using hx)
        refine key (s := Builtin.len_ ts o.type (args.map a.eval)) rfl ?_
        obtain ⟨v', h1, h2⟩ := lenA_ok hR (ty := o.type) ht hxr (rest := args.map a.eval) (by simpa using hx') hr
        exact ⟨v', w, μ, h1, h2, hR, Ste.refl _ _ _, Fr.refl _ _⟩
      · cases hv
    · split at hv
      · rename_i hsz
        exact key (s := Builtin.append_ ts o.type (args.map a.eval)) rfl (appendA_ok hR hμ hA hsz hv)
      · cases hv
    · split at hv
      · rename_i hsz
        exact key (s := Builtin.copy_ ts o.type (args.map a.eval)) rfl (copyA_ok hR hA hsz hv)
      · cases hv
    · simp only [Option.map_eq_some_iff, Prod.mk.injEq] at hv
      obtain ⟨r, hr, rfl, rfl⟩ := hv
      refine key (s := Builtin.min_ ts o.type (args.map a.eval)) rfl ?_
      obtain ⟨h1, h2⟩ := minA_ok (P := P) (w := w) hA hr ts o.type
      have he : args.map a.eval = (args.map a.eval).toList.toArray := (Array.toArray_toList).symm
      exact ⟨r, w, μ, by rw [he]; exact h1, h2, hR, Ste.refl _ _ _, Fr.refl _ _⟩
    · simp only [Option.map_eq_some_iff, Prod.mk.injEq] at hv
      obtain ⟨r, hr, rfl, rfl⟩ := hv
      refine key (s := Builtin.max_ ts o.type (args.map a.eval)) rfl ?_
      obtain ⟨h1, h2⟩ := maxA_ok (P := P) (w := w) hA hr ts o.type
      have he : args.map a.eval = (args.map a.eval).toList.toArray := (Array.toArray_toList).symm
      exact ⟨r, w, μ, by rw [he]; exact h1, h2, hR, Ste.refl _ _ _, Fr.refl _ _⟩
    · -- delete
      split at hv
      · rename_i t m k ht hm hk
        split at hv
        case isFalse => cases hv
        rename_i hsz
        simp only [Option.map_eq_some_iff, Prod.mk.injEq] at hv
        obtain ⟨r, hr, rfl, rfl⟩ := hv
        refine key (s := Builtin.delete_ ts o.type (args.map a.eval)) rfl ?_
        obtain ⟨m', k', hargs, hmr, hkr⟩ := two_args hA hsz hm hk
        obtain ⟨w', h1, h2, h3⟩ := deleteA_ok hR (ty := o.type) ht hmr hkr hr
        rw [hargs]
        exact ⟨.tuple #[], w', μ, h1, .tuple .nil, h2, h3, Fr.refl _ _⟩
      · cases hv
    · cases hv
  case h_29 => cases hv

end
end Go.Ev
