/- Calls, loops over functions, code: the evaluator is sound. -/
import Derived.Test.YtfickkmgbecamaaDoorEvQ
namespace Go.Ev

section
variable {P : Program} {S : Self} {μ : Mu} {h h' : AHeap} {w : World}

/-! ### Results -/

def resS (tmps : Array Value) : ResultVar → Sem Value
  | .tmp t => pure (tmps.getD t undef)
  | .cell a t => do loadVar t (← asAddr (tmps.getD a undef))

theorem results_eq (fn : Func) (tmps : Array Value) : results fn tmps = (fn.results.mapM (resS tmps) >>= fun vs => pure (if h : vs.size = 1 then vs[0] else .tuple vs)) := rfl

theorem resultA_ok (hR : Rel P μ h w) {e : Tr Value} {n : Nat} {tmps : Array Value} (hT : TmpsRel μ e n tmps) {r : ResultVar} {v : Value} (hv : resultA P e h r = some v) :
    ∃ v', (resS tmps r).run P w = .ok v' w ∧ VRel μ v v' := by
  cases r with
  | tmp t =>
    obtain ⟨v', h1, h2⟩ := hT.get t v hv
    exact ⟨v', by simp [resS, Array.getD_eq_getD_getElem?, h1], h2⟩
  | cell a t =>
    obtain ⟨p, hp, hl⟩ := Option.bind_eq_some_iff.1 hv
    obtain ⟨p', h1, h2⟩ := hT.get a p hp
    obtain ⟨v', h3, h4⟩ := loadA_ok hR h2 hl
    refine ⟨v', ?_, h4⟩
    have e1 : tmps.getD a undef = p' := by simp [Array.getD_eq_getD_getElem?, h1]
    simp only [resS, e1]
    cases h2 with
    | ptr hi =>
      rw [← h3]
      simp [Instr.loadAt, Instr.sureAddr, asAddr]
    | _ => simp [loadA] at hl

theorem resultsL_ok (hR : Rel P μ h w) {e : Tr Value} {n : Nat} {tmps : Array Value} (hT : TmpsRel μ e n tmps) : ∀ {l : List ResultVar} {vs : List Value}, l.mapM (resultA P e h) = some vs →
    ∃ vs', (l.mapM (resS tmps)).run P w = .ok vs' w ∧ VsRel μ vs vs'
  | [], vs, hv => by
    simp at hv; subst hv
    exact ⟨[], by simp, .nil⟩
  | r :: l, vs, hv => by
    rw [List.mapM_cons] at hv
    obtain ⟨v, hv1, hv⟩ := Option.bind_eq_some_iff.1 hv
    obtain ⟨vs1, hv2, hv⟩ := Option.bind_eq_some_iff.1 hv
    cases hv
    obtain ⟨v', h1, h2⟩ := resultA_ok hR hT hv1
    obtain ⟨vs', h3, h4⟩ := resultsL_ok hR hT hv2
    exact ⟨v' :: vs', by rw [List.mapM_cons, Sem.run_bind, h1]; simp only [Result.andThen_ok]; rw [Sem.run_bind, h3]; simp, .cons h2 h4⟩

theorem resultsA_ok (hR : Rel P μ h w) {e : Tr Value} {n : Nat} {tmps : Array Value} (hT : TmpsRel μ e n tmps) {fn : Func} {v : Value} (hv : resultsA P fn e h = some v) :
    ∃ v', (results fn tmps).run P w = .ok v' w ∧ VRel μ v v' := by
  unfold resultsA at hv
  cases hm : fn.results.toList.mapM (resultA P e h) with
  | none => rw [hm] at hv; cases hv
  | some vs =>
    rw [hm] at hv
    obtain ⟨vs', h1, h2⟩ := resultsL_ok hR hT hm
    have hrun : (results fn tmps).run P w = .ok (if hh : vs'.toArray.size = 1 then vs'.toArray[0] else .tuple vs'.toArray) w := by
      rw [results_eq, Array.mapM_eq_mapM_toList, Sem.run_bind, Sem.run_map, h1]
      rfl
    cases h2 with
    | nil => cases hv; exact ⟨_, hrun, .tuple .nil⟩
    | cons hx hs =>
      cases hs with
      | nil => cases hv; exact ⟨_, hrun, hx⟩
      | cons hy hs => cases hv; exact ⟨_, hrun, .tuple (.cons hx (.cons hy hs))⟩

/-! ### Arguments -/

theorem argsEnv_get : ∀ (vs : List Value) (i : Nat) (e : Tr Value) (t : Nat), (argsEnv vs i e).get t = if i ≤ t ∧ t < i + vs.length then vs[t - i]? else e.get t
  | [], i, e, t => by simp only [argsEnv, List.length_nil]; rw [if_neg (by omega)]
  | v :: vs, i, e, t => by
    simp only [argsEnv]
    rw [argsEnv_get vs (i + 1), Tr.get_set]
    by_cases h1 : t = i
    · subst h1; rw [if_neg (by omega), if_pos rfl, if_pos (by simp)]; simp
    · rw [if_neg h1]
      by_cases h2 : i + 1 ≤ t ∧ t < i + 1 + vs.length
      · rw [if_pos h2, if_pos (by simp; omega), show t - i = (t - (i + 1)) + 1 from by omega]; simp
      · rw [if_neg h2, if_neg (by simp; omega)]

theorem args_tmps {args args' : Array Value} {n : Nat} (ha : VsRel μ args.toList args'.toList) (hn : args.size ≤ n) : TmpsRel μ (argsEnv args.toList 0 .leaf) n (args' ++ Array.replicate (n - args'.size) undef) := by
  have hl := ha.length
  simp only [Array.length_toList] at hl
  refine ⟨by simp; omega, fun t v hv => ?_⟩
  rw [argsEnv_get] at hv
  split at hv
  · rename_i ht
    obtain ⟨v', h1, h2⟩ := ha.get _ _ hv
    simp only [Nat.sub_zero, Array.length_toList] at h1 ht
    refine ⟨v', ?_, h2⟩
    rw [Array.getElem?_append_left (by omega)]
    simpa using h1
  · rw [Tr.get_leaf] at hv; cases hv

/-! ### The marks behind a loop -/

theorem shut_leaves {fn : Func} {a : AAct} {tmps : Array Value} {v : Value} {R : Ending → World → Prop} : ∀ (ds : List Nat) (defs : List Deferred) (μ : Mu) (h h2 : AHeap) (w : World),
    Rel P μ h w → Top μ h → TmpsRel μ a.env a.n tmps → DefRel μ ds defs → shutA ds h = some h2 → resultsA P fn a.env h2 = some v →
    (∀ w' v', Fin P μ h w μ h2 w' → VRel μ v v' → R (.returned v') w') → LeavesInM Fence.wide 0 P fn tmps R defs .returning w
  | [], _, μ, h, h2, w, hR, hT, hA, .nil, hs, hr, hK => by
    simp [shutA] at hs; subst hs
    obtain ⟨v', h1, h3⟩ := resultsA_ok hR hA hr
    exact ⟨v', h1, hK w v' (Fin.refl hR hT) h3⟩
  | D :: ds, _, μ, h, h2, w, hR, hT, hA, .cons (i := i) (ds := defs) hi hds, hs, hr, hK => by
    simp only [shutA] at hs
    split at hs
    · rename_i hD
      obtain ⟨i2, hi2, ho⟩ := hR.obj _ _ hD
      rw [hi] at hi2; cases hi2
      have hm : w.heap[i.blk]? = some (.deferred (some [])) := ho
      obtain ⟨r1, r2⟩ := hR.update (w' := w.putObj i.blk (.deferred none)) (o' := .dead) hD rfl hi trivial World.putObj_size rfl rfl rfl (fun k hk => World.putObj_heap_other hk)
      refine ⟨by simp, .inl ⟨i.blk, _, rfl, run_takeDeferred hm, ?_⟩⟩
      exact shut_leaves ds defs μ _ h2 _ r1 hT hA hds hs hr fun w' v' f hv => hK w' v' (Fin.trans ⟨r1, r2, hT, fun _ _ h => h, Nat.le_refl _⟩ f) hv
    · cases hs

theorem callFA_ok (hS : SelfOk P S) {f : FuncId} {args : Array Value} {v : Value} (hv : callFA P S f args h = some (v, h')) :
    (∃ fn c, P.funcs[f]? = some fn ∧ fn.body = some c ∧ fn.name ≠ "runtime.NumGoroutine") ∧
    ∀ μ w (args' : Array Value) R, Rel P μ h w → Top μ h → VsRel μ args.toList args'.toList →
    (∀ μ' w' v', Fin P μ h w μ' h' w' → VRel μ' v v' → R (.returned v') w') → CallsIn Fence.wide 0 P f args' w R := by
  unfold callFA at hv
  split at hv
  case h_2 => cases hv
  rename_i fn hf
  split at hv
  case h_2 => cases hv
  rename_i c hb
  split at hv
  · cases hv
  rename_i hn
  split at hv
  case isFalse => cases hv
  rename_i hsz
  refine ⟨⟨fn, c, hf, hb, hn⟩, fun μ w args' R hR hT ha hK => ?_⟩
  refine callsIn_of_wp_marks hf hb trivial ?_
  have key : ∀ out a h1, S.code none c ⟨argsEnv args.toList 0 .leaf, fn.ntmps, []⟩ h = some (out, a, h1) → out = .normal ∨ out = .ret →
      ((shutA a.marks h1).bind fun h2 => (resultsA P fn a.env h2).map (·, h2)) = some (v, h') →
      c.wpIn Fence.wide 0 P (bodyPostM Fence.wide 0 P fn R) { tmps := args' ++ Array.replicate (fn.ntmps - args'.size) undef, defers := [] } w := fun out a h1 hc ho hv => by
    obtain ⟨h2, hsh, hv⟩ := Option.bind_eq_some_iff.1 hv
    simp only [Option.map_eq_some_iff, Prod.mk.injEq] at hv
    obtain ⟨v1, hv1, rfl, rfl⟩ := hv
    refine hS.code _ _ _ _ _ _ _ hc Fence.wide μ w _ _ rfl hR hT ⟨args_tmps ha hsz, .nil⟩ fun μ1 w1 act1 f1 r1 => ?_
    have hL := shut_leaves (R := R) (fn := fn) (a := a) a.marks act1.defers μ1 h1 h2 w1 f1.rel f1.top r1.tmps r1.defs hsh hv1 fun w' v' f2 hvr => hK μ1 w' v' (f1.trans f2) hvr
    rcases ho with rfl | rfl
    · exact hL
    · exact hL
  split at hv
  · rename_i a h1 hc; exact key _ a h1 hc (.inl rfl) hv
  · rename_i a h1 hc; exact key _ a h1 hc (.inr rfl) hv
  · cases hv

end
end Go.Ev
