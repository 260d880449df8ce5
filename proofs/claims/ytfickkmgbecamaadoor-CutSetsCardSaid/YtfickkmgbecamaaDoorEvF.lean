/- Equality and keys: what asks no memory answers alike in every world. -/
import Derived.Test.YtfickkmgbecamaaDoorEvE
namespace Go.Ev

section
variable {P : Program}

/-- An answer, where there is one, is the same in every world, and turns none. -/
def WI (P : Program) {α : Type} (s : Sem α) : Prop := ∀ w0 a w1, s.run P w0 = .ok a w1 → ∀ w, s.run P w = .ok a w

theorem WI.pure {α : Type} (a : α) : WI P (Pure.pure a : Sem α) := fun w0 b w1 h w => by simp at h ⊢; exact h.1
theorem WI.pure' {α : Type} (a : α) : WI P (Sem.pure a : Sem α) := WI.pure a
theorem WI.halt {α : Type} (x : Halt) : WI P (Sem.halt x : Sem α) := fun w0 b w1 h w => by simp at h
theorem WI.stuck {α : Type} (s : String) : WI P (stuck s : Sem α) := WI.halt _
theorem WI.unsupported {α : Type} (u : Unsupported) : WI P (unsupported u : Sem α) := WI.halt _
theorem WI.program : WI P program := fun w0 b w1 h w => by simp at h ⊢; exact h.1
theorem WI.bind' {α β : Type} {x : Sem α} {f : α → Sem β} (hx : WI P x) (hf : ∀ a, (∃ w w', x.run P w = .ok a w') → WI P (f a)) : WI P (x >>= f) := fun w0 b w1 h w => by
  rw [Sem.run_bind] at h ⊢
  cases hr : x.run P w0 with
  | ok a w' =>
    rw [hr] at h
    rw [hx w0 a w' hr w]
    exact hf a ⟨w0, w', hr⟩ w' b w1 h w
  | halt z w' => rw [hr] at h; simp at h
theorem WI.bind {α β : Type} {x : Sem α} {f : α → Sem β} (hx : WI P x) (hf : ∀ a, WI P (f a)) : WI P (x >>= f) := WI.bind' hx fun a _ => hf a
theorem WI.ite {α : Type} {c : Prop} [Decidable c] {x y : Sem α} (hx : WI P x) (hy : WI P y) : WI P (if c then x else y) := by split <;> assumption

theorem WI.underlying (t : TypeId) : WI P (underlying t) := by
  unfold Go.underlying
  refine WI.bind WI.program fun p => ?_
  split
  · exact WI.pure _
  · exact WI.stuck _
theorem WI.typeInfo (t : TypeId) : WI P (typeInfo t) := by
  unfold Go.typeInfo
  refine WI.bind WI.program fun p => ?_
  split
  · exact WI.pure _
  · exact WI.stuck _
theorem WI.sizeOf (t : TypeId) : WI P (sizeOf t) := by
  unfold Go.sizeOf
  exact WI.bind (WI.typeInfo t) fun i => WI.pure _
theorem WI.isAgg (t : TypeId) : WI P (isAgg t) := by
  unfold Go.isAgg
  refine WI.bind (WI.underlying t) fun d => ?_
  split <;> exact WI.pure _

/-- Values that ask no memory. -/
def QV (v : Value) : Prop := qv1 v = true ∨ ∃ cs : Array Value, v = .agg cs ∧ cs.toList.all qv1 = true

theorem QV.of {v : Value} (h : qv v = true) : QV v := by
  cases v <;> first | exact .inr ⟨_, rfl, h⟩ | exact .inl h

theorem WI.part (t : TypeId) (cs : Array Value) (off : Nat) : WI P (part t cs off) := by
  unfold Go.part
  refine WI.bind (WI.isAgg t) fun b => ?_
  split
  · exact WI.bind (WI.sizeOf t) fun n => WI.pure _
  · split
    · exact WI.pure _
    · exact WI.stuck _

theorem part_QV {t : TypeId} {cs : Array Value} {off : Nat} (hq : cs.toList.all qv1 = true) {w w' : World} {v : Value} (h : (part t cs off).run P w = .ok v w') : QV v := by
  unfold Go.part at h
  rw [Sem.run_bind] at h
  cases hr : (isAgg t).run P w with
  | halt z w1 => rw [hr] at h; simp at h
  | ok b w1 =>
    rw [hr] at h
    simp only [Result.andThen_ok] at h
    split at h
    · rw [Sem.run_bind] at h
      cases hr2 : (sizeOf t).run P w1 with
      | halt z w2 => rw [hr2] at h; simp at h
      | ok n w2 =>
        rw [hr2] at h
        simp only [Result.andThen_ok, Sem.run_pure, Result.ok.injEq] at h
        obtain ⟨rfl, _⟩ := h
        refine .inr ⟨_, rfl, ?_⟩
        rw [List.all_eq_true] at hq ⊢
        intro x hx
        refine hq x ?_
        simp only [Array.toList_extract, List.extract_eq_take_drop] at hx
        exact List.mem_of_mem_drop (List.mem_of_mem_take hx)
    · split at h
      · rename_i v' hv
        simp only [Sem.run_pure, Result.ok.injEq] at h
        obtain ⟨rfl, _⟩ := h
        rw [List.all_eq_true] at hq
        exact .inl (hq _ (by
          obtain ⟨hlt, he⟩ := Array.getElem?_eq_some_iff.1 hv
          rw [← he]; simp))
      · simp at h

theorem WI.forIn_list {α β : Type} (f : α → β → Sem (ForInStep β)) : ∀ (l : List α) (b : β), (∀ x, x ∈ l → ∀ b, WI P (f x b)) → WI P (forIn l b f)
  | [], b, _ => by simpa using WI.pure b
  | x :: xs, b, h => by
    rw [List.forIn_cons]
    refine WI.bind (h x (by simp) b) fun r => ?_
    split
    · exact WI.pure _
    · exact WI.forIn_list f xs _ fun y hy => h y (by simp [hy])

theorem WI.forIn_array {α β : Type} (f : α → β → Sem (ForInStep β)) (l : Array α) (b : β) (h : ∀ x b, WI P (f x b)) : WI P (forIn l b f) := by
  rw [← Array.forIn_toList]
  exact WI.forIn_list f _ _ fun x _ => h x

theorem WI.forIn_range {β : Type} (f : Nat → β → Sem (ForInStep β)) (r : Std.Legacy.Range) (b : β) (h : ∀ x b, WI P (f x b)) : WI P (forIn r b f) := by
  rw [Std.Legacy.Range.forIn_eq_forIn_range']
  exact WI.forIn_list f _ _ fun x _ => h x

theorem WI.equalIn : ∀ (d : Nat) (t : TypeId) (x y : Value), QV x → QV y → WI P (Op.equalIn d t x y)
  | 0, t, x, y, _, _ => WI.unsupported _
  | d + 1, t, x, y, hx, hy => by
    unfold Op.equalIn
    refine WI.bind (WI.underlying t) fun desc => ?_
    rcases hx with hx | ⟨xs, rfl, hx⟩
    · cases x <;> simp [qv1] at hx <;> rcases hy with hy | ⟨ys, rfl, hy⟩ <;> (try (cases y <;> simp [qv1] at hy)) <;> cases desc <;> (first | exact WI.pure _ | exact WI.stuck _ | exact WI.unsupported _ | (dsimp only; split <;> first | exact WI.pure _ | exact WI.stuck _))
    · rcases hy with hy | ⟨ys, rfl, hy⟩
      · cases y <;> simp [qv1] at hy <;> cases desc <;> (first | exact WI.pure _ | exact WI.stuck _ | exact WI.unsupported _)
      · cases desc with
        | struct fs =>
          dsimp only
          refine WI.bind WI.program fun p => ?_
          split
          · exact WI.unsupported _
          · refine WI.bind (WI.forIn_array _ _ _ fun f b => ?_) fun r => ?_
            · split
              · refine WI.bind' (WI.part _ _ _) fun u hu => WI.bind' (WI.part _ _ _) fun v hv => ?_
                obtain ⟨w1, w2, hu⟩ := hu
                obtain ⟨w3, w4, hv⟩ := hv
                refine WI.bind (WI.equalIn d _ u v (part_QV hx hu) (part_QV hy hv)) fun e => ?_
                split <;> exact WI.pure _
              · exact WI.pure _
            · split <;> exact WI.pure _
        | array n e =>
          dsimp only
          refine WI.bind (WI.sizeOf e) fun sz => ?_
          refine WI.bind (WI.forIn_range _ _ _ fun f b => ?_) fun r => ?_
          · refine WI.bind' (WI.part _ _ _) fun u hu => WI.bind' (WI.part _ _ _) fun v hv => ?_
            obtain ⟨w1, w2, hu⟩ := hu
            obtain ⟨w3, w4, hv⟩ := hv
            refine WI.bind (WI.equalIn d _ u v (part_QV hx hu) (part_QV hy hv)) fun e => ?_
            split <;> exact WI.pure _
          · split <;> exact WI.pure _
        | _ => first | exact WI.pure _ | exact WI.stuck _ | exact WI.unsupported _

/-- '==' as the evaluator has it is the model's. -/
theorem eqP_ok {t : TypeId} {x y : Value} {b : Bool} (h : eqP P t x y = some b) (w : World) : (Op.equal t x y).run P w = .ok b w := by
  unfold eqP at h
  split at h
  · rename_i hq
    simp only [Bool.and_eq_true] at hq
    split at h
    · rename_i c w' hr
      cases h
      exact WI.equalIn _ t x y (.of hq.1) (.of hq.2) _ _ _ hr w
    · cases h
  · cases h

theorem eqP_qv {t : TypeId} {x y : Value} {b : Bool} (h : eqP P t x y = some b) : qv x = true ∧ qv y = true := by
  unfold eqP at h
  split at h
  · rename_i hq; simpa using hq
  · cases h

theorem WI.checkKey (empty : Bool) : ∀ (d : Nat) (t : TypeId) (x : Value), QV x → WI P (Instr.checkKey empty d t x)
  | 0, t, x, _ => WI.unsupported _
  | d + 1, t, x, hx => by
    unfold Instr.checkKey
    refine WI.bind (WI.underlying t) fun desc => ?_
    rcases hx with hx | ⟨xs, rfl, hx⟩
    · cases x <;> simp [qv1] at hx <;> cases desc <;> (first | exact WI.pure _ | exact WI.stuck _ | exact WI.unsupported _)
    · cases desc with
      | struct fs =>
        dsimp only
        refine WI.bind (WI.forIn_array _ _ _ fun f b => ?_) fun r => WI.pure _
        split
        · refine WI.bind' (WI.part _ _ _) fun u hu => ?_
          obtain ⟨w1, w2, hu⟩ := hu
          exact WI.bind (WI.checkKey empty d _ u (part_QV hx hu)) fun _ => WI.pure _
        · exact WI.pure _
      | array n e =>
        dsimp only
        refine WI.bind (WI.forIn_range _ _ _ fun f b => ?_) fun r => WI.pure _
        refine WI.bind (WI.sizeOf e) fun sz => WI.bind' (WI.part _ _ _) fun u hu => ?_
        obtain ⟨w1, w2, hu⟩ := hu
        exact WI.bind (WI.checkKey empty d _ u (part_QV hx hu)) fun _ => WI.pure _
      | _ => first | exact WI.pure _ | exact WI.stuck _ | exact WI.unsupported _

theorem keyOk_ok {t : TypeId} {k : Value} (h : keyOk P t k = true) (empty : Bool) (w : World) : (Instr.checkKey empty 10000 t k).run P w = .ok () w := by
  unfold keyOk at h
  simp only [Bool.and_eq_true] at h
  obtain ⟨⟨hq, h1⟩, h2⟩ := h
  have key : ∀ b, (match (Instr.checkKey b 10000 t k).run P default with | .ok _ _ => true | .halt _ _ => false) = true → (Instr.checkKey b 10000 t k).run P w = .ok () w := fun b hb => by
    split at hb
    · rename_i u w' hr; exact WI.checkKey b 10000 t k (.of hq) _ _ _ hr w
    · cases hb
  cases empty
  · exact key false h2
  · exact key true h1

theorem keyOk_qv {t : TypeId} {k : Value} (h : keyOk P t k = true) : qv k = true := by
  unfold keyOk at h; simp only [Bool.and_eq_true] at h; exact h.1.1

/-! ### What a map holds under a key -/

theorem EntsRel.length {μ : Mu} : ∀ {a b : List MapEntry}, EntsRel μ a b → a.length = b.length
  | _, _, .nil => rfl
  | _, _, .cons _ hs => by simp [EntsRel.length hs]
theorem EntsRel.get {μ : Mu} : ∀ {a b : List MapEntry}, EntsRel μ a b → ∀ (i : Nat) (v : MapEntry), a[i]? = some v → ∃ v', b[i]? = some v' ∧ EntRel μ v v'
  | _, _, .nil, i, v, h => by simp at h
  | _, _, .cons h hs, i, v, hi => by
    cases i with
    | zero => simp at hi; subst hi; exact ⟨_, rfl, h⟩
    | succ i => simp at hi; simpa using EntsRel.get hs i v hi
theorem EntsRel.append {μ : Mu} {a b c d : List MapEntry} (h : EntsRel μ a b) (k : EntsRel μ c d) : EntsRel μ (a ++ c) (b ++ d) := by
  induction a generalizing b with
  | nil => cases h; exact k
  | cons x xs ih => cases h with | cons h hs => exact .cons h (ih hs)
theorem EntsRel.modify {μ : Mu} {f g : MapEntry → MapEntry} (hfg : ∀ x y, EntRel μ x y → EntRel μ (f x) (g y)) : ∀ {a b : List MapEntry} (i : Nat), EntsRel μ a b → EntsRel μ (a.modify i f) (b.modify i g)
  | _, _, i, .nil => by cases i <;> exact .nil
  | _, _, 0, .cons h hs => .cons (hfg _ _ h) hs
  | _, _, i + 1, .cons h hs => .cons h (EntsRel.modify hfg i hs)
theorem EntsRel.eraseIdx {μ : Mu} : ∀ {a b : List MapEntry} (i : Nat), EntsRel μ a b → EntsRel μ (a.eraseIdx i) (b.eraseIdx i)
  | _, _, _, .nil => .nil
  | _, _, 0, .cons _ hs => hs
  | _, _, i + 1, .cons h hs => .cons h (EntsRel.eraseIdx i hs)

/-- What 'findA' answers of the evaluator's entries, of the model's. -/
def FRel (μ : Mu) : Option (Nat × Value) → Option (Nat × Value) → Prop
  | none, none => True
  | some (i, v), some (j, v') => i = j ∧ VRel μ v v'
  | _, _ => False

theorem findAsking_ok {μ : Mu} {t : TypeId} {k : Value} (w : World) : ∀ {es E : List MapEntry} (i : Nat) {r : Option (Nat × Value)}, EntsRel μ es E → findA P t k es i = some r →
    ∃ r', (Instr.findAsking t k E i).run P w = .ok r' w ∧ FRel μ r r'
  | _, _, i, r, .nil, h => by
    simp only [findA, Option.some.injEq] at h; subst h
    exact ⟨none, by simp [Instr.findAsking], trivial⟩
  | e :: es, e' :: E, i, r, .cons he hs, h => by
    simp only [findA] at h
    split at h
    · rename_i hq
      cases h
      refine ⟨some (i, e'.val), ?_, rfl, he.val⟩
      have := eqP_ok hq w
      simp [Instr.findAsking, Sem.run_bind, he.key, this]
    · rename_i hq
      obtain ⟨r', hr, hf⟩ := findAsking_ok w (i + 1) hs h
      refine ⟨r', ?_, hf⟩
      have := eqP_ok hq w
      simp [Instr.findAsking, Sem.run_bind, he.key, this, hr]
    · cases h

theorem sameNow_eqP {t : TypeId} {d : TypeDesc} (hd : P.underlying t = some d) {k x : Value} {b c : Bool} (h : Instr.sameNow d k x = some b) (hq : eqP P t k x = some c) : b = c := by
  have hr := eqP_ok hq default
  unfold Op.equal Op.maxDepth Op.equalIn at hr
  rw [Sem.run_bind, run_underlying hd] at hr
  simp only [Result.andThen_ok] at hr
  cases d <;> cases k <;> cases x <;> simp [Instr.sameNow] at h <;> simp at hr
  · exact h.symm.trans hr
  · obtain ⟨hk, hb⟩ := h
    rw [if_pos hk] at hr
    simp at hr
    exact hb.symm.trans hr
  · exact h.symm.trans hr

theorem findNow_ok {μ : Mu} {t : TypeId} {d : TypeDesc} (hd : P.underlying t = some d) {k : Value} : ∀ {es E : List MapEntry} (i : Nat) {r : Option (Nat × Value)}, EntsRel μ es E → findA P t k es i = some r →
    ∀ r', Instr.findNow d k E i = some r' → FRel μ r r'
  | _, _, i, r, .nil, h, r', h' => by
    simp only [findA, Option.some.injEq] at h; subst h
    simp only [Instr.findNow, Option.some.injEq] at h'; subst h'
    trivial
  | e :: es, e' :: E, i, r, .cons he hs, h, r', h' => by
    simp only [findA] at h
    simp only [Instr.findNow, he.key] at h'
    split at h
    · rename_i hq
      cases h
      split at h'
      · cases h'; exact ⟨rfl, he.val⟩
      · rename_i hs2; have := sameNow_eqP hd hs2 hq; cases this
      · cases h'
    · rename_i hq
      split at h'
      · rename_i hs2; have := sameNow_eqP hd hs2 hq; cases this
      · exact findNow_ok hd (i + 1) hs h r' h'
      · cases h'
    · cases h

theorem findKey_ok {μ : Mu} {t : TypeId} {d : TypeDesc} (hd : P.underlying t = some d) {k : Value} {es E : List MapEntry} {r : Option (Nat × Value)} (hE : EntsRel μ es E) (h : findA P t k es 0 = some r) (w : World) :
    ∃ r', (Instr.findKey t k E).run P w = .ok r' w ∧ FRel μ r r' := by
  unfold Instr.findKey
  rw [Sem.run_bind, run_underlying hd]
  simp only [Result.andThen_ok]
  cases hn : Instr.findNow d k E 0 with
  | some r' => exact ⟨r', by simp, findNow_ok hd 0 hE h r' hn⟩
  | none => simpa using findAsking_ok w 0 hE h

end
end Go.Ev
