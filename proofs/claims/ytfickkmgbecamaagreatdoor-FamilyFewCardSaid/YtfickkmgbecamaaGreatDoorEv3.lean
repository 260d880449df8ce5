/- What is owed of the evaluator, and an operation amid a region. -/
import Derived.Test.YtfickkmgbecamaaGreatDoorEv2
import Derived.OrdersIn
import Derived.RangeFuncRecord
import Derived.RangeFuncNested
namespace Go.Ev

def exitOf : Out → Exit
  | .normal => .normal
  | .ret => .ret
  | .exit id => .exit id
  | .goto l => .goto l

def Top (μ : Mu) (h : AHeap) : Prop := ∀ b, h.next ≤ b → μ b = none

/-- Where a run of the evaluator's has led. -/
structure Fin (P : Program) (μ : Mu) (h : AHeap) (w : World) (μ' : Mu) (h' : AHeap) (w' : World) : Prop where
  rel : Rel P μ' h' w'
  ste : Ste μ h w μ' h' w'
  top : Top μ' h'
  low : ∀ b, b < h.next → μ b = none → μ' b = none
  nxt : h.next ≤ h'.next

theorem Fin.refl {P : Program} {μ : Mu} {h : AHeap} {w : World} (hR : Rel P μ h w) (hT : Top μ h) : Fin P μ h w μ h w :=
  ⟨hR, Ste.refl _ _ _, hT, fun _ _ h => h, Nat.le_refl _⟩
theorem Fin.trans {P : Program} {μ μ' μ'' : Mu} {h h' h'' : AHeap} {w w' w'' : World} (a : Fin P μ h w μ' h' w') (b : Fin P μ' h' w' μ'' h'' w'') : Fin P μ h w μ'' h'' w'' :=
  ⟨b.rel, a.ste.trans b.ste, b.top, fun x hx h0 => b.low x (Nat.lt_of_lt_of_le hx a.nxt) (a.low x hx h0), Nat.le_trans a.nxt b.nxt⟩

inductive DefRel (μ : Mu) : List Nat → List Deferred → Prop where
  | nil : DefRel μ [] []
  | cons {D : Nat} {Ds : List Nat} {i : Img} {ds : List Deferred} (h : μ D = some i) (hs : DefRel μ Ds ds) : DefRel μ (D :: Ds) ({ target := .collected i.blk, args := #[] } :: ds)

theorem DefRel.mono {μ μ' : Mu} (hμ : μ.le μ') : ∀ {a : List Nat} {b : List Deferred}, DefRel μ a b → DefRel μ' a b
  | _, _, .nil => .nil
  | _, _, .cons h hs => .cons (hμ _ _ h) (DefRel.mono hμ hs)

structure ARel (μ : Mu) (a : AAct) (act : Act) : Prop where
  tmps : TmpsRel μ a.env a.n act.tmps
  defs : DefRel μ a.marks act.defers

theorem ARel.mono {μ μ' : Mu} (hμ : μ.le μ') {a : AAct} {act : Act} (h : ARel μ a act) : ARel μ' a act := ⟨h.tmps.mono hμ, h.defs.mono hμ⟩

theorem TmpsRel.set {μ : Mu} {e : Tr Value} {n : Nat} {tmps : Array Value} (h : TmpsRel μ e n tmps) {d : Nat} (hd : d < n) {v v' : Value} (hv : VRel μ v v') : TmpsRel μ (e.set d v) n (tmps.setIfInBounds d v') := by
  refine ⟨by simp [h.size], fun t u hu => ?_⟩
  rw [Tr.get_set] at hu
  split at hu
  · rename_i e; subst e; cases hu
    exact ⟨v', by simp [h.size, hd], hv⟩
  · rename_i e
    obtain ⟨u', h1, h2⟩ := h.get t u hu
    exact ⟨u', by rw [Array.getElem?_setIfInBounds_ne (fun e' => e e'.symm)]; exact h1, h2⟩

theorem ARel.put {μ : Mu} {a a' : AAct} {act : Act} (h : ARel μ a act) {dst : Option Tmp} {v v' : Value} (hv : VRel μ v v') (hp : a.put dst v = some a') : ARel μ a' (act.put dst v') := by
  unfold AAct.put at hp
  cases dst with
  | none => simp at hp; subst hp; exact h
  | some d =>
    simp only at hp
    split at hp
    · rename_i hd; cases hp; exact ⟨h.tmps.set hd hv, h.defs⟩
    · cases hp

def FOk (μ : Mu) (rd : Option Nat) (F : Fence) : Prop :=
  match rd with
  | none => F = Fence.wide
  | some l => ∃ i, μ l = some i ∧ F = Fence.wide.inRound i.blk

theorem FOk.mono {μ μ' : Mu} (hμ : μ.le μ') {rd : Option Nat} {F : Fence} (h : FOk μ rd F) : FOk μ' rd F := by
  cases rd with
  | none => exact h
  | some l => obtain ⟨i, h1, h2⟩ := h; exact ⟨i, hμ _ _ h1, h2⟩

theorem FOk.fn {μ : Mu} {rd : Option Nat} {F : Fence} (h : FOk μ rd F) (f : FuncId) : F.fn f := by
  cases rd with
  | none => cases h; trivial
  | some l => obtain ⟨i, _, h2⟩ := h; subst h2; trivial

theorem FOk.room {μ : Mu} {rd : Option Nat} {F : Fence} (h : FOk μ rd F) (n : Nat) : F.room n := by
  cases rd with
  | none => cases h; exact room_wide n
  | some l => obtain ⟨i, _, h2⟩ := h; subst h2; exact room_wide n

theorem FOk.depth {μ : Mu} {rd : Option Nat} {F : Fence} (h : FOk μ rd F) : F.depth.isSome = true → 1 ≤ 0 := by
  cases rd with
  | none => cases h; simp [Fence.wide]
  | some l => obtain ⟨i, _, h2⟩ := h; subst h2; simp [Fence.wide]

/-- What the model's code owes, where the evaluator has answered. -/
def CodeOk (P : Program) (rd : Option Nat) (a : AAct) (h : AHeap) (out : Out) (a' : AAct) (h' : AHeap) (go : Fence → (Exit → Act → World → Prop) → Act → World → Prop) : Prop :=
  ∀ F μ w act Q, FOk μ rd F → Rel P μ h w → Top μ h → ARel μ a act →
    (∀ μ' w' act', Fin P μ h w μ' h' w' → ARel μ' a' act' → Q (exitOf out) act' w') → go F Q act w

/-- A run from a list of items on. -/
def runs (P : Program) (its : List Item) (F : Fence) (Q : Exit → Act → World → Prop) (act : Act) (w : World) : Prop :=
  ∀ (b : Frame) (k : List Item) (cs : List Frame), b.roundOf = F.round →
    ∃ e act' w', Q e act' w' ∧ ArrivesIn (Machine.fenced P F) P (lone (b.atR act (its ++ k)) cs w) b k cs e act' w'

structure SelfOk (P : Program) (S : Self) : Prop where
  code : ∀ rd c a h out a' h', S.code rd c a h = some (out, a', h') → CodeOk P rd a h out a' h' (fun F => c.wpIn F 0 P)
  scope : ∀ rd body c a h out a' h', S.scope rd body c a h = some (out, a', h') → CodeOk P rd a h out a' h' (runs P [.code c, .inScope body])
  loop : ∀ rd c a h out a' h', S.loop rd c a h = some (out, a', h') → CodeOk P rd a h out a' h' (runs P [.code c, .inLoop c])
  call : ∀ f args h v h', S.call f args h = some (v, h') → (∃ fn c, P.funcs[f]? = some fn ∧ fn.body = some c ∧ fn.name ≠ "runtime.NumGoroutine") ∧
    ∀ μ w (args' : Array Value) R, Rel P μ h w → Top μ h → VsRel μ args.toList args'.toList →
    (∀ μ' w' v', Fin P μ h w μ' h' w' → VRel μ' v v' → R (.returned v') w') → CallsIn Fence.wide 0 P f args' w R

/-! ### Is an operation wanted? -/

theorem wantedA_ok {μ : Mu} {e : Tr Value} {n : Nat} {tmps : Array Value} (hT : TmpsRel μ e n tmps) {ops : Array Oper} {o : Oper} {b : Bool} (hw : wantedA ops e o = some b) :
    Region.wanted o (yielded ops tmps) = b := by
  unfold wantedA at hw
  unfold Region.wanted
  split at hw
  · rename_i hg; rw [hg]; simpa using hw
  · rename_i j want hg
    rw [hg]
    simp only
    split at hw
    · rename_i d hd
      unfold yielded
      rw [hd]
      split at hw
      · rename_i b0 hb
        obtain ⟨v', h1, h2⟩ := hT.get d _ hb
        cases h2
        simp only [Option.bind_some, h1, Option.some.injEq] at hw ⊢
        rw [← hw]; cases b0 <;> cases want <;> rfl
      · rename_i cs hb
        obtain ⟨v', h1, h2⟩ := hT.get d _ hb
        cases h2
        simp only [Option.bind_some, h1, Option.some.injEq] at hw ⊢
        rw [← hw]; rfl
      · cases hw
    · cases hw

/-! ### One operation -/

theorem run_callFunc {P : Program} {f : FuncId} {fn : Func} {c : Code} (hf : P.funcs[f]? = some fn) (hb : fn.body = some c) (hn : fn.name ≠ "runtime.NumGoroutine") (args : Array Value) (w : World) :
    (callFunc f args).run P w = .ok (.enter f args) w := by
  simp [callFunc, hf, hb, hn]

theorem opA_defer {P : Program} {h : AHeap} {id : Nat} {e : Tr Value} {o : Oper} {c : Call} (ho : o.op = .defer c) : opA P h id e o = none := by
  unfold opA; rw [ho]

theorem VsRel.appendA {μ : Mu} {a a' b b' : Array Value} (h : VsRel μ a.toList a'.toList) (k : VsRel μ b.toList b'.toList) : VsRel μ (a ++ b).toList (a' ++ b').toList := by
  simpa using h.append k

end Go.Ev

/- An operation amid a region; rounds of loops over functions; regions in one order. -/
namespace Go.Ev

section next
variable {P : Program} {h h' : AHeap} {v : Value}

theorem new_next {b : Nat} {o : AObj} (hn : h.new b o = some h') : h'.next = h.next := by
  unfold AHeap.new at hn
  split at hn <;> cases hn
  rfl

theorem newA_next {id : Nat} {e : TypeId} {cs : List Value} {g : Bool} {u : Value} (hn : newA P h id e cs g u = some (v, h')) : h'.next = h.next := by
  unfold newA at hn
  split at hn
  · simp only [Option.map_eq_some_iff, Prod.mk.injEq] at hn
    obtain ⟨a, ha, _, rfl⟩ := hn
    exact new_next ha
  · cases hn

theorem storeA_next {t : TypeId} {a x : Value} (hn : storeA P h t a x = some h') : h'.next = h.next := by
  unfold storeA at hn
  repeat' split at hn
  all_goals first | (cases hn; done) | (cases hn; rfl)

theorem mapUpdateA_next {m k x : Value} {t : TypeId} (hn : mapUpdateA P h t m k x = some h') : h'.next = h.next := by
  unfold mapUpdateA at hn
  repeat' split at hn
  all_goals first | (cases hn; done) | (cases hn; rfl)

theorem mapEntryA_next {m k : Value} {t : TypeId} (hn : mapEntryA P h t m k = some (v, h')) : h'.next = h.next := by
  unfold mapEntryA at hn
  repeat' split at hn
  all_goals first | (cases hn; done) | (cases hn; rfl)

theorem entryStoreA_next {m k x : Value} (hn : entryStoreA h m k x = some h') : h'.next = h.next := by
  unfold entryStoreA at hn
  repeat' split at hn
  all_goals first | (cases hn; done) | (cases hn; rfl)

theorem deleteA_next {m k : Value} {t : TypeId} (hn : deleteA P h t m k = some h') : h'.next = h.next := by
  unfold deleteA at hn
  repeat' split at hn
  all_goals first | (cases hn; done) | (cases hn; rfl)

theorem appendA_next {id : Nat} {ts : Array TypeId} {args : Array Value} (hn : appendA P h id ts args = some (v, h')) : h'.next = h.next := by
  unfold appendA at hn
  repeat' split at hn
  all_goals first | (cases hn; done) | (cases hn; rfl) | exact newA_next hn | exact (newA_next hn).trans rfl

theorem copyA_next {ts : Array TypeId} {args : Array Value} (hn : copyA P h ts args = some (v, h')) : h'.next = h.next := by
  unfold copyA at hn
  repeat' split at hn
  all_goals first | (cases hn; done) | (cases hn; rfl)

theorem buildSliceA_next {id : Nat} {t : TypeId} {len : Nat} {ps : List (Nat × Value)} (hn : buildSliceA P h id t len ps = some (v, h')) : h'.next = h.next := by
  unfold buildSliceA at hn
  repeat' split at hn
  all_goals first | (cases hn; done) | exact newA_next hn

theorem makeSliceA_next {id : Nat} {t : TypeId} {l c : Value} (hn : makeSliceA P h id t l c = some (v, h')) : h'.next = h.next := by
  unfold makeSliceA at hn
  repeat' split at hn
  all_goals first | (cases hn; done) | exact newA_next hn

theorem builtinA_next {id : Nat} {b : Builtin} {ts : Array TypeId} {args : Array Value} (hn : builtinA P h id b ts args = some (v, h')) : h'.next = h.next := by
  unfold builtinA at hn
  repeat' split at hn
  all_goals first | (cases hn; done) | exact appendA_next hn | exact copyA_next hn | skip
  all_goals (simp only [Option.map_eq_some_iff, Prod.mk.injEq] at hn; obtain ⟨r, hr, _, rfl⟩ := hn; first | rfl | exact deleteA_next hr)

theorem opA_next {id : Nat} {e : Tr Value} {o : Oper} (hn : opA P h id e o = some (v, h')) : h'.next = h.next := by
  unfold opA at hn
  repeat' split at hn
  all_goals (try simp only [Option.map_eq_some_iff, Option.bind_eq_some_iff, Prod.mk.injEq, Option.some.injEq] at hn)
  all_goals first
    | (cases hn; done)
    | (obtain ⟨_, _, _, rfl⟩ := hn; rfl)
    | (obtain ⟨_, rfl⟩ := hn; rfl)
    | exact newA_next hn
    | (obtain ⟨_, _, hn⟩ := hn; exact newA_next hn)
    | (obtain ⟨_, _, _, _, _, rfl⟩ := hn; rfl)
    | (obtain ⟨_, _, hn⟩ := hn; exact buildSliceA_next hn)
    | (obtain ⟨_, _, _, _, _, hn, _, rfl⟩ := hn; exact storeA_next hn)
    | (obtain ⟨_, _, _, _, _, _, _, rfl⟩ := hn; rfl)
    | (obtain ⟨_, hn, _, rfl⟩ := hn; exact new_next hn)
    | (obtain ⟨_, _, _, _, hn⟩ := hn; exact makeSliceA_next hn)
    | (obtain ⟨_, _, _, _, _, _, _, _, _, _, _, rfl⟩ := hn; rfl)
    | (obtain ⟨_, _, _, _, _, _, _, hn, _, rfl⟩ := hn; exact mapUpdateA_next hn)
    | (obtain ⟨_, _, _, _, hn⟩ := hn; exact mapEntryA_next hn)
    | (obtain ⟨_, _, _, _, _, _, _, hn, _, rfl⟩ := hn; exact entryStoreA_next hn)
    | (obtain ⟨_, _, hn⟩ := hn; exact builtinA_next hn)
end next
end Go.Ev

/- Rounds of loops over functions, and an operation that may call. -/
namespace Go.Ev

section
variable {P : Program} {S : Self} {μ : Mu} {h h' : AHeap} {w : World}

theorem setParams_ok : ∀ {ts : List Tmp} {vs vs' : List Value} {e e' : Tr Value} {n : Nat} {tmps : Array Value}, TmpsRel μ e n tmps → VsRel μ vs vs' → setParams e n ts vs = some e' →
    ts.length = vs'.length ∧ TmpsRel μ e' n ((ts.zip vs').foldl (fun t (p, v) => t.setIfInBounds p v) tmps)
  | [], [], _, e, e', n, tmps, hT, .nil, hs => by simp [setParams] at hs; subst hs; exact ⟨rfl, hT⟩
  | t :: ts, v :: vs, _, e, e', n, tmps, hT, .cons (v' := v') (vs' := vs') hv hvs, hs => by
    simp only [setParams] at hs
    split at hs
    · rename_i ht
      obtain ⟨h1, h2⟩ := setParams_ok (hT.set ht hv) hvs hs
      exact ⟨by simp [h1], by simpa using h2⟩
    · cases hs
  | [], _ :: _, _, e, e', n, tmps, hT, .cons _ _, hs => by simp [setParams] at hs
  | _ :: _, [], _, e, e', n, tmps, hT, .nil, hs => by simp [setParams] at hs

/-- A loop's record is turned. -/
theorem loop_turn (hR : Rel P μ h w) (hT : Top μ h) {l : Nat} {L : ALoop} {i : Img} (hl : h.get l = some (.loop L)) (hi : μ l = some i) (s : LoopState) (p : Option Code) :
    ∃ r : Loop, w.heap[i.blk]? = some (.loop r) ∧ r.state = L.state ∧ r.pending = L.pending ∧ r.params = L.params ∧ r.assign = L.assign ∧ r.body = L.body ∧ TmpsRel μ L.env L.n r.tmps ∧ (∃ j, μ L.defers = some j ∧ r.defers = j.blk) ∧
      Fin P μ h w μ (h.put l (.loop { L with state := s, pending := p })) (w.putObj i.blk (.loop { r with state := s, pending := p })) := by
  obtain ⟨i2, hi2, r, h1, h2, h3, h4, h5, h6, h7, h8⟩ := hR.obj _ _ hl
  rw [hi] at hi2; cases hi2
  have hlt : i.blk < w.heap.size := (Array.getElem?_eq_some_iff.1 h1).1
  obtain ⟨a, b⟩ := hR.update (w' := w.putObj i.blk (.loop { r with state := s, pending := p })) (o' := .loop { L with state := s, pending := p }) hl rfl hi
    ⟨{ r with state := s, pending := p }, World.putObj_heap_same hlt, rfl, rfl, h4, h5, h6, h7, h8⟩ World.putObj_size rfl rfl rfl (fun k hk => World.putObj_heap_other hk)
  exact ⟨r, h1, h2, h3, h4, h5, h6, h7, h8, a, b, hT, fun _ _ h => h, Nat.le_refl _⟩

theorem foldl_zip_arr (ps : Array Tmp) (args tmps : Array Value) : (ps.zip args).foldl (fun tmps (t, a) => tmps.setIfInBounds t a) tmps = (ps.toList.zip args.toList).foldl (fun t (p, v) => t.setIfInBounds p v) tmps := by
  rw [← Array.foldl_toList, Array.toList_zip]

theorem roundA_ok (hS : SelfOk P S) {rd : Option Nat} {F : Fence} (hF : FOk μ rd F) (hR : Rel P μ h w) (hT : Top μ h) {l : Nat} {i : Img} (hi : μ l = some i) {args args' : Array Value}
    (ha : VsRel μ args.toList args'.toList) {v : Value} (hv : roundA S l args h = some (v, h')) :
    ∃ fn tmps assign body, (Instr.yield i.blk args').run P w = .ok (.round i.blk fn tmps assign body) w ∧
      ∀ R : Ending → World → Prop, (∀ μ' w' v', Fin P μ h w μ' h' w' → VRel μ' v v' → R (.returned v') w') → RoundIn F 0 P i.blk fn tmps assign body w R := by
  unfold roundA at hv
  split at hv
  case h_2 => cases hv
  rename_i L hl
  obtain ⟨r, h1, h2, h3, h4, h5, h6, h7, h8, _⟩ := loop_turn hR hT hl hi .ready none
  split at hv
  case h_2 => cases hv
  rename_i e he
  obtain ⟨hlen, hTm⟩ := setParams_ok h7 ha he
  have hy := run_yield (P := P) (args := args') h1 (by rw [h4]; simpa using hlen.symm)
  rw [foldl_zip_arr, h4] at hy
  refine ⟨_, _, _, _, hy, fun R hK => ?_⟩
  split at hv
  case h_2 => cases hv
  rename_i a1 hh1 hc1
  refine roundIn_of_wpIn (hF.fn _) ?_
  have hFl : FOk μ (some l) (F.inRound i.blk) := by
    refine ⟨i, hi, ?_⟩
    cases rd with
    | none => cases hF; rfl
    | some l0 => obtain ⟨i0, _, e0⟩ := hF; subst e0; rfl
  rw [h5, h6]
  refine hS.code _ _ _ _ _ _ _ hc1 (F.inRound i.blk) μ w _ _ hFl hR hT ⟨hTm, .nil⟩ fun μ1 w1 act1 f1 r1 => ?_
  split at hv
  case h_2 => cases hv
  rename_i L1 hl1
  split at hv
  case isFalse => cases hv
  rename_i hst
  obtain ⟨hst, _⟩ := hst
  have hi1 := f1.ste.le _ _ hi
  obtain ⟨r1', g1, g2, g3, g4, g5, g6, g7, g8, f2⟩ := loop_turn f1.rel f1.top hl1 hi1 .busy L1.pending
  refine ⟨_, run_beginRound g1 (g2.trans hst), ?_⟩
  have e1 : ({ r1' with state := .busy } : Loop) = { r1' with state := .busy, pending := L1.pending } := by rw [← g3]
  rw [e1]
  split at hv
  case h_2 => cases hv
  rename_i out a2 h3' hc2
  refine hS.code _ _ _ _ _ _ _ hc2 (F.inRound i.blk) μ1 _ _ _ (hFl.mono f1.ste.le) f2.rel f2.top r1 fun μ3 w3 act3 f3 r3 => ?_
  split at hv
  case h_2 => cases hv
  rename_i L3 hl3
  split at hv
  case isFalse => cases hv
  rename_i hm2
  cases hv
  have hi3 := f3.ste.le _ _ hi1
  have hfin : ∀ jump : Option Code, jump = jumpOf out → ∃ v' w', (Instr.endRound i.blk jump).run P w3 = .ok v' w' ∧ R (.returned v') w' := fun jump hj => by
    subst hj
    obtain ⟨r3', k1, k2, k3, k4, k5, k6, k7, k8, f4⟩ := loop_turn f3.rel f3.top hl3 hi3 (if (jumpOf out).isNone then .ready else .done) (jumpOf out)
    exact ⟨_, _, run_endRound _ k1, hK _ _ _ (((f1.trans f2).trans f3).trans f4) (.bool _)⟩
  cases out with
  | normal => exact hfin none rfl
  | ret => exact hfin (some .ret) rfl
  | exit id => exact hfin (some (.exit id)) rfl
  | goto t => exact hfin (some (.goto t)) rfl

/-- Where an operation has led: a number of its own may be new. -/
structure FinAt (P : Program) (id : Nat) (μ : Mu) (h : AHeap) (w : World) (μ' : Mu) (h' : AHeap) (w' : World) : Prop where
  rel : Rel P μ' h' w'
  ste : Ste μ h w μ' h' w'
  top : Top μ' h'
  low : ∀ b, b ≠ id → b < h.next → μ b = none → μ' b = none
  nxt : h.next ≤ h'.next

theorem Fin.at {μ' : Mu} {w' : World} (f : Fin P μ h w μ' h' w') (id : Nat) : FinAt P id μ h w μ' h' w' := ⟨f.rel, f.ste, f.top, fun b _ => f.low b, f.nxt⟩

/-- An operation that calls nothing. -/
theorem opA_at (hR : Rel P μ h w) (hT : Top μ h) {a : AAct} {act : Act} (hA : ARel μ a act) {id : Nat} (hμ : μ id = none) (hid : id < h.next) {o : Oper} {v : Value} (hv : opA P h id a.env o = some (v, h')) :
    ∃ x v' w' μ', (execOp act.eval o).run P w = .ok x w' ∧ (x = .value v' ∨ (x = .skip ∧ v' = undef)) ∧ VRel μ' v v' ∧ FinAt P id μ h w μ' h' w' := by
  obtain ⟨x, v', w', μ', h1, h2, h3, h4, h5, h6⟩ := opA_ok hR hA.tmps hμ hv
  have hn := opA_next hv
  exact ⟨x, v', w', μ', h1, h2, h3, h4, h5, fun b hb => h6 b (by omega) (hT b (by omega)), fun b hb _ => h6 b hb, by omega⟩

theorem operA_plain {o : Oper} {id : Nat} {e : Tr Value} (h0 : ∀ f args ts, o.op ≠ .call { callee := .value f, args := args, argTypes := ts }) : operA P S id e h o = opA P h id e o := by
  unfold operA
  split
  · rename_i f args ts ho
    exact (h0 _ _ _ ho).elim
  · rfl

theorem opA_wpIn {rd : Option Nat} {F : Fence} (hF : FOk μ rd F) (hR : Rel P μ h w) (hT : Top μ h) {a : AAct} {act : Act} (hA : ARel μ a act) {id : Nat} (hμ : μ id = none) (hid : id < h.next)
    {o : Oper} {v : Value} (hv : opA P h id a.env o = some (v, h')) {K : Act → World → Prop} {Q : Exit → Act → World → Prop}
    (hK : ∀ μ' w' v', FinAt P id μ h w μ' h' w' → VRel μ' v v' → K (act.put o.dst v') w') : o.wpIn F 0 P act w K Q := by
  refine ⟨fun f _ => hF.fn f, ?_⟩
  rw [Oper.semAt_eq _ _ _ (fun c hc => by rw [opA_defer hc] at hv; cases hv)]
  obtain ⟨x, v', w', μ', h1, h2, h3, f⟩ := opA_at hR hT hA hμ hid hv
  rw [h1]
  rcases h2 with rfl | ⟨rfl, rfl⟩
  · exact hK _ _ _ f h3
  · exact hK _ _ _ f h3

theorem operA_wpIn (hS : SelfOk P S) {rd : Option Nat} {F : Fence} (hF : FOk μ rd F) (hR : Rel P μ h w) (hT : Top μ h) {a : AAct} {act : Act} (hA : ARel μ a act) {id : Nat} (hμ : μ id = none) (hid : id < h.next)
    {o : Oper} {v : Value} (hv : operA P S id a.env h o = some (v, h')) {K : Act → World → Prop} {Q : Exit → Act → World → Prop}
    (hK : ∀ μ' w' v', FinAt P id μ h w μ' h' w' → VRel μ' v v' → K (act.put o.dst v') w') : o.wpIn F 0 P act w K Q := by
  by_cases h0 : ∀ f args ts, o.op ≠ .call { callee := .value f, args := args, argTypes := ts }
  · rw [operA_plain h0] at hv
    exact opA_wpIn hF hR hT hA hμ hid hv hK
  · have h1 : ∃ f args ts, o.op = .call { callee := .value f, args := args, argTypes := ts } := by
      false_or_by_contra
      rename_i hn
      exact h0 fun f args ts he => hn ⟨f, args, ts, he⟩
    clear h0
    obtain ⟨f, args, ts, ho⟩ := h1
    refine ⟨fun f _ => hF.fn f, ?_⟩
    rw [Oper.semAt_eq _ _ _ (fun c hc => by rw [ho] at hc; cases hc)]
    unfold operA at hv
    rw [ho] at hv
    simp only at hv
    obtain ⟨g, hg, hv⟩ := Option.bind_eq_some_iff.1 hv
    obtain ⟨vs, hvs, hv⟩ := Option.bind_eq_some_iff.1 hv
    have hg' := evalO_ok hR hA.tmps hg
    have hvs' := mapO_ok hR hA.tmps hvs
    unfold callA at hv
    generalize hge : act.eval f = g' at hg'
    split at hv
    · rename_i k first captured _
      cases hg' with
      | @func _ _ first' _ captured' hfi hca =>
      obtain ⟨⟨fn, c, hf, hb, hn⟩, hcall⟩ := hS.call _ _ _ _ _ hv
      have hrun : (execOp act.eval o).run P w = .ok (.enter k (first' ++ args.map act.eval ++ captured')) w := by
        unfold execOp
        rw [ho]
        simp [resolve, hge, Deferred.ofValue, invoke, run_callFunc hf hb hn]
      rw [hrun]
      refine ⟨fun hd => hF.depth hd, ?_⟩
      have hc := hcall μ w (first' ++ args.map act.eval ++ captured') (fun
          | .returned v, w'' => K (act.put o.dst v) w''
          | .panicked chain, w'' => Q (.panic chain) act w''
          | .outgrown, _ => LetsOut Q) hR hT ((hfi.appendA hvs').appendA hca) (fun μ' w' v' f hvr => hK μ' w' v' (f.at id) hvr)
      cases rd with
      | none => cases hF; exact hc
      | some l0 => obtain ⟨i0, _, e0⟩ := hF; subst e0; exact hc
    · rename_i l first captured _
      split at hv
      case isFalse => cases hv
      rename_i h00
      cases hg' with
      | @yield _ i hi _ first' _ captured' hfi hca =>
      have e1 : first' = #[] := by
        have := hfi.length
        apply Array.eq_empty_of_size_eq_zero
        simp only [Array.length_toList] at this
        omega
      obtain ⟨fn, tmps, assign, body, hy, hround⟩ := roundA_ok hS hF hR hT hi hvs' hv
      have hrun : (execOp act.eval o).run P w = .ok (.round i.blk fn tmps assign body) w := by
        unfold execOp
        rw [ho]
        simp [resolve, hge, Deferred.ofValue, invoke, e1, hy]
      rw [hrun]
      exact ⟨fun hd => hF.depth hd, hround _ (fun μ' w' v' f hvr => hK μ' w' v' (f.at id) hvr)⟩
    · cases hv

end
end Go.Ev

/- Regions whose operations go in the text's order. -/
namespace Go.Ev

/-- Where a part of a region has led: the numbers from base on may be new. -/
structure FinB (P : Program) (base : Nat) (μ : Mu) (h : AHeap) (w : World) (μ' : Mu) (h' : AHeap) (w' : World) : Prop where
  rel : Rel P μ' h' w'
  ste : Ste μ h w μ' h' w'
  top : Top μ' h'
  low : ∀ b, b < base → μ b = none → μ' b = none
  nxt : h.next ≤ h'.next

section
variable {P : Program} {S : Self} {μ : Mu} {h h' : AHeap} {w : World}

theorem FinB.refl (base : Nat) (hR : Rel P μ h w) (hT : Top μ h) : FinB P base μ h w μ h w :=
  ⟨hR, Ste.refl _ _ _, hT, fun _ _ h => h, Nat.le_refl _⟩
theorem FinB.trans {base : Nat} {μ' μ'' : Mu} {h'' : AHeap} {w' w'' : World} (a : FinB P base μ h w μ' h' w') (b : FinB P base μ' h' w' μ'' h'' w'') : FinB P base μ h w μ'' h'' w'' :=
  ⟨b.rel, a.ste.trans b.ste, b.top, fun x hx h0 => b.low x hx (a.low x hx h0), Nat.le_trans a.nxt b.nxt⟩
theorem FinAt.b {base id : Nat} {μ' : Mu} {w' : World} (f : FinAt P id μ h w μ' h' w') (hid : base ≤ id) (hn : base ≤ h.next) : FinB P base μ h w μ' h' w' :=
  ⟨f.rel, f.ste, f.top, fun b hb h0 => f.low b (by omega) (by omega) h0, f.nxt⟩

/-- A region's numbers are laid aside. -/
def AHeap.aside (h : AHeap) (n : Nat) : AHeap := { h with next := h.next + n }

theorem FinB.fin {base n : Nat} (hb : base = h.next) {μ' : Mu} {w' : World} (f : FinB P base μ (h.aside n) w μ' h' w') : Fin P μ h w μ' h' w' :=
  ⟨f.rel, (Ste.next μ h w (h.next + n)).trans f.ste, f.top, fun b hx => f.low b (by omega), by have := f.nxt; simp [AHeap.aside] at this; omega⟩

/-- One step of a region. -/
theorem stepA_wpIn (hS : SelfOk P S) {rd : Option Nat} {F : Fence} (hF : FOk μ rd F) (hR : Rel P μ h w) (hT : Top μ h) {a a' : AAct} {act : Act} (hA : ARel μ a act) {base i : Nat} {ops : Array Oper}
    (hμ : μ (base + i) = none) (hid : base + i < h.next) (hs : stepA P S base ops i a h = some (a', h')) {K : Act → World → Prop} {Q : Exit → Act → World → Prop}
    (hK : ∀ μ' w' act', FinAt P (base + i) μ h w μ' h' w' → ARel μ' a' act' → K act' w') : wpOpIn F 0 P ops Q i K act w := by
  unfold stepA at hs
  split at hs
  · cases hs
  rename_i o ho
  unfold wpOpIn
  rw [ho]
  simp only
  split at hs
  · rename_i hw
    rw [if_pos (wantedA_ok hA.tmps hw)]
    obtain ⟨⟨v, h1⟩, hv, hp⟩ := Option.bind_eq_some_iff.1 hs
    simp only [Option.map_eq_some_iff, Prod.mk.injEq] at hp
    obtain ⟨a1, ha1, rfl, rfl⟩ := hp
    exact operA_wpIn hS hF hR hT hA hμ hid hv fun μ' w' v' f hvr => hK μ' w' _ f ((hA.mono f.ste.le).put hvr ha1)
  · rename_i hw
    rw [if_neg (by rw [wantedA_ok hA.tmps hw]; simp)]
    simp only [Option.map_eq_some_iff, Prod.mk.injEq] at hs
    obtain ⟨a1, ha1, rfl, rfl⟩ := hs
    exact ⟨fun f _ => hF.fn f, hK μ w _ ⟨hR, Ste.refl _ _ _, hT, fun _ _ _ h => h, Nat.le_refl _⟩ (hA.put (.tuple .nil) ha1)⟩
  · cases hs

theorem opsA_wpIn (hS : SelfOk P S) {rd : Option Nat} {F : Fence} {base : Nat} {ops : Array Oper} {Q : Exit → Act → World → Prop} : ∀ (l : List Nat) (μ : Mu) (h : AHeap) (w : World) (a a' : AAct) (act : Act) (h' : AHeap),
    FOk μ rd F → Rel P μ h w → Top μ h → ARel μ a act → l.Nodup → (∀ j ∈ l, μ (base + j) = none ∧ base + j < h.next) → base ≤ h.next → opsA P S base ops l a h = some (a', h') →
    (∀ μ' w' act', FinB P base μ h w μ' h' w' → ARel μ' a' act' → Q .normal act' w') → wpOpsIn F 0 P ops Q l act w := by
  intro l
  induction l with
  | nil =>
    intro μ h w a a' act h' hF hR hT hA _ _ _ hs hK
    simp only [opsA, Option.some.injEq, Prod.mk.injEq] at hs
    obtain ⟨rfl, rfl⟩ := hs
    exact hK μ w act (FinB.refl _ hR hT) hA
  | cons i rest ih =>
    intro μ h w a a' act h' hF hR hT hA hnd hfree hb hs hK
    simp only [opsA] at hs
    split at hs
    · rename_i a1 h1 hst
      rw [wpOpsIn_cons]
      obtain ⟨h0, hlt⟩ := hfree i (by simp)
      rw [List.nodup_cons] at hnd
      refine stepA_wpIn hS hF hR hT hA h0 hlt hst fun μ1 w1 act1 f1 r1 => ?_
      refine ih μ1 h1 w1 a1 a' act1 h' (hF.mono f1.ste.le) f1.rel f1.top r1 hnd.2 (fun j hj => ?_) (Nat.le_trans hb f1.nxt) hs fun μ2 w2 act2 f2 r2 => hK μ2 w2 act2 ((f1.b (by omega) hb).trans f2) r2
      obtain ⟨hj0, hjlt⟩ := hfree j (by simp [hj])
      have hne : base + j ≠ base + i := fun e => hnd.1 (by rw [show i = j from by omega]; exact hj)
      exact ⟨f1.low _ hne hjlt hj0, Nat.lt_of_lt_of_le hjlt f1.nxt⟩
    · cases hs

/-- A region in the text's order. -/
theorem region_wpIn (hS : SelfOk P S) {rd : Option Nat} {F : Fence} (hF : FOk μ rd F) (hR : Rel P μ h w) (hT : Top μ h) {a a' : AAct} {act : Act} (hA : ARel μ a act) {ops : Array Oper} {id : Nat}
    (hs : opsA P S h.next ops (List.range ops.size) a (h.aside ops.size) = some (a', h')) {Q : Exit → Act → World → Prop}
    (hK : ∀ μ' w' act', Fin P μ h w μ' h' w' → ARel μ' a' act' → Q .normal act' w') : (Code.region id ops false).wpIn F 0 P Q act w := by
  refine wpIn_region ?_
  have hT' : Top μ (h.aside ops.size) := fun b hb => hT b (by simp [AHeap.aside] at hb; omega)
  refine opsA_wpIn hS (List.range ops.size) μ _ w a a' act h' hF (hR.next _) hT' hA List.nodup_range (fun j hj => ⟨hT _ (by omega), ?_⟩) (by simp [AHeap.aside]) hs fun μ' w' act' f r => hK μ' w' act' (f.fin rfl) r
  simp at hj
  simp [AHeap.aside]; omega

end
end Go.Ev

/- Code, loops over functions, calls: what the evaluator answers the model does. -/
namespace Go.Ev

/-- What is owed of regions whose order is drawn. -/
def DrawLaw (P : Program) : Prop :=
  ∀ (S : Self), SelfOk P S → ∀ {rd : Option Nat} {F : Fence} {μ : Mu} {h h' : AHeap} {w : World} {a a' : AAct} {act : Act} {ops : Array Oper} {id : Nat} {Q : Exit → Act → World → Prop},
    FOk μ rd F → Rel P μ h w → Top μ h → ARel μ a act → regionA P S ops true a h = some (a', h') →
    (∀ μ' w' act', Fin P μ h w μ' h' w' → ARel μ' a' act' → Q .normal act' w') → (Code.region id ops true).wpIn F 0 P Q act w

section steps
variable {P : Program} {b : Frame} {a : Act} {k : List Item} {cs : List Frame} {w : World}
theorem stepR_scope {c : Code} : step P (lone (b.atR a (.code (.scope c) :: k)) cs w) = .next (lone (b.atR a (.code c :: .inScope c :: k)) cs w) :=
  step_lone_go (by simp [stepG, stepG.exec, Frame.atR])
theorem stepR_inScope {c : Code} : step P (lone (b.atR a (.inScope c :: k)) cs w) = .next (lone (b.atR a k) cs w) :=
  step_lone_go (by simp [stepG, stepG.exec, Frame.atR])
end steps

section
variable {P : Program} {S : Self}

theorem wp_runs {c : Code} {F : Fence} (hF : ∀ f, F.fn f) (hr : ∀ n, F.room n) {Q : Exit → Act → World → Prop} {act : Act} {w : World} (h : c.wpIn F 0 P Q act w) : runs P [.code c] F Q act w :=
  fun b k cs hb => h b k cs hb (hF _) (hr _)

theorem runs_wp {c : Code} {F : Fence} {Q : Exit → Act → World → Prop} {act : Act} {w : World} (h : runs P [.code c] F Q act w) : c.wpIn F 0 P Q act w :=
  fun b k cs hb _ _ => h b k cs hb

/-- A step ahead of a run. -/
theorem runs_step {its its' : List Item} {F : Fence} (hF : ∀ f, F.fn f) (hr : ∀ n, F.room n) {Q : Exit → Act → World → Prop} {act : Act} {w : World} (hc : ∀ (b : Frame) (k : List Item), (b.atR act (its ++ k)).about P w = none)
    (hs : ∀ (b : Frame) (k : List Item) (cs : List Frame), step P (lone (b.atR act (its ++ k)) cs w) = .next (lone (b.atR act (its' ++ k)) cs w)) (h : runs P its' F Q act w) : runs P its F Q act w := fun b k cs hb => by
  obtain ⟨e, act', w', q, r⟩ := h b k cs hb
  exact ⟨e, act', w', q, .of_steps (.one (fenced_calm (n := 0) (hF _) (hr _) (hc b k)) (hs b k cs)) r⟩

theorem loopA_ok (hS : SelfOk P S) {rd : Option Nat} {c : Code} {a a' : AAct} {h h' : AHeap} {out : Out} (hv : loopA S rd c a h = some (out, a', h')) : CodeOk P rd a h out a' h' (runs P [.code c, .inLoop c]) := by
  intro F μ w act Q hF hR hT hA hQ
  unfold loopA thenA at hv
  split at hv
  · rename_i a1 h1 hc1
    intro b k cs hb
    have h1' := hS.code _ _ _ _ _ _ _ hc1 F μ w act (fun e act' w' => e = .normal ∧ ∃ e2 act2 w2, Q e2 act2 w2 ∧ ArrivesIn (Machine.fenced P F) P (lone (b.atR act' (.inLoop c :: k)) cs w') b k cs e2 act2 w2) hF hR hT hA
      (fun μ1 w1 act1 f1 r1 => by
        refine ⟨rfl, ?_⟩
        obtain ⟨e2, act2, w2, q2, arr2⟩ := hS.loop _ _ _ _ _ _ _ hv F μ1 w1 act1 Q (hF.mono f1.ste.le) f1.rel f1.top r1 (fun μ2 w2 act2 f2 r2 => hQ μ2 w2 act2 (f1.trans f2) r2) b k cs hb
        exact ⟨e2, act2, w2, q2, .of_steps (.one (fenced_calm (n := 0) (hF.fn _) (hF.room _) rfl) stepR_inLoop) arr2⟩)
    obtain ⟨e, act1, w1, ⟨rfl, e2, act2, w2, q2, arr2⟩, arr⟩ := h1' b (.inLoop c :: k) cs hb (hF.fn _) (hF.room _)
    exact ⟨e2, act2, w2, q2, .of_steps arr arr2⟩
  · rename_i hne
    intro b k cs hb
    have h1' := hS.code _ _ _ _ _ _ _ hv F μ w act (fun e act' w' => e = exitOf out ∧ Q e act' w') hF hR hT hA (fun μ1 w1 act1 f1 r1 => ⟨rfl, hQ μ1 w1 act1 f1 r1⟩)
    obtain ⟨e, act1, w1, ⟨rfl, q⟩, arr⟩ := h1' b (.inLoop c :: k) cs hb (hF.fn _) (hF.room _)
    refine ⟨_, act1, w1, q, .pass (x := .inLoop c) rfl (fun _ _ => .inl ?_) arr⟩
    cases out with
    | normal => exact (hne _ _ hv).elim
    | _ => simp [exitOf]

theorem scopeA_ok (hS : SelfOk P S) {rd : Option Nat} {body c : Code} {a a' : AAct} {h h' : AHeap} {out : Out} (hv : scopeA S rd body c a h = some (out, a', h')) : CodeOk P rd a h out a' h' (runs P [.code c, .inScope body]) := by
  intro F μ w act Q hF hR hT hA hQ
  unfold scopeA at hv
  split at hv
  · rename_i l a1 h1 hc1
    split at hv
    · rename_i rest hl
      intro b k cs hb
      have h1' := hS.code _ _ _ _ _ _ _ hc1 F μ w act (fun e act' w' => e = .goto l ∧ ∃ e2 act2 w2, Q e2 act2 w2 ∧ ArrivesIn (Machine.fenced P F) P (lone (b.atR act' (.code rest :: .inScope body :: k)) cs w') b k cs e2 act2 w2) hF hR hT hA
        (fun μ1 w1 act1 f1 r1 => ⟨rfl, hS.scope _ _ _ _ _ _ _ _ hv F μ1 w1 act1 Q (hF.mono f1.ste.le) f1.rel f1.top r1 (fun μ2 w2 act2 f2 r2 => hQ μ2 w2 act2 (f1.trans f2) r2) b k cs hb⟩)
      obtain ⟨e, act1, w1, ⟨rfl, e2, act2, w2, q2, arr2⟩, arr⟩ := h1' b (.inScope body :: k) cs hb (hF.fn _) (hF.room _)
      exact ⟨e2, act2, w2, q2, .of_steps (arr.1 _ (by simp [gotoIn, hl])) arr2⟩
    · rename_i hl
      cases hv
      intro b k cs hb
      have h1' := hS.code _ _ _ _ _ _ _ hc1 F μ w act (fun e act' w' => e = .goto l ∧ Q e act' w') hF hR hT hA (fun μ1 w1 act1 f1 r1 => ⟨rfl, hQ μ1 w1 act1 f1 r1⟩)
      obtain ⟨e, act1, w1, ⟨rfl, q⟩, arr⟩ := h1' b (.inScope body :: k) cs hb (hF.fn _) (hF.room _)
      have hx : gotoIn l (.inScope body :: k) = gotoIn l k := by simp [gotoIn, hl]
      exact ⟨_, act1, w1, q, fun k' hk => arr.1 k' (by rw [hx]; exact hk), fun hr' hk => arr.2 hr' (by rw [hx]; exact hk)⟩
  · rename_i hne
    intro b k cs hb
    have h1' := hS.code _ _ _ _ _ _ _ hv F μ w act (fun e act' w' => e = exitOf out ∧ Q e act' w') hF hR hT hA (fun μ1 w1 act1 f1 r1 => ⟨rfl, hQ μ1 w1 act1 f1 r1⟩)
    obtain ⟨e, act1, w1, ⟨rfl, q⟩, arr⟩ := h1' b (.inScope body :: k) cs hb (hF.fn _) (hF.room _)
    cases out with
    | normal => exact ⟨.normal, act1, w1, q, StepsIn.trans arr (.one (fenced_calm (n := 0) (hF.fn _) (hF.room _) rfl) stepR_inScope)⟩
    | exit id => exact ⟨.exit id, act1, w1, q, fun k' hk => arr.1 k' (by simp [exitTo, hk]), fun hr' hk => arr.2 hr' (by simp [exitTo, hk])⟩
    | goto l => exact (hne _ _ _ hv).elim
    | ret => exact ⟨_, act1, w1, q, arr⟩

end
end Go.Ev

/- Calls, loops over functions, code: the evaluator is sound. -/
namespace Go.Ev

section
variable {P : Program} {S : Self} {μ : Mu} {h h' : AHeap} {w : World}

/-! ### Results -/

def resS (tmps : Array Value) : ResultVar → Sem Value
  | .tmp t => pure (tmps.getD t undef)
  | .cell a t => do loadVar t (← asAddr (tmps.getD a undef))

theorem results_eq (fn : Func) (tmps : Array Value) : results fn tmps = (fn.results.mapM (resS tmps) >>= fun vs => pure (if h : vs.size = 1 then vs[0] else .tuple vs)) := rfl

theorem resultA_ok (hR : Rel P μ h w) {e : Tr Value} {n : Nat} {tmps : Array Value} (hT : TmpsRel μ e n tmps) {r : ResultVar} {v : Value} (hv : resultA P e h r = some v) :
    ∃ v', (resS tmps r).run P w = .ok v' w ∧ VRel μ v v' := by
  cases r with
  | tmp t =>
    obtain ⟨v', h1, h2⟩ := hT.get t v hv
    exact ⟨v', by simp [resS, Array.getD_eq_getD_getElem?, h1], h2⟩
  | cell a t =>
    obtain ⟨p, hp, hl⟩ := Option.bind_eq_some_iff.1 hv
    obtain ⟨p', h1, h2⟩ := hT.get a p hp
    obtain ⟨v', h3, h4⟩ := loadA_ok hR h2 hl
    refine ⟨v', ?_, h4⟩
    have e1 : tmps.getD a undef = p' := by simp [Array.getD_eq_getD_getElem?, h1]
    simp only [resS, e1]
    cases h2 with
    | ptr hi =>
      rw [← h3]
      simp [Instr.loadAt, Instr.sureAddr, asAddr]
    | _ => simp [loadA] at hl

theorem resultsL_ok (hR : Rel P μ h w) {e : Tr Value} {n : Nat} {tmps : Array Value} (hT : TmpsRel μ e n tmps) : ∀ {l : List ResultVar} {vs : List Value}, l.mapM (resultA P e h) = some vs →
    ∃ vs', (l.mapM (resS tmps)).run P w = .ok vs' w ∧ VsRel μ vs vs'
  | [], vs, hv => by
    simp at hv; subst hv
    exact ⟨[], by simp, .nil⟩
  | r :: l, vs, hv => by
    rw [List.mapM_cons] at hv
    obtain ⟨v, hv1, hv⟩ := Option.bind_eq_some_iff.1 hv
    obtain ⟨vs1, hv2, hv⟩ := Option.bind_eq_some_iff.1 hv
    cases hv
    obtain ⟨v', h1, h2⟩ := resultA_ok hR hT hv1
    obtain ⟨vs', h3, h4⟩ := resultsL_ok hR hT hv2
    exact ⟨v' :: vs', by rw [List.mapM_cons, Sem.run_bind, h1]; simp only [Result.andThen_ok]; rw [Sem.run_bind, h3]; simp, .cons h2 h4⟩

theorem resultsA_ok (hR : Rel P μ h w) {e : Tr Value} {n : Nat} {tmps : Array Value} (hT : TmpsRel μ e n tmps) {fn : Func} {v : Value} (hv : resultsA P fn e h = some v) :
    ∃ v', (results fn tmps).run P w = .ok v' w ∧ VRel μ v v' := by
  unfold resultsA at hv
  cases hm : fn.results.toList.mapM (resultA P e h) with
  | none => rw [hm] at hv; cases hv
  | some vs =>
    rw [hm] at hv
    obtain ⟨vs', h1, h2⟩ := resultsL_ok hR hT hm
    have hrun : (results fn tmps).run P w = .ok (if hh : vs'.toArray.size = 1 then vs'.toArray[0] else .tuple vs'.toArray) w := by
      rw [results_eq, Array.mapM_eq_mapM_toList, Sem.run_bind, Sem.run_map, h1]
      rfl
    cases h2 with
    | nil => cases hv; exact ⟨_, hrun, .tuple .nil⟩
    | cons hx hs =>
      cases hs with
      | nil => cases hv; exact ⟨_, hrun, hx⟩
      | cons hy hs => cases hv; exact ⟨_, hrun, .tuple (.cons hx (.cons hy hs))⟩

/-! ### Arguments -/

theorem argsEnv_get : ∀ (vs : List Value) (i : Nat) (e : Tr Value) (t : Nat), (argsEnv vs i e).get t = if i ≤ t ∧ t < i + vs.length then vs[t - i]? else e.get t
  | [], i, e, t => by simp only [argsEnv, List.length_nil]; rw [if_neg (by omega)]
  | v :: vs, i, e, t => by
    simp only [argsEnv]
    rw [argsEnv_get vs (i + 1), Tr.get_set]
    by_cases h1 : t = i
    · subst h1; rw [if_neg (by omega), if_pos rfl, if_pos (by simp)]; simp
    · rw [if_neg h1]
      by_cases h2 : i + 1 ≤ t ∧ t < i + 1 + vs.length
      · rw [if_pos h2, if_pos (by simp; omega), show t - i = (t - (i + 1)) + 1 from by omega]; simp
      · rw [if_neg h2, if_neg (by simp; omega)]

theorem args_tmps {args args' : Array Value} {n : Nat} (ha : VsRel μ args.toList args'.toList) (hn : args.size ≤ n) : TmpsRel μ (argsEnv args.toList 0 .leaf) n (args' ++ Array.replicate (n - args'.size) undef) := by
  have hl := ha.length
  simp only [Array.length_toList] at hl
  refine ⟨by simp; omega, fun t v hv => ?_⟩
  rw [argsEnv_get] at hv
  split at hv
  · rename_i ht
    obtain ⟨v', h1, h2⟩ := ha.get _ _ hv
    simp only [Nat.sub_zero, Array.length_toList] at h1 ht
    refine ⟨v', ?_, h2⟩
    rw [Array.getElem?_append_left (by omega)]
    simpa using h1
  · rw [Tr.get_leaf] at hv; cases hv

/-! ### The marks behind a loop -/

theorem shut_leaves {fn : Func} {a : AAct} {tmps : Array Value} {v : Value} {R : Ending → World → Prop} : ∀ (ds : List Nat) (defs : List Deferred) (μ : Mu) (h h2 : AHeap) (w : World),
    Rel P μ h w → Top μ h → TmpsRel μ a.env a.n tmps → DefRel μ ds defs → shutA ds h = some h2 → resultsA P fn a.env h2 = some v →
    (∀ w' v', Fin P μ h w μ h2 w' → VRel μ v v' → R (.returned v') w') → LeavesInM Fence.wide 0 P fn tmps R defs .returning w
  | [], _, μ, h, h2, w, hR, hT, hA, .nil, hs, hr, hK => by
    simp [shutA] at hs; subst hs
    obtain ⟨v', h1, h3⟩ := resultsA_ok hR hA hr
    exact ⟨v', h1, hK w v' (Fin.refl hR hT) h3⟩
  | D :: ds, _, μ, h, h2, w, hR, hT, hA, .cons (i := i) (ds := defs) hi hds, hs, hr, hK => by
    simp only [shutA] at hs
    split at hs
    · rename_i hD
      obtain ⟨i2, hi2, ho⟩ := hR.obj _ _ hD
      rw [hi] at hi2; cases hi2
      have hm : w.heap[i.blk]? = some (.deferred (some [])) := ho
      obtain ⟨r1, r2⟩ := hR.update (w' := w.putObj i.blk (.deferred none)) (o' := .dead) hD rfl hi trivial World.putObj_size rfl rfl rfl (fun k hk => World.putObj_heap_other hk)
      refine ⟨by simp, .inl ⟨i.blk, _, rfl, run_takeDeferred hm, ?_⟩⟩
      exact shut_leaves ds defs μ _ h2 _ r1 hT hA hds hs hr fun w' v' f hv => hK w' v' (Fin.trans ⟨r1, r2, hT, fun _ _ h => h, Nat.le_refl _⟩ f) hv
    · cases hs

theorem callFA_ok (hS : SelfOk P S) {f : FuncId} {args : Array Value} {v : Value} (hv : callFA P S f args h = some (v, h')) :
    (∃ fn c, P.funcs[f]? = some fn ∧ fn.body = some c ∧ fn.name ≠ "runtime.NumGoroutine") ∧
    ∀ μ w (args' : Array Value) R, Rel P μ h w → Top μ h → VsRel μ args.toList args'.toList →
    (∀ μ' w' v', Fin P μ h w μ' h' w' → VRel μ' v v' → R (.returned v') w') → CallsIn Fence.wide 0 P f args' w R := by
  unfold callFA at hv
  split at hv
  case h_2 => cases hv
  rename_i fn hf
  split at hv
  case h_2 => cases hv
  rename_i c hb
  split at hv
  · cases hv
  rename_i hn
  split at hv
  case isFalse => cases hv
  rename_i hsz
  refine ⟨⟨fn, c, hf, hb, hn⟩, fun μ w args' R hR hT ha hK => ?_⟩
  refine callsIn_of_wp_marks hf hb trivial ?_
  have key : ∀ out a h1, S.code none c ⟨argsEnv args.toList 0 .leaf, fn.ntmps, []⟩ h = some (out, a, h1) → out = .normal ∨ out = .ret →
      ((shutA a.marks h1).bind fun h2 => (resultsA P fn a.env h2).map (·, h2)) = some (v, h') →
      c.wpIn Fence.wide 0 P (bodyPostM Fence.wide 0 P fn R) { tmps := args' ++ Array.replicate (fn.ntmps - args'.size) undef, defers := [] } w := fun out a h1 hc ho hv => by
    obtain ⟨h2, hsh, hv⟩ := Option.bind_eq_some_iff.1 hv
    simp only [Option.map_eq_some_iff, Prod.mk.injEq] at hv
    obtain ⟨v1, hv1, rfl, rfl⟩ := hv
    refine hS.code _ _ _ _ _ _ _ hc Fence.wide μ w _ _ rfl hR hT ⟨args_tmps ha hsz, .nil⟩ fun μ1 w1 act1 f1 r1 => ?_
    have hL := shut_leaves (R := R) (fn := fn) (a := a) a.marks act1.defers μ1 h1 h2 w1 f1.rel f1.top r1.tmps r1.defs hsh hv1 fun w' v' f2 hvr => hK μ1 w' v' (f1.trans f2) hvr
    rcases ho with rfl | rfl
    · exact hL
    · exact hL
  split at hv
  · rename_i a h1 hc; exact key _ a h1 hc (.inl rfl) hv
  · rename_i a h1 hc; exact key _ a h1 hc (.inr rfl) hv
  · cases hv

end
end Go.Ev

/- Loops over functions; code; the evaluator is sound. -/
namespace Go.Ev

section
variable {P : Program} {S : Self} {μ : Mu} {h h' : AHeap} {w : World}

theorem new_ok {b : Nat} {o : AObj} (hn : h.new b o = some h') : h' = h.put b o := by
  unfold AHeap.new at hn
  split at hn
  · exact (Option.some.inj hn).symm
  · cases hn

/-- Into a loop over a function. -/
theorem enter_ok {rd : Option Nat} {F : Fence} (hF : FOk μ rd F) (hR : Rel P μ h w) (hT : Top μ h) {a : AAct} {act : Act} (hA : ARel μ a act) {ps : Array Tmp} {assign body : Code} {D : Nat} {h1 h2 : AHeap} {marks : List Nat}
    (he : enterA rd h a.marks = some (D, h1, marks)) (hn : h1.new h.next (.loop { state := .ready, pending := none, env := a.env, n := a.n, params := ps, assign, body, defers := D }) = some h2) (fn : FuncId) :
    ∃ (i : Img) (mark : List Deferred) (w1 : World) (μ2 : Mu), (Instr.enterLoop fn act.tmps ps assign body F.round).run P w = .ok (i.blk, mark) w1 ∧ μ2 h.next = some i ∧ Fin P μ h w μ2 h2 w1 ∧ DefRel μ2 marks (mark ++ act.defers) := by
  unfold enterA at he
  split at he
  · cases hF
    simp only [Option.map_eq_some_iff, Prod.mk.injEq] at he
    obtain ⟨g1, hg1, rfl, rfl, rfl⟩ := he
    have e1 := new_ok hg1
    obtain ⟨r1, s1⟩ := hR.grow (hT (h.next + 1) (by omega)) (i := { blk := w.heap.size, d := 0, lim := 0, sz := 0, exact := true }) (w' := w.alloc (.deferred (some []))) hg1 (Nat.le_refl _)
      (World.alloc_heap_new w _) (by simp) rfl rfl rfl (fun k hk => heap_alloc_old w _ hk)
    have r1' := r1.next (h.next + 2)
    have hfree : μ.add (h.next + 1) { blk := w.heap.size, d := 0, lim := 0, sz := 0, exact := true } h.next = none := by
      unfold Mu.add; rw [if_neg (by omega)]; exact hT _ (Nat.le_refl _)
    have hle1 : μ.le (μ.add (h.next + 1) { blk := w.heap.size, d := 0, lim := 0, sz := 0, exact := true }) := s1.le
    have hle2 := Mu.le_add (μ := μ.add (h.next + 1) { blk := w.heap.size, d := 0, lim := 0, sz := 0, exact := true }) (b := h.next) { blk := w.heap.size + 1, d := 0, lim := 0, sz := 0, exact := true } hfree
    obtain ⟨r2, s2⟩ := r1'.grow hfree (i := { blk := w.heap.size + 1, d := 0, lim := 0, sz := 0, exact := true })
      (w' := (w.alloc (.deferred (some []))).alloc (.loop { state := .ready, pending := none, fn, tmps := act.tmps, params := ps, assign, body, defers := w.heap.size })) hn (by simp)
      ⟨_, (by have := World.alloc_heap_new (w.alloc (.deferred (some []))) (.loop { state := .ready, pending := none, fn, tmps := act.tmps, params := ps, assign, body, defers := w.heap.size }); rwa [World.size_alloc] at this), rfl, rfl, rfl, rfl, rfl,
        (hA.tmps.mono hle1).mono hle2, { blk := w.heap.size, d := 0, lim := 0, sz := 0, exact := true }, hle2 _ _ (Mu.add_self _ _ _), rfl⟩
      (by simp) rfl rfl rfl (fun k hk => heap_alloc_old _ _ hk)
    have e2 := new_ok hn
    refine ⟨_, _, _, _, run_enterLoop_outer fn act.tmps ps assign body, Mu.add_self _ _ _, ⟨r2, (s1.trans (Ste.next _ _ _ _)).trans s2, fun b hb => ?_, fun b hb h0 => ?_, ?_⟩, .cons (hle2 _ _ (Mu.add_self _ _ _)) ((hA.defs.mono hle1).mono hle2)⟩
    · rw [e2] at hb
      simp only [AHeap.next_put] at hb
      unfold Mu.add
      rw [if_neg (by omega), if_neg (by omega)]
      exact hT b (by omega)
    · unfold Mu.add
      rw [if_neg (by omega), if_neg (by omega)]
      exact h0
    · rw [e2]; simp
  · rename_i l0
    obtain ⟨i0, hi0, rfl⟩ := hF
    split at he
    case h_2 => cases he
    rename_i L0 hL0
    simp only [Option.some.injEq, Prod.mk.injEq] at he
    obtain ⟨rfl, rfl, rfl⟩ := he
    obtain ⟨r0, k1, k2, k3, k4, k5, k6, k7, ⟨j, hj, hjd⟩, _⟩ := loop_turn hR hT hL0 hi0 .ready none
    have hfree := hT h.next (Nat.le_refl _)
    have hle2 := Mu.le_add (μ := μ) (b := h.next) { blk := w.heap.size, d := 0, lim := 0, sz := 0, exact := true } hfree
    obtain ⟨r2, s2⟩ := (hR.next (h.next + 1)).grow hfree (i := { blk := w.heap.size, d := 0, lim := 0, sz := 0, exact := true })
      (w' := w.alloc (.loop { state := .ready, pending := none, fn, tmps := act.tmps, params := ps, assign, body, defers := r0.defers })) hn (Nat.le_refl _)
      ⟨_, World.alloc_heap_new w _, rfl, rfl, rfl, rfl, rfl, hA.tmps.mono hle2, j, hle2 _ _ hj, hjd⟩
      (by simp) rfl rfl rfl (fun k hk => heap_alloc_old _ _ hk)
    have e2 := new_ok hn
    refine ⟨_, [], _, _, run_enterLoop_inner k1 fn act.tmps ps assign body, Mu.add_self _ _ _, ⟨r2, (Ste.next _ _ _ _).trans s2, fun b hb => ?_, fun b hb h0 => ?_, ?_⟩, hA.defs.mono hle2⟩
    · rw [e2] at hb
      simp only [AHeap.next_put] at hb
      unfold Mu.add
      rw [if_neg (by omega)]
      exact hT b (by omega)
    · unfold Mu.add
      rw [if_neg (by omega)]
      exact h0
    · rw [e2]; simp

theorem rangeA_ok (hS : SelfOk P S) {rd : Option Nat} {g : Operand} {ps : Array Tmp} {assign body : Code} {a a' : AAct} {out : Out} (hv : rangeA P S rd g ps assign body a h = some (out, a', h')) :
    CodeOk P rd a h out a' h' (fun F => (Code.rangeFunc g ps assign body).wpIn F 0 P) := by
  intro F μ w act Q hF hR hT hA hQ
  unfold rangeA at hv
  split at hv
  case h_2 => cases hv
  rename_i f first captured hg
  have hg' := evalO_ok hR hA.tmps hg
  generalize hge : act.eval g = g' at hg'
  cases hg' with
  | @func _ _ first' _ captured' hfi hca =>
  split at hv
  case h_2 => cases hv
  rename_i D h1 marks he
  split at hv
  · cases hv
  rename_i h2 hn
  split at hv
  case h_2 => cases hv
  rename_i v3 h3 hc
  obtain ⟨⟨fn, c, hf, hb, hnm⟩, hcall⟩ := hS.call _ _ _ _ _ hc
  split at hv
  case h_2 => cases hv
  rename_i L hL
  split at hv
  · cases hv
  rename_i hbusy
  refine wpIn_rangeFunc fun fn0 _ => ?_
  obtain ⟨i, mark, w1, μ2, henter, hi, f2, hdef⟩ := enter_ok hF hR hT hA he hn fn0
  have hva : VsRel μ2 (first ++ #[Value.func (.yield h.next) #[] #[]] ++ captured).toList (first' ++ #[Value.func (.yield i.blk) #[] #[]] ++ captured').toList :=
    ((VsRel.mono f2.ste.le hfi).appendA (.cons (.yield hi .nil .nil) .nil)).appendA (VsRel.mono f2.ste.le hca)
  refine ⟨i.blk, mark, w1, { target := .fn (.func f) captured', args := first' ++ #[.func (.yield i.blk) #[] #[]] }, w1, f, first' ++ #[.func (.yield i.blk) #[] #[]] ++ captured', w1, henter, ?_, fun f' _ => hF.fn f', ?_, fun hd => hF.depth hd, ?_⟩
  · simp only [resolve, hge]
    simp [go_sem, Deferred.ofValue]
  · simp [invoke, run_callFunc hf hb hnm]
  · have hc' := hcall μ2 w1 (first' ++ #[.func (.yield i.blk) #[] #[]] ++ captured') (rangePost F 0 P i.blk Q { act with defers := mark ++ act.defers }) f2.rel f2.top hva (fun μ3 w3 v' f3 hvr => by
      have hi3 := f3.ste.le _ _ hi
      obtain ⟨r, k1, k2, k3, k4, k5, k6, k7, _, f4⟩ := loop_turn f3.rel f3.top hL hi3 .exhausted L.pending
      have hend := run_endLoop (P := P) k1 (by rw [k2]; exact hbusy)
      rw [k3] at hend
      have hA3 : ARel μ3 { a with marks := marks } { act with defers := mark ++ act.defers } :=
        ⟨(hA.tmps.mono f2.ste.le).mono f3.ste.le, hdef.mono f3.ste.le⟩
      refine ⟨_, _, hend, ?_⟩
      split at hv
      · rename_i hp
        cases hv
        rw [hp] at f4 ⊢
        have e2 : (h3.put h.next (.loop { L with state := .exhausted })) = h3.put h.next (.loop { L with state := .exhausted, pending := none }) := by rw [← hp]
        exact hQ μ3 _ _ (by rw [e2]; exact (f2.trans f3).trans f4) hA3
      · rename_i cc hp
        rw [hp] at f4 ⊢
        have e2 : (h3.put h.next (.loop { L with state := .exhausted })) = h3.put h.next (.loop { L with state := .exhausted, pending := some cc }) := by rw [← hp]
        rw [e2] at hv
        exact hS.code _ _ _ _ _ _ _ hv F μ3 _ _ Q ((hF.mono f2.ste.le).mono f3.ste.le) f4.rel f4.top hA3 fun μ5 w5 act5 f5 r5 => hQ μ5 w5 act5 (((f2.trans f3).trans f4).trans f5) r5)
    cases rd with
    | none => cases hF; exact hc'
    | some l0 => obtain ⟨i0, _, e0⟩ := hF; subst e0; exact hc'

theorem codeA_ok (hD : DrawLaw P) (hS : SelfOk P S) {rd : Option Nat} {c : Code} {a a' : AAct} {out : Out} (hv : codeA P S rd c a h = some (out, a', h')) :
    CodeOk P rd a h out a' h' (fun F => c.wpIn F 0 P) := by
  intro F μ w act Q hF hR hT hA hQ
  unfold codeA at hv
  split at hv
  · cases hv; exact wpIn_skip (hQ μ w act (Fin.refl hR hT) hA)
  · cases hv; exact wpIn_label (hQ μ w act (Fin.refl hR hT) hA)
  · cases hv; exact wpIn_ret (hQ μ w act (Fin.refl hR hT) hA)
  · cases hv; exact wpIn_exit (hQ μ w act (Fin.refl hR hT) hA)
  · cases hv; exact wpIn_goto (hQ μ w act (Fin.refl hR hT) hA)
  · -- seq
    rename_i x y
    refine wpIn_seq ?_
    unfold thenA at hv
    split at hv
    · rename_i a1 h1 hc1
      exact hS.code _ _ _ _ _ _ _ hc1 F μ w act _ hF hR hT hA fun μ1 w1 act1 f1 r1 =>
        hS.code _ _ _ _ _ _ _ hv F μ1 w1 act1 Q (hF.mono f1.ste.le) f1.rel f1.top r1 fun μ2 w2 act2 f2 r2 => hQ μ2 w2 act2 (f1.trans f2) r2
    · rename_i hne
      refine hS.code _ _ _ _ _ _ _ hv F μ w act _ hF hR hT hA fun μ1 w1 act1 f1 r1 => ?_
      have := hQ μ1 w1 act1 f1 r1
      cases out with
      | normal => exact (hne _ _ hv).elim
      | _ => exact this
  · -- cond
    rename_i o x y
    split at hv
    · rename_i ho
      have ho' := evalO_ok hR hA.tmps ho
      generalize hge : act.eval o = g' at ho'
      cases ho'
      exact wpIn_cond_true hge (hS.code _ _ _ _ _ _ _ hv F μ w act Q hF hR hT hA hQ)
    · rename_i ho
      have ho' := evalO_ok hR hA.tmps ho
      generalize hge : act.eval o = g' at ho'
      cases ho'
      exact wpIn_cond_false hge (hS.code _ _ _ _ _ _ _ hv F μ w act Q hF hR hT hA hQ)
    · cases hv
  · -- block
    rename_i id x
    refine wpIn_block ?_
    split at hv
    · rename_i id' a1 h1 hc1
      refine hS.code _ _ _ _ _ _ _ hc1 F μ w act _ hF hR hT hA fun μ1 w1 act1 f1 r1 => ?_
      simp only [exitOf, Exit.inBlock]
      split at hv
      · rename_i e; cases hv; rw [if_pos e]; exact hQ μ1 w1 act1 f1 r1
      · rename_i e; cases hv; rw [if_neg e]; exact hQ μ1 w1 act1 f1 r1
    · rename_i hne
      refine hS.code _ _ _ _ _ _ _ hv F μ w act _ hF hR hT hA fun μ1 w1 act1 f1 r1 => ?_
      have := hQ μ1 w1 act1 f1 r1
      cases out with
      | exit id' => exact (hne _ _ _ hv).elim
      | _ => exact this
  · -- loop
    rename_i x
    exact runs_wp (runs_step (its' := [.code x, .inLoop x]) hF.fn hF.room (fun b k => rfl) (fun b k cs => stepR_loop) (hS.loop _ _ _ _ _ _ _ hv F μ w act Q hF hR hT hA hQ))
  · -- scope
    rename_i x
    exact runs_wp (runs_step (its' := [.code x, .inScope x]) hF.fn hF.room (fun b k => rfl) (fun b k cs => stepR_scope) (hS.scope _ _ _ _ _ _ _ _ hv F μ w act Q hF hR hT hA hQ))
  · -- region
    rename_i id ops draw
    simp only [Option.map_eq_some_iff, Prod.mk.injEq] at hv
    obtain ⟨⟨a1, h1⟩, hv, rfl, rfl, rfl⟩ := hv
    cases draw with
    | false =>
      unfold regionA at hv
      simp only [Bool.false_eq_true, if_false] at hv
      exact region_wpIn hS hF hR hT hA hv hQ
    | true => exact hD S hS hF hR hT hA hv hQ
  · -- a loop over a function
    exact rangeA_ok hS hv F μ w act Q hF hR hT hA hQ
  · cases hv

theorem stepS_ok (hD : DrawLaw P) (hS : SelfOk P S) : SelfOk P (stepS P S) :=
  ⟨fun _ _ _ _ _ _ _ hv => codeA_ok hD hS hv, fun _ _ _ _ _ _ _ _ hv => scopeA_ok hS hv, fun _ _ _ _ _ _ _ hv => loopA_ok hS hv, fun _ _ _ _ _ hv => callFA_ok hS hv⟩

theorem ev_ok (hD : DrawLaw P) : ∀ k, SelfOk P (ev P k)
  | 0 => by
    refine ⟨?_, ?_, ?_, ?_⟩
    · intro _ _ _ _ _ _ _ hv; cases hv
    · intro _ _ _ _ _ _ _ _ hv; cases hv
    · intro _ _ _ _ _ _ _ hv; cases hv
    · intro _ _ _ _ _ hv; cases hv
  | k + 1 => stepS_ok hD (ev_ok hD k)

end
end Go.Ev

/- The order that the evaluator takes in a region whose order is drawn: what is checked of it, and what an operation depends on. -/
namespace Go.Ev

/-! ### Who stands behind whom -/

inductive Reach (ops : Array Oper) : Nat → Nat → Prop where
  | edge {i : Nat} {o : Oper} {e : Edge} (ho : ops[i]? = some o) (he : e ∈ o.after) (hb : Region.binds .any e = true) : Reach ops i e.on
  | tail {i j k : Nat} (h : Reach ops i j) (h' : Reach ops j k) : Reach ops i k

def Closed (ops : Array Oper) (D : Nat → Prop) : Prop := ∀ i o, D i → ops[i]? = some o → ∀ e ∈ o.after, Region.binds .any e = true → D e.on

theorem Reach.closed {ops : Array Oper} {D : Nat → Prop} (hD : Closed ops D) {i k : Nat} (h : Reach ops i k) (hi : D i) : D k := by
  induction h with
  | edge ho he hb => exact hD _ _ hi ho _ he hb
  | tail _ _ ih ih' => exact ih' (ih hi)

/-- What stands ahead of an operation whose edges have been met has been done. -/
theorem Reach.met {ops : Array Oper} {D : Nat → Prop} (hD : Closed ops D) {i k : Nat} (h : Reach ops i k) (hi : ∀ o, ops[i]? = some o → ∀ e ∈ o.after, Region.binds .any e = true → D e.on) : D k := by
  induction h with
  | edge ho he hb => exact hi _ ho _ he hb
  | tail _ h' ih _ => exact h'.closed hD (ih hi)

theorem maskOf_bit {ms : List Nat} {o : Oper} {k : Nat} (h : (maskOf ms o).testBit k = true) : ∃ e ∈ o.after, Region.binds .any e = true ∧ (k = e.on ∨ (ms.getD e.on 0).testBit k = true) := by
  unfold maskOf at h
  have key : ∀ (l : List Edge) (acc : Nat), (l.foldl (fun acc e => if Region.binds .any e then acc ||| (2 ^ e.on ||| ms.getD e.on 0) else acc) acc).testBit k = true →
      acc.testBit k = true ∨ ∃ e ∈ l, Region.binds .any e = true ∧ (k = e.on ∨ (ms.getD e.on 0).testBit k = true) := by
    intro l
    induction l with
    | nil => intro acc h; exact .inl h
    | cons e l ih =>
      intro acc h
      simp only [List.foldl_cons] at h
      rcases ih _ h with h1 | ⟨e', he', hb, hk⟩
      · split at h1
        · rename_i hb
          rw [Nat.testBit_or, Nat.testBit_or] at h1
          simp only [Bool.or_eq_true] at h1
          rcases h1 with h1 | h1 | h1
          · exact .inl h1
          · rw [Nat.testBit_two_pow] at h1
            exact .inr ⟨e, by simp, hb, .inl (by simpa using Eq.symm (of_decide_eq_true h1))⟩
          · exact .inr ⟨e, by simp, hb, .inr h1⟩
        · exact .inl h1
      · exact .inr ⟨e', by simp [he'], hb, hk⟩
  rcases key _ _ h with h0 | ⟨e, he, h1⟩
  · simp at h0
  · exact ⟨e, by simpa using he, h1⟩

theorem masksGo_reach {ops : Array Oper} : ∀ (os : List Oper) (ms : List Nat), (∀ j o, os[j]? = some o → ops[ms.length + j]? = some o) → (∀ i k, (ms.getD i 0).testBit k = true → Reach ops i k) →
    ∀ i k, ((masksGo os ms).getD i 0).testBit k = true → Reach ops i k
  | [], ms, _, hm => hm
  | o :: os, ms, ho, hm => by
    simp only [masksGo]
    refine masksGo_reach os _ (fun j o' hj => ?_) fun i k hk => ?_
    · have := ho (j + 1) o' (by simpa using hj)
      simp only [List.length_append, List.length_cons, List.length_nil]
      rw [show ms.length + (0 + 1) + j = ms.length + (j + 1) from by omega]; exact this
    · rw [List.getD_eq_getElem?_getD] at hk
      by_cases h1 : i < ms.length
      · rw [List.getElem?_append_left h1] at hk
        exact hm i k (by rw [List.getD_eq_getElem?_getD]; exact hk)
      · by_cases h2 : i = ms.length
        · subst h2
          simp at hk
          obtain ⟨e, he, hb, h⟩ := maskOf_bit hk
          have hoo := ho 0 o rfl
          rcases h with rfl | h
          · exact .edge hoo he hb
          · exact .tail (.edge hoo he hb) (hm _ _ h)
        · rw [List.getElem?_eq_none (by simp; omega)] at hk
          simp at hk

theorem masks_reach {ops : Array Oper} {i k : Nat} (h : bit (masks ops) i k = true) : Reach ops i k :=
  masksGo_reach ops.toList [] (fun j o hj => by simpa using hj) (fun i k hk => by simp at hk) i k h

/-! ### What is checked of the order -/

def idx (l : List (Nat × Nat)) : List Nat := l.map (·.1)

structure Spot (ops : Array Oper) (pre : List Nat) (es : List Nat) (i m : Nat) (o : Oper) : Prop where
  op : ops[i]? = some o
  new : i ∉ pre
  edges : ∀ e ∈ o.after, Region.binds .any e = true → e.on ∈ pre
  eff : isEff o.op = true → ∀ j ∈ pre, Reach ops i j
  calm : isEff o.op = false → ∀ j ∈ es.take (es.length + 1 - m), Reach ops i j
  pos : isEff o.op = false → 1 ≤ m

/-- An order that has been checked, from some place in it on. -/
inductive Fine (ops : Array Oper) : List Nat → List Nat → List (Nat × Nat) → Prop where
  | nil {pre es : List Nat} : Fine ops pre es []
  | cons {pre es : List Nat} {i m : Nat} {o : Oper} {rest : List (Nat × Nat)} (h : Spot ops pre es i m o) (hs : Fine ops (i :: pre) (if isEff o.op then es ++ [i] else es) rest) : Fine ops pre es ((i, m) :: rest)

theorem prefOk_fine {ops : Array Oper} : ∀ (pl : List (Nat × Nat)) (pre es : List Nat), prefOk ops (masks ops) pre es pl = true → Fine ops pre es pl
  | [], _, _, _ => .nil
  | (i, m) :: rest, pre, es, h => by
    simp only [prefOk] at h
    split at h
    · cases h
    · rename_i o ho
      simp only [Bool.and_eq_true, Bool.not_eq_true', List.all_eq_true, Bool.or_eq_true, List.contains_eq_mem, decide_eq_false_iff_not, decide_eq_true_eq] at h
      obtain ⟨⟨⟨h1, h2⟩, h3⟩, h4⟩ := h
      refine .cons ⟨ho, h1, fun e he hb => ?_, fun hf j hj => ?_, fun hf j hj => ?_, fun hf => ?_⟩ (prefOk_fine rest _ _ h4)
      · rcases h2 e (by simpa using he) with h | h
        · rw [hb] at h; cases h
        · exact h
      · rw [if_pos hf, List.all_eq_true] at h3
        exact masks_reach (h3 j hj)
      · rw [if_neg (by rw [hf]; simp), Bool.and_eq_true, List.all_eq_true] at h3
        exact masks_reach (h3.2 j hj)
      · rw [if_neg (by rw [hf]; simp), Bool.and_eq_true] at h3
        exact Nat.le_of_ble_eq_true h3.1

structure PlanFacts (ops : Array Oper) (pl : List (Nat × Nat)) : Prop where
  fine : Fine ops [] [] pl
  all : ∀ i, i < ops.size → i ∈ idx pl
  uniq : ∀ (i k : Nat) (oi ok : Oper) (d : Tmp), i ≠ k → ops[i]? = some oi → ops[k]? = some ok → ok.dst = some d → oi.dst ≠ some d
  slots : ∀ (i k : Nat) (oi ok : Oper) (d : Tmp), i ≠ k → ops[i]? = some oi → ops[k]? = some ok → ok.dst = some d → d ∈ readsT ops oi → Reach ops i k ∨ Reach ops k i

theorem planOf_facts {ops : Array Oper} {pl : List (Nat × Nat)} (h : planOf ops = some pl) : PlanFacts ops pl := by
  unfold planOf at h
  simp only at h
  split at h
  case isFalse => cases h
  rename_i hok
  rw [Option.some.injEq] at h
  rw [h] at hok
  unfold planOk at hok
  simp only [Bool.and_eq_true] at hok
  obtain ⟨⟨h1, h2⟩, h3⟩ := hok
  have hs : ∀ (i k : Nat) (oi ok : Oper) (d : Tmp), i ≠ k → ops[i]? = some oi → ops[k]? = some ok → ok.dst = some d → oi.dst ≠ some d ∧ (d ∈ readsT ops oi → Reach ops i k ∨ Reach ops k i) := fun i k oi ok d hne hi hk hd => by
    unfold slotsOk at h2
    have hil : i < ops.size := (Array.getElem?_eq_some_iff.1 hi).1
    have hkl : k < ops.size := (Array.getElem?_eq_some_iff.1 hk).1
    have := List.all_eq_true.1 (List.all_eq_true.1 h2 i (by simpa using hil)) k (by simpa using hkl)
    rw [hi, hk] at this
    simp only [hd, Bool.or_eq_true, Bool.and_eq_true, beq_iff_eq, bne_iff_ne, ne_eq, Bool.not_eq_true', List.contains_eq_mem, decide_eq_false_iff_not] at this
    rcases this with h | ⟨h4, h5⟩
    · exact (hne h).elim
    · refine ⟨h4, fun hm => ?_⟩
      rcases h5 with (h5 | h5) | h5
      · exact (h5 hm).elim
      · exact .inl (masks_reach h5)
      · exact .inr (masks_reach h5)
  refine ⟨prefOk_fine _ _ _ h1, fun i hi => ?_, fun i k oi ok d a b c e => (hs i k oi ok d a b c e).1, fun i k oi ok d a b c e => (hs i k oi ok d a b c e).2⟩
  have := List.all_eq_true.1 h3 i (by simpa using hi)
  simpa [idx, List.contains_eq_mem] using this

end Go.Ev
