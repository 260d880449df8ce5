/- The evaluator with answers laid by hand; more fuel keeps the answer. -/
import Derived.Test.YtfickkmgbecamaaGreatDoorEv4
import Derived.Below
namespace Go.Ev

/-- What a call owes. -/
def CallOk (P : Program) (f : FuncId) (args : Array Value) (h : AHeap) (v : Value) (h' : AHeap) : Prop :=
  (∃ fn c, P.funcs[f]? = some fn ∧ fn.body = some c ∧ fn.name ≠ "runtime.NumGoroutine") ∧
    ∀ μ w (args' : Array Value) R, Rel P μ h w → Top μ h → VsRel μ args.toList args'.toList →
    (∀ μ' w' v', Fin P μ h w μ' h' w' → VRel μ' v v' → R (.returned v') w') → CallsIn Fence.wide 0 P f args' w R

abbrev Oracle := FuncId → Array Value → AHeap → Option (Value × AHeap)

def OracleOk (P : Program) (O : Oracle) : Prop := ∀ f args h v h', O f args h = some (v, h') → CallOk P f args h v h'

def evO (P : Program) (O : Oracle) : Nat → Self
  | 0 => { code := fun _ _ _ _ => none, scope := fun _ _ _ _ _ => none, loop := fun _ _ _ _ => none, call := O }
  | k + 1 => { stepS P (evO P O k) with call := fun f args h => match O f args h with | some r => some r | none => callFA P (evO P O k) f args h }

theorem evO_ok {P : Program} {O : Oracle} (hO : OracleOk P O) : ∀ k, SelfOk P (evO P O k)
  | 0 => by
    refine ⟨?_, ?_, ?_, ?_⟩
    · intro _ _ _ _ _ _ _ hv; cases hv
    · intro _ _ _ _ _ _ _ _ hv; cases hv
    · intro _ _ _ _ _ _ _ hv; cases hv
    · intro f args h v h' hv; exact hO f args h v h' hv
  | k + 1 => by
    have hS := stepS_ok (drawLaw P) (evO_ok hO k)
    refine ⟨hS.code, hS.scope, hS.loop, fun f args h v h' hv => ?_⟩
    simp only [evO] at hv
    split at hv
    · rename_i r hr
      cases hv
      exact hO f args h v h' hr
    · exact hS.call f args h v h' hv

structure Self.le (S S' : Self) : Prop where
  code : ∀ rd c a h r, S.code rd c a h = some r → S'.code rd c a h = some r
  scope : ∀ rd b c a h r, S.scope rd b c a h = some r → S'.scope rd b c a h = some r
  loop : ∀ rd c a h r, S.loop rd c a h = some r → S'.loop rd c a h = some r
  call : ∀ f args h r, S.call f args h = some r → S'.call f args h = some r

section
variable {P : Program} {S S' : Self}

theorem thenA_mono {r r' : Option (Out × AAct × AHeap)} {k k' : AAct → AHeap → Option (Out × AAct × AHeap)} {x : Out × AAct × AHeap} (hr : ∀ y, r = some y → r' = some y) (hk : ∀ a h y, k a h = some y → k' a h = some y) (hx : thenA r k = some x) : thenA r' k' = some x := by
  unfold thenA at hx ⊢
  split at hx
  · rename_i a h
    rw [hr _ rfl]
    exact hk _ _ _ hx
  · rename_i hne
    rw [hr _ hx]
    obtain ⟨o, a, h⟩ := x
    cases o with
    | normal => exact (hne a h hx).elim
    | _ => rfl

theorem roundA_mono (hS : S.le S') {l : Nat} {args : Array Value} {h : AHeap} {r : Value × AHeap} (hr : roundA S l args h = some r) : roundA S' l args h = some r := by
  unfold roundA at hr ⊢
  split at hr
  case h_2 => cases hr
  rename_i L hL
  split at hr
  case h_2 => cases hr
  rename_i e he
  split at hr
  case h_2 => cases hr
  rename_i a1 h1 hc
  simp only [hS.code _ _ _ _ _ hc]
  split at hr
  case h_2 => cases hr
  rename_i L1 hL1
  split at hr
  case isFalse => cases hr
  rename_i hcond
  rw [if_pos hcond]
  split at hr
  case h_2 => cases hr
  rename_i out a2 h3 hc2
  rw [hS.code _ _ _ _ _ hc2]
  exact hr

theorem callA_mono (hS : S.le S') {f : Value} {args : Array Value} {h : AHeap} {r : Value × AHeap} (hr : callA S f args h = some r) : callA S' f args h = some r := by
  unfold callA at hr ⊢
  split at hr
  · exact hS.call _ _ _ _ hr
  · split at hr
    · rename_i hc; rw [if_pos hc]; exact roundA_mono hS hr
    · cases hr
  · cases hr

theorem operA_mono (hS : S.le S') {id : Nat} {e : Tr Value} {h : AHeap} {o : Oper} {r : Value × AHeap} (hr : operA P S id e h o = some r) : operA P S' id e h o = some r := by
  unfold operA at hr ⊢
  split at hr
  · obtain ⟨g, hg, hr⟩ := Option.bind_eq_some_iff.1 hr
    obtain ⟨vs, hvs, hr⟩ := Option.bind_eq_some_iff.1 hr
    simp only [hg, hvs, Option.bind_some]
    exact callA_mono hS hr
  · exact hr

theorem stepA_mono (hS : S.le S') {base i : Nat} {ops : Array Oper} {a : AAct} {h : AHeap} {r : AAct × AHeap} (hr : stepA P S base ops i a h = some r) : stepA P S' base ops i a h = some r := by
  unfold stepA at hr ⊢
  split at hr
  · cases hr
  split at hr
  · rename_i hw
    obtain ⟨x, hx, hr⟩ := Option.bind_eq_some_iff.1 hr
    simp only [operA_mono hS hx, Option.bind_some]
    exact hr
  · exact hr
  · cases hr

theorem opsA_mono (hS : S.le S') {base : Nat} {ops : Array Oper} : ∀ {l : List Nat} {a : AAct} {h : AHeap} {r : AAct × AHeap}, opsA P S base ops l a h = some r → opsA P S' base ops l a h = some r
  | [], _, _, _, hr => hr
  | i :: l, a, h, r, hr => by
    simp only [opsA] at hr ⊢
    split at hr
    · rename_i a' h' hs
      rw [stepA_mono hS hs]
      exact opsA_mono hS hr
    · cases hr

theorem planA_mono (hS : S.le S') {base : Nat} {ops : Array Oper} : ∀ {pl : List (Nat × Nat)} {sn : List AHeap} {a : AAct} {h : AHeap} {r : AAct × AHeap}, planA P S base ops pl sn a h = some r → planA P S' base ops pl sn a h = some r
  | [], _, _, _, _, hr => hr
  | (i, m) :: l, sn, a, h, r, hr => by
    simp only [planA] at hr ⊢
    split at hr
    · cases hr
    split at hr
    · cases hr
    rename_i a' h' hs
    rw [stepA_mono hS hs]
    simp only
    split at hr
    · rename_i he
      rw [if_pos he]
      split at hr
      · rename_i hl; rw [if_pos hl]; exact planA_mono hS hr
      · cases hr
    · rename_i he
      rw [if_neg he]
      split at hr
      · rename_i hl; rw [if_pos hl]; exact planA_mono hS hr
      · cases hr

theorem regionA_mono (hS : S.le S') {ops : Array Oper} {draw : Bool} {a : AAct} {h : AHeap} {r : AAct × AHeap} (hr : regionA P S ops draw a h = some r) : regionA P S' ops draw a h = some r := by
  unfold regionA at hr ⊢
  simp only at hr ⊢
  split at hr
  · rename_i hd
    rw [if_pos hd]
    split at hr
    · split at hr
      · rename_i hm; rw [if_pos hm]; exact planA_mono hS hr
      · cases hr
    · cases hr
  · rename_i hd
    rw [if_neg hd]
    exact opsA_mono hS hr

theorem rangeA_mono (hS : S.le S') {rd : Option Nat} {g : Operand} {ps : Array Tmp} {assign body : Code} {a : AAct} {h : AHeap} {r : Out × AAct × AHeap} (hr : rangeA P S rd g ps assign body a h = some r) : rangeA P S' rd g ps assign body a h = some r := by
  unfold rangeA at hr ⊢
  split at hr
  case h_2 => cases hr
  split at hr
  case h_2 => cases hr
  split at hr
  · cases hr
  simp only
  split at hr
  case h_2 => cases hr
  rename_i v h3 hc
  rw [hS.call _ _ _ _ hc]
  simp only
  split at hr
  case h_2 => cases hr
  split at hr
  · cases hr
  rename_i hb
  rw [if_neg hb]
  simp only at hr ⊢
  split at hr
  · exact hr
  · exact hS.code _ _ _ _ _ hr

theorem callFA_mono (hS : S.le S') {f : FuncId} {args : Array Value} {h : AHeap} {r : Value × AHeap} (hr : callFA P S f args h = some r) : callFA P S' f args h = some r := by
  unfold callFA at hr ⊢
  split at hr
  case h_2 => cases hr
  split at hr
  case h_2 => cases hr
  split at hr
  · cases hr
  rename_i hn
  rw [if_neg hn]
  split at hr
  case isFalse => cases hr
  rename_i hs
  rw [if_pos hs]
  split at hr
  · rename_i hc; rw [hS.code _ _ _ _ _ hc]; exact hr
  · rename_i hc; rw [hS.code _ _ _ _ _ hc]; exact hr
  · cases hr

theorem codeA_mono (hS : S.le S') {rd : Option Nat} {c : Code} {a : AAct} {h : AHeap} {r : Out × AAct × AHeap} (hr : codeA P S rd c a h = some r) : codeA P S' rd c a h = some r := by
  unfold codeA at hr ⊢
  split at hr
  · exact hr
  · exact hr
  · exact hr
  · exact hr
  · exact hr
  · exact thenA_mono (fun y hy => hS.code _ _ _ _ _ hy) (fun a h y hy => hS.code _ _ _ _ _ hy) hr
  · split at hr
    · exact hS.code _ _ _ _ _ hr
    · exact hS.code _ _ _ _ _ hr
    · cases hr
  · split at hr
    · rename_i id' a' h' hc
      rw [hS.code _ _ _ _ _ hc]
      exact hr
    · rename_i hne
      rw [hS.code _ _ _ _ _ hr]
      obtain ⟨o, a', h'⟩ := r
      cases o with
      | exit id => exact (hne _ _ _ hr).elim
      | _ => rfl
  · exact hS.loop _ _ _ _ _ hr
  · exact hS.scope _ _ _ _ _ _ hr
  · simp only [Option.map_eq_some_iff] at hr ⊢
    obtain ⟨x, hx, hr⟩ := hr
    exact ⟨x, regionA_mono hS hx, hr⟩
  · exact rangeA_mono hS hr
  · cases hr

theorem scopeA_mono (hS : S.le S') {rd : Option Nat} {body c : Code} {a : AAct} {h : AHeap} {r : Out × AAct × AHeap} (hr : scopeA S rd body c a h = some r) : scopeA S' rd body c a h = some r := by
  unfold scopeA at hr ⊢
  split at hr
  · rename_i l a' h' hc
    rw [hS.code _ _ _ _ _ hc]
    simp only
    split at hr
    · exact hS.scope _ _ _ _ _ _ hr
    · exact hr
  · rename_i hne
    rw [hS.code _ _ _ _ _ hr]
    obtain ⟨o, a', h'⟩ := r
    cases o with
    | goto l => exact (hne _ _ _ hr).elim
    | _ => rfl

theorem evO_le (O : Oracle) : ∀ k, (evO P O k).le (evO P O (k + 1))
  | 0 => by
    refine ⟨?_, ?_, ?_, ?_⟩
    · intro _ _ _ _ _ hv; cases hv
    · intro _ _ _ _ _ _ hv; cases hv
    · intro _ _ _ _ _ hv; cases hv
    · intro f args h r hv
      have hv' : O f args h = some r := hv
      simp only [evO, hv']
  | k + 1 => by
    have ih := evO_le O k
    refine ⟨fun rd c a h r hr => codeA_mono ih hr, fun rd b c a h r hr => scopeA_mono ih hr, fun rd c a h r hr => thenA_mono (fun y hy => ih.code _ _ _ _ _ hy) (fun a h y hy => ih.loop _ _ _ _ _ hy) hr, fun f args h r hr => ?_⟩
    simp only [evO] at hr ⊢
    split at hr
    · exact hr
    · exact callFA_mono ih hr

theorem Self.le_refl (S : Self) : S.le S := ⟨fun _ _ _ _ _ h => h, fun _ _ _ _ _ _ h => h, fun _ _ _ _ _ h => h, fun _ _ _ _ h => h⟩
theorem Self.le_trans {A B C : Self} (h : A.le B) (k : B.le C) : A.le C :=
  ⟨fun _ _ _ _ _ x => k.code _ _ _ _ _ (h.code _ _ _ _ _ x), fun _ _ _ _ _ _ x => k.scope _ _ _ _ _ _ (h.scope _ _ _ _ _ _ x), fun _ _ _ _ _ x => k.loop _ _ _ _ _ (h.loop _ _ _ _ _ x), fun _ _ _ _ x => k.call _ _ _ _ (h.call _ _ _ _ x)⟩

theorem evO_mono (O : Oracle) {k k' : Nat} (hk : k ≤ k') : (evO P O k).le (evO P O k') := by
  induction hk with
  | refl => exact Self.le_refl _
  | step _ ih => exact Self.le_trans ih (evO_le O _)

end
end Go.Ev

/- From the evaluator's answer to a contract of the model's, where nothing that was there may be written. -/
namespace Go.Ev
open Go.RowKit

section
variable {P : Program} {μ : Mu} {h h' : AHeap} {w : World}

/-- A start whose rows may only be read. -/
theorem Rel.ro (hobj : ∀ b o, h.get b = some o → mutO o = false ∧ ∃ i, μ b = some i ∧ ORel P μ o i w) (hg : ∀ g, g < P.globals.size → ∃ i, μ g = some i ∧ i.blk = g ∧ i.d = 0) : Rel P μ h w :=
  ⟨fun b o hb => (hobj b o hb).2, fun b c o o' i j hb hc hm => (by rw [(hobj b o hb).1] at hm; cases hm), hg⟩

theorem Ste.below {μ' : Mu} {w' : World} (s : Ste μ h w μ' h' w') (hro : ∀ b o, h.get b = some o → mutO o = false) : Below w.heap.size w w' :=
  ⟨s.os, s.tape, s.output, s.size, fun k hk => s.kept k hk fun b o i hb hm => by rw [hro b o hb] at hm; cases hm⟩

theorem CallOk.calls {f : FuncId} {args args' : Array Value} {v : Value} (hc : CallOk P f args h v h') (hR : Rel P μ h w) (hT : Top μ h) (hA : VsRel μ args.toList args'.toList) (hro : ∀ b o, h.get b = some o → mutO o = false) :
    Calls P f args' w fun e w' => ∃ μ' v', e = .returned v' ∧ VRel μ' v v' ∧ Below w.heap.size w w' :=
  callsIn_wide.1 (hc.2 μ w args' _ hR hT hA fun μ' _ v' fi hv => ⟨μ', v', rfl, hv, fi.ste.below hro⟩)

theorem evO_call {O : Oracle} (hO : OracleOk P O) {k : Nat} {f : FuncId} {args : Array Value} {v : Value} (hv : (evO P O k).call f args h = some (v, h')) : CallOk P f args h v h' :=
  (evO_ok hO k).call f args h v h' hv

end
end Go.Ev

/- A call that only reads, played in a small heap of its own, answers alike in every heap. -/
namespace Go.Ev

section
variable {P : Program}

theorem VRel.eq_of_pv1 {μ : Mu} {v v' : Value} (h : VRel μ v v') (hp : pv1 v = true) : v' = v := by
  cases h <;> first | rfl | simp [pv1] at hp

theorem VsRel.eq_of_pv1 {μ : Mu} : ∀ {a b : List Value}, VsRel μ a b → a.all pv1 = true → b = a
  | _, _, .nil, _ => rfl
  | _, _, .cons h hs, hq => by
    simp at hq
    rw [VRel.eq_of_pv1 h hq.1, VsRel.eq_of_pv1 hs (by simpa using hq.2)]

theorem VRel.eq_of_pv {μ : Mu} {v v' : Value} (h : VRel μ v v') (hp : pv v = true) : v' = v := by
  cases h with
  | agg h => have := VsRel.eq_of_pv1 h (by simpa [pv] using hp); rw [Array.toList_inj] at this; rw [this]
  | tuple h => have := VsRel.eq_of_pv1 h (by simpa [pv] using hp); rw [Array.toList_inj] at this; rw [this]
  | _ => first | rfl | simp [pv, pv1] at hp

/-- Nothing that was there has been written: the relation stays as it was. -/
theorem Rel.kept {μ μ0 μ1 : Mu} {h h0 h1 : AHeap} {w w' : World} (R : Rel P μ h w) (hT : Top μ h) (s : Ste μ0 h0 w μ1 h1 w') (hro : ∀ b o, h0.get b = some o → mutO o = false) : Fin P μ h w μ h w' := by
  have hk : ∀ k, k < w.heap.size → w'.heap[k]? = w.heap[k]? := (s.below hro).block
  refine ⟨⟨fun b o hb => ?_, R.inj, R.glob⟩, ⟨Mu.le_refl _, s.size, s.tape, s.os, s.output, fun k hk' _ => hk k hk', fun b o i hb hl hi _ => ⟨b, o, i, hb, hl, id, hi, rfl⟩⟩, hT, fun _ _ h => h, Nat.le_refl _⟩
  obtain ⟨i, hi, ho⟩ := R.obj b o hb
  refine ⟨i, hi, ?_⟩
  by_cases hl : liveO o = true
  · exact ho.congr (hk _ (ho.lt hl))
  · cases o <;> simp [liveO] at hl; trivial

theorem CallOk.pure {f : FuncId} {args0 args : Array Value} {v : Value} {h0 h0' h : AHeap} (hc : CallOk P f args0 h0 v h0') (hp : pv v = true) (hro : ∀ b o, h0.get b = some o → mutO o = false)
    (hs : ∀ μ w (args' : Array Value), Rel P μ h w → Top μ h → VsRel μ args.toList args'.toList → ∃ μ0, Rel P μ0 h0 w ∧ Top μ0 h0 ∧ VsRel μ0 args0.toList args'.toList) : CallOk P f args h v h := by
  refine ⟨hc.1, fun μ w args' R hR hT hA hK => ?_⟩
  obtain ⟨μ0, r0, t0, a0⟩ := hs μ w args' hR hT hA
  refine hc.2 μ0 w args' R r0 t0 a0 fun μ' w' v' fi hv => ?_
  rw [hv.eq_of_pv hp]
  exact hK μ w' v (hR.kept hT fi.ste hro) (.of_pv hp)

/-- Frozen: what may only be read. -/
theorem ORel.froze {μ : Mu} {w : World} {c : List Value} {e : TypeId} {ro g : Bool} {i : Img} (h : ORel P μ (.cells c e ro g) i w) : ORel P μ (.cells c e true g) i w := by
  obtain ⟨C, fz, h1, _, h3, h4, h5, h6, h7⟩ := h
  exact ⟨C, fz, h1, fun hf => (by cases hf), h3, h4, h5, h6, fun hg => h7 (.inr (hg.resolve_left (by simp)))⟩

end
end Go.Ev

/- The evaluator laid out ahead: what hangs on the code alone is reckoned once (closed terms, which the kernel keeps), so that a step is short. -/
namespace Go.Ev

/-! ### Slots -/
structure CG where run : Tr Value → Option Value
def getC : Nat → Nat → CG
  | 0, _ => ⟨fun _ => none⟩
  | _ + 1, 0 => ⟨fun t => match t with | .leaf => none | .node _ v _ => v⟩
  | k + 1, m + 1 =>
    match m % 2 with
    | 0 => ⟨fun t => match t with | .leaf => none | .node l _ _ => (getC k (m / 2)).run l⟩
    | _ + 1 => ⟨fun t => match t with | .leaf => none | .node _ _ r => (getC k (m / 2)).run r⟩

theorem getC_run : ∀ (k n : Nat) (t : Tr Value), n < k → (getC k n).run t = t.get n
  | 0, _, _, h => by omega
  | k + 1, 0, t, _ => by cases t <;> rfl
  | k + 1, m + 1, t, h => by
    unfold getC
    split
    · rename_i hm
      cases t with
      | leaf => rfl
      | node l v r => simp only [Tr.get]; rw [if_pos hm]; exact getC_run k (m / 2) l (by omega)
    · rename_i x hm
      cases t with
      | leaf => rfl
      | node l v r => simp only [Tr.get]; rw [if_neg (by omega)]; exact getC_run k (m / 2) r (by omega)

structure CP where run : Tr Value → Value → Tr Value
def setC : Nat → Nat → CP
  | 0, _ => ⟨fun t _ => t⟩
  | _ + 1, 0 => ⟨fun t x => match t with | .leaf => .node .leaf (some x) .leaf | .node l _ r => .node l (some x) r⟩
  | k + 1, m + 1 =>
    match m % 2 with
    | 0 => ⟨fun t x => match t with | .leaf => .node ((setC k (m / 2)).run .leaf x) none .leaf | .node l u r => .node ((setC k (m / 2)).run l x) u r⟩
    | _ + 1 => ⟨fun t x => match t with | .leaf => .node .leaf none ((setC k (m / 2)).run .leaf x) | .node l u r => .node l u ((setC k (m / 2)).run r x)⟩

theorem setC_run : ∀ (k n : Nat) (t : Tr Value) (x : Value), (setC k n).run t x = Tr.setF k t n x
  | 0, _, _, _ => rfl
  | k + 1, 0, t, _ => by cases t <;> rfl
  | k + 1, m + 1, t, x => by
    unfold setC
    split
    · rename_i hm
      cases t with
      | leaf => simp only [Tr.setF]; rw [if_pos hm, setC_run]
      | node l v r => simp only [Tr.setF]; rw [if_pos hm, setC_run]
    · rename_i y hm
      cases t with
      | leaf => simp only [Tr.setF]; rw [if_neg (by omega), setC_run]
      | node l v r => simp only [Tr.setF]; rw [if_neg (by omega), setC_run]

/-- A block by its number. -/
def getQ {α : Type} : Tr α → Nat → Option α
  | .leaf, _ => none
  | .node _ v _, 0 => v
  | .node l _ r, m + 1 => match m % 2 with | 0 => getQ l (m / 2) | _ + 1 => getQ r (m / 2)
theorem getQ_eq {α : Type} : ∀ (t : Tr α) (n : Nat), getQ t n = t.get n
  | .leaf, n => by cases n <;> rfl
  | .node _ v _, 0 => rfl
  | .node l _ r, m + 1 => by
    unfold getQ Tr.get
    split
    · rename_i hm; rw [if_pos hm, getQ_eq]
    · rename_i y hm; rw [if_neg (by omega), getQ_eq]

/-! ### Numbers -/
def wrapU (m : Nat) : Int → Int
  | .ofNat a => .ofNat (a % m)
  | .negSucc a => .ofNat (m - 1 - a % m)
def wrapS (m half : Nat) (n : Int) : Int :=
  match n with
  | .ofNat a => (match Nat.blt (a % m) half with | true => .ofNat (a % m) | false => .negSucc (m - 1 - a % m))
  | .negSucc a => (match Nat.blt (m - 1 - a % m) half with | true => .ofNat (m - 1 - a % m) | false => .negSucc (a % m))
def wrapF : IntKind → Int → Int
  | .u64, n => wrapU 18446744073709551616 n
  | .i64, n => wrapS 18446744073709551616 9223372036854775808 n
  | .u8, n => wrapU 256 n
  | .u32, n => wrapU 4294967296 n
  | k, n => k.wrap n

theorem wrapU_eq (k : IntKind) (m : Nat) (hs : k.signed = false) (hm : (2 ^ k.bits : Int) = m) (h0 : 0 < m) (n : Int) : wrapU m n = k.wrap n := by
  unfold IntKind.wrap
  simp only [hs, Bool.false_and, Bool.false_eq_true, if_false, hm]
  cases n with
  | ofNat a => simp [wrapU]
  | negSucc a =>
    simp only [wrapU]
    rw [Int.negSucc_emod a (by omega)]
    have : a % m < m := Nat.mod_lt _ h0
    simp only [Int.ofNat_eq_natCast]
    rw [← Int.natCast_emod]
    omega

theorem wrapS_eq (k : IntKind) (m half : Nat) (hs : k.signed = true) (hm : (2 ^ k.bits : Int) = m) (hh : (2 ^ (k.bits - 1) : Int) = half) (h2 : m = 2 * half) (h0 : 0 < half) (n : Int) : wrapS m half n = k.wrap n := by
  unfold IntKind.wrap
  simp only [hs, Bool.true_and, hm, hh, decide_eq_true_eq]
  cases n with
  | ofNat a =>
    have hlt : a % m < m := Nat.mod_lt _ (by omega)
    have e : (Int.ofNat a) % (m : Int) = ((a % m : Nat) : Int) := by simp
    rw [e]
    simp only [wrapS]
    split
    · rename_i h; simp at h; rw [if_neg (by omega)]; rfl
    · rename_i h
      have h' : half ≤ a % m := by
        have : ¬ a % m < half := by intro hc; rw [← Nat.blt_eq] at hc; rw [h] at hc; cases hc
        omega
      rw [if_pos (by omega)]; rw [Int.negSucc_eq]; omega
  | negSucc a =>
    have hlt : a % m < m := Nat.mod_lt _ (by omega)
    have e : (Int.negSucc a) % (m : Int) = ((m - 1 - a % m : Nat) : Int) := by
      rw [Int.negSucc_emod a (by omega), ← Int.natCast_emod]; omega
    rw [e]
    simp only [wrapS]
    split
    · rename_i h; simp at h; rw [if_neg (by omega)]; rfl
    · rename_i h
      have h' : half ≤ m - 1 - a % m := by
        have : ¬ m - 1 - a % m < half := by intro hc; rw [← Nat.blt_eq] at hc; rw [h] at hc; cases hc
        omega
      rw [if_pos (by omega)]; rw [Int.negSucc_eq]; omega

theorem wrapF_eq (k : IntKind) (n : Int) : wrapF k n = k.wrap n := by
  cases k <;> simp only [wrapF]
  · exact wrapS_eq .i64 18446744073709551616 9223372036854775808 rfl (by decide) (by decide) rfl (by decide) n
  · exact wrapU_eq .u8 _ rfl (by decide) (by decide) n
  · exact wrapU_eq .u32 _ rfl (by decide) (by decide) n
  · exact wrapU_eq .u64 _ rfl (by decide) (by decide) n

def eqI : Int → Int → Bool
  | .ofNat m, .ofNat n => Nat.beq m n
  | .negSucc m, .negSucc n => Nat.beq m n
  | _, _ => false
theorem eqI_eq (a b : Int) : eqI a b = (a == b) := by
  rw [Bool.eq_iff_iff]
  cases a <;> cases b <;> simp [eqI] <;> omega
theorem ltI_eq (a b : Int) : ltI a b = decide (a < b) := by rw [Bool.eq_iff_iff, ltI_iff]; simp
theorem leI_eq (a b : Int) : leI a b = decide (a ≤ b) := by rw [Bool.eq_iff_iff, leI_iff]; simp

/-- The lesser and the greater of two: told also of numbers with variables in them, as far as it can be. -/
def minN : Nat → Nat → Nat
  | 0, _ => 0
  | _ + 1, 0 => 0
  | m + 1, n + 1 => (match Nat.ble m n with | true => m | false => n) + 1
def maxN : Nat → Nat → Nat
  | 0, n => n
  | m + 1, 0 => m + 1
  | m + 1, n + 1 => (match Nat.ble m n with | true => n | false => m) + 1
theorem minN_eq : ∀ m n, minN m n = min m n
  | 0, n => by simp [minN]
  | m + 1, 0 => by simp [minN]
  | m + 1, n + 1 => by
    simp only [minN]
    split <;> rename_i h
    · have := Nat.le_of_ble_eq_true h; omega
    · have : ¬ m ≤ n := fun hc => by rw [Nat.ble_eq_true_of_le hc] at h; cases h
      omega
theorem maxN_eq : ∀ m n, maxN m n = max m n
  | 0, n => by simp [maxN]
  | m + 1, 0 => by simp [maxN]
  | m + 1, n + 1 => by
    simp only [maxN]
    split <;> rename_i h
    · have := Nat.le_of_ble_eq_true h; omega
    · have : ¬ m ≤ n := fun hc => by rw [Nat.ble_eq_true_of_le hc] at h; cases h
      omega
def minI : Int → Int → Int
  | .ofNat m, .ofNat n => .ofNat (minN m n)
  | .ofNat _, .negSucc n => .negSucc n
  | .negSucc m, .ofNat _ => .negSucc m
  | .negSucc m, .negSucc n => .negSucc (maxN m n)
def maxI : Int → Int → Int
  | .ofNat m, .ofNat n => .ofNat (maxN m n)
  | .ofNat m, .negSucc _ => .ofNat m
  | .negSucc _, .ofNat n => .ofNat n
  | .negSucc m, .negSucc n => .negSucc (minN m n)
theorem minI_eq (x y : Int) : minI x y = if y < x then y else x := by
  cases x <;> cases y <;> simp only [minI, minN_eq, maxN_eq, Int.ofNat_eq_natCast, Int.negSucc_eq] <;> split <;> omega
theorem maxI_eq (x y : Int) : maxI x y = if y > x then y else x := by
  cases x <;> cases y <;> simp only [maxI, minN_eq, maxN_eq, Int.ofNat_eq_natCast, Int.negSucc_eq] <;> split <;> omega

structure CI where run : IntKind → Int → Int → Option Value
def intC : BinOp → CI
  | .add => ⟨fun k a b => some (.int k (wrapF k (a + b)))⟩
  | .sub => ⟨fun k a b => some (.int k (wrapF k (a - b)))⟩
  | .mul => ⟨fun k a b => some (.int k (wrapF k (a * b)))⟩
  | .quo => ⟨fun k a b => match eqI b 0 with | true => none | false => some (.int k (wrapF k (a.tdiv b)))⟩
  | .rem => ⟨fun k a b => match eqI b 0 with | true => none | false => some (.int k (a.tmod b))⟩
  | .and => ⟨fun k a b => some (.int k (wrapF k ((BitVec.ofInt k.bits a &&& BitVec.ofInt k.bits b).toNat : Int)))⟩
  | .or => ⟨fun k a b => some (.int k (wrapF k ((BitVec.ofInt k.bits a ||| BitVec.ofInt k.bits b).toNat : Int)))⟩
  | .xor => ⟨fun k a b => some (.int k (wrapF k ((BitVec.ofInt k.bits a ^^^ BitVec.ofInt k.bits b).toNat : Int)))⟩
  | .andNot => ⟨fun k a b => some (.int k (wrapF k ((BitVec.ofInt k.bits a &&& ~~~ BitVec.ofInt k.bits b).toNat : Int)))⟩
  | .eql => ⟨fun _ a b => some (.bool (eqI a b))⟩
  | .neq => ⟨fun _ a b => some (.bool (!eqI a b))⟩
  | .lss => ⟨fun _ a b => some (.bool (ltI a b))⟩
  | .leq => ⟨fun _ a b => some (.bool (leI a b))⟩
  | .gtr => ⟨fun _ a b => some (.bool (ltI b a))⟩
  | .geq => ⟨fun _ a b => some (.bool (leI b a))⟩
  | op => ⟨fun k a b => intBin op k a b⟩
theorem intC_run (op : BinOp) (k : IntKind) (a b : Int) : (intC op).run k a b = intBin op k a b := by
  cases op <;> simp only [intC, intBin, wrapF_eq, eqI_eq, ltI_eq, leI_eq] <;> first | rfl | skip
  · by_cases h : b = 0
    · simp [h]
    · rw [show (b == 0) = false by simp [h], if_neg h]
  · by_cases h : b = 0
    · simp [h]
    · rw [show (b == 0) = false by simp [h], if_neg h]

def kindEq (a b : IntKind) : Bool := Nat.beq a.ctorIdx b.ctorIdx
theorem kindEq_iff (a b : IntKind) : kindEq a b = true ↔ a = b := by cases a <;> cases b <;> decide

structure CB where run : AHeap → Value → Value → Option Value
def binC (P : Program) (op : BinOp) (t : TypeId) : CB :=
  match op with
  | .shl | .shr => ⟨fun h x y => binA P h op t x y⟩
  | op => ⟨fun h x y => match x with
    | .int k a => (match y with | .int k' b => (match kindEq k k' with | true => (intC op).run k a b | false => none) | y => binA P h op t (.int k a) y)
    | x => binA P h op t x y⟩
theorem binC_run (P : Program) (op : BinOp) (t : TypeId) (h : AHeap) (x y : Value) : (binC P op t).run h x y = binA P h op t x y := by
  have key : ∀ k a k' b, op ≠ .shl → op ≠ .shr → (match kindEq k k' with | true => (intC op).run k a b | false => none) = binA P h op t (.int k a) (.int k' b) := by
    intro k a k' b h1 h2
    rw [intC_run]
    have : binA P h op t (.int k a) (.int k' b) = if k = k' then intBin op k a b else none := by
      cases op <;> first | rfl | exact (h1 rfl).elim | exact (h2 rfl).elim
    rw [this]
    split
    · rename_i hk; rw [if_pos ((kindEq_iff _ _).1 hk)]
    · rename_i hk; rw [if_neg (fun e => by rw [(kindEq_iff _ _).2 e] at hk; cases hk)]
  unfold binC
  split
  · rfl
  · rfl
  · rename_i n1 n2
    cases x <;> first | rfl | skip
    rename_i k a
    cases y <;> first | rfl | skip
    exact key k a _ _ n1 n2

/-! ### Operands -/
def evalC (P : Program) : Operand → CG
  | .tmp t => getC (t + 1) t
  | .const v => match pv v with | true => ⟨fun _ => some v⟩ | false => ⟨fun _ => none⟩
  | .global g => match Nat.blt g P.globals.size with | true => ⟨fun _ => some (.pointer (some ⟨g, 0, none⟩))⟩ | false => ⟨fun _ => none⟩
  | .func f => ⟨fun _ => some (.func (.func f) #[] #[])⟩
theorem evalC_run (P : Program) (e : Tr Value) (o : Operand) : (evalC P o).run e = evalO P.globals.size e o := by
  cases o with
  | tmp t => exact getC_run _ _ _ (by omega)
  | const v => simp only [evalC, evalO]; split <;> rename_i h <;> simp [h]
  | global g =>
    simp only [evalC, evalO]
    split <;> rename_i h
    · rw [if_pos (by simpa using h)]
    · rw [if_neg (fun hc => by rw [← Nat.blt_eq] at hc; rw [hc] at h; cases h)]
  | func f => rfl

structure CL where run : Tr Value → Option (List Value)
def evalsC (P : Program) : List Operand → CL
  | [] => ⟨fun _ => some []⟩
  | x :: xs => ⟨fun e => match (evalC P x).run e with | some v => (match (evalsC P xs).run e with | some vs => some (v :: vs) | none => none) | none => none⟩
theorem evalsC_run (P : Program) (e : Tr Value) : ∀ xs, (evalsC P xs).run e = evalsO P.globals.size e xs
  | [] => rfl
  | x :: xs => by
    simp only [evalsC, evalsO, evalC_run]
    cases evalO P.globals.size e x with
    | none => rfl
    | some v => simp only [evalsC_run P e xs]; cases evalsO P.globals.size e xs <;> rfl

structure CQ where run : Tr Value → Option (List (Nat × Value))
def partsC (P : Program) : List (Nat × Operand) → CQ
  | [] => ⟨fun _ => some []⟩
  | (i, x) :: xs => ⟨fun e => match (evalC P x).run e with | some v => (match (partsC P xs).run e with | some vs => some ((i, v) :: vs) | none => none) | none => none⟩
theorem partsC_run (P : Program) (e : Tr Value) : ∀ xs, (partsC P xs).run e = partsO P.globals.size e xs
  | [] => rfl
  | (i, x) :: xs => by
    simp only [partsC, partsO, evalC_run]
    cases evalO P.globals.size e x with
    | none => rfl
    | some v => simp only [partsC_run P e xs]; cases partsO P.globals.size e xs <;> rfl

end Go.Ev

/- Operations, laid out ahead. -/
namespace Go.Ev

/-! ### Memory -/
def setL : List Value → Nat → Value → Option (List Value)
  | [], _, _ => none
  | _ :: l, 0, x => some (x :: l)
  | y :: l, n + 1, x => match setL l n x with | some l' => some (y :: l') | none => none
theorem setL_eq : ∀ (l : List Value) (n : Nat) (x : Value), setL l n x = if n + 1 ≤ l.length then some (setRow l n [x]) else none
  | [], n, x => by simp [setL]
  | y :: l, 0, x => by simp [setL, setRow]
  | y :: l, n + 1, x => by
    simp only [setL, setL_eq l n x]
    by_cases h : n + 1 ≤ l.length
    · rw [if_pos h, if_pos (by simp; omega)]
      simp [setRow]
    · rw [if_neg h, if_neg (by simp; omega)]

def nthL : List Value → Nat → Option Value
  | [], _ => none
  | y :: _, 0 => some y
  | _ :: l, n + 1 => nthL l n
theorem nthL_eq : ∀ (l : List Value) (n : Nat), nthL l n = l[n]?
  | [], _ => by simp [nthL]
  | y :: l, 0 => by simp [nthL]
  | y :: l, n + 1 => by simp [nthL, nthL_eq l n]

structure CM where run : AHeap → Value → Option Value
def loadC (P : Program) (t : TypeId) : CM :=
  match P.underlying t with
  | none => ⟨fun _ _ => none⟩
  | some d =>
    match isAggD d with
    | false => ⟨fun h v => match v with | .pointer (some ⟨b, off, none⟩) => (match getQ h.tr b with | some (.cells c _ _ _) => nthL c off | _ => none) | _ => none⟩
    | true =>
      match P.info? t with
      | none => ⟨fun _ _ => none⟩
      | some i => ⟨fun h v => match v with
        | .pointer (some ⟨b, off, none⟩) => (match getQ h.tr b with | some (.cells c _ _ _) => (match loadRow c off i.size with | some xs => some (.agg xs.toArray) | none => none) | _ => none)
        | _ => none⟩
theorem loadC_run (P : Program) (t : TypeId) (h : AHeap) (v : Value) : (loadC P t).run h v = loadA P h t v := by
  unfold loadC loadA
  simp only [getQ_eq, nthL_eq, AHeap.get]
  cases hd : P.underlying t with
  | none =>
    cases v <;> try rfl
    rename_i a
    rcases a with _ | ⟨b, off, _ | s⟩ <;> try rfl
    simp only
    cases h.tr.get b with
    | none => rfl
    | some o => cases o <;> rfl
  | some d =>
    simp only
    cases hb : isAggD d with
    | false =>
      cases v <;> try rfl
      rename_i a
      rcases a with _ | ⟨b, off, _ | s⟩ <;> try rfl
      simp only
      cases h.tr.get b with
      | none => rfl
      | some o => cases o <;> first | rfl | simp [hb]
    | true =>
      simp only
      cases hi : P.info? t with
      | none =>
        cases v <;> try rfl
        rename_i a
        rcases a with _ | ⟨b, off, _ | s⟩ <;> try rfl
        simp only
        cases h.tr.get b with
        | none => rfl
        | some o => cases o <;> first | rfl | simp [hb]
      | some i =>
        cases v <;> try rfl
        rename_i a
        rcases a with _ | ⟨b, off, _ | s⟩ <;> try rfl
        simp only
        cases h.tr.get b with
        | none => rfl
        | some o => cases o <;> first | rfl | (simp only [hb, if_true]; cases loadRow _ _ _ <;> rfl)

structure CW where run : AHeap → Value → Value → Option AHeap
/-- One cell, the common case, first. -/
def storeC (P : Program) (t : TypeId) : CW :=
  match P.info? t with
  | none => ⟨fun h a x => storeA P h t a x⟩
  | some i =>
    match Nat.beq i.size 1 with
    | false => ⟨fun h a x => storeA P h t a x⟩
    | true => ⟨fun h a x => match oneCell x with
      | false => storeA P h t a x
      | true => (match h with
        | ⟨t, nx⟩ => (match a with
          | .pointer (some ⟨b, off, none⟩) => (match getQ t b with
            | some (.cells c e false g) => (match setL c off x with | some c' => some ⟨t.set b (.cells c' e false g), nx⟩ | none => none)
            | _ => none)
          | _ => none))⟩
theorem cells_one {x : Value} (h : oneCell x = true) : x.cells = #[x] := by cases x <;> first | rfl | cases h
theorem storeC_run (P : Program) (t : TypeId) (h : AHeap) (a x : Value) : (storeC P t).run h a x = storeA P h t a x := by
  unfold storeC
  split
  · rfl
  rename_i i hi
  split
  · rfl
  rename_i h1
  have h1' : i.size = 1 := by simpa using h1
  simp only
  split
  · rfl
  rename_i hx
  unfold storeA
  obtain ⟨tr, nx⟩ := h
  simp only [getQ_eq, AHeap.get, hi]
  cases a <;> try rfl
  rename_i a
  rcases a with _ | ⟨b, off, _ | s⟩ <;> try rfl
  simp only
  cases tr.get b with
  | none => rfl
  | some o =>
    cases o with
    | cells c e ro g =>
      cases ro with
      | true => rfl
      | false =>
        simp only [cells_one hx, setL_eq, h1']
        by_cases hl : off + 1 ≤ c.length
        · rw [if_pos hl, if_pos ⟨by simp, hl, by simp [hx]⟩]; rfl
        · rw [if_neg hl, if_neg (fun hc => hl hc.2.1)]
    | _ => rfl

/-! ### Addresses -/
def inR (i : Int) (n : Nat) : Option Nat := match i with | .ofNat m => (match Nat.blt m n with | true => some m | false => none) | .negSucc _ => none
theorem inR_eq (i : Int) (n : Nat) : inR i n = if 0 ≤ i ∧ i < n then some i.toNat else none := by
  cases i with
  | ofNat m =>
    simp only [inR]
    split
    · rename_i h; rw [if_pos ⟨by simp, by simp at h; simpa using h⟩]; rfl
    · rename_i h
      rw [if_neg]
      rintro ⟨_, hc⟩
      have : m < n := by simpa using hc
      rw [← Nat.blt_eq] at this; rw [this] at h; cases h
  | negSucc m => simp only [inR]; rw [if_neg]; rintro ⟨h, _⟩; omega

structure CX where run : Value → Value → Option Value
def indexAddrC (P : Program) (t : TypeId) : CX :=
  match P.underlying t with
  | some (.array len e) =>
    (match P.info? e with
    | some j => ⟨fun x ix => match x with
      | .pointer (some ⟨b, o, none⟩) => (match ix with | .int _ i => (match inR i len with | some m => some (.pointer (some ⟨b, o + m * j.size, none⟩)) | none => none) | _ => none)
      | _ => none⟩
    | none => ⟨fun _ _ => none⟩)
  | some (.slice e) =>
    (match P.info? e with
    | some j => ⟨fun x ix => match x with
      | .slice (some ⟨b, o, none⟩) len _ => (match ix with | .int _ i => (match inR i len with | some m => some (.pointer (some ⟨b, o + m * j.size, none⟩)) | none => none) | _ => none)
      | _ => none⟩
    | none => ⟨fun _ _ => none⟩)
  | _ => ⟨fun x ix => indexAddrA P t x ix⟩
theorem indexAddrC_run (P : Program) (t : TypeId) (x ix : Value) : (indexAddrC P t).run x ix = indexAddrA P t x ix := by
  unfold indexAddrC
  split
  · rename_i len e ht
    cases hj : P.info? e with
    | none =>
      unfold indexAddrA; simp only [ht]
      cases x <;> try rfl
      rename_i a
      rcases a with _ | ⟨b, off, _ | s⟩ <;> try rfl
      cases ix <;> first | rfl | simp [hj]
    | some j =>
      unfold indexAddrA; simp only [ht, inR_eq]
      cases x <;> try rfl
      rename_i a
      rcases a with _ | ⟨b, off, _ | s⟩ <;> try rfl
      cases ix <;> try rfl
      rename_i k i
      simp only [hj]
      by_cases hr : 0 ≤ i ∧ i < (len : Int)
      · rw [if_pos hr, if_pos hr]
      · rw [if_neg hr, if_neg hr]
  · rename_i e ht
    cases hj : P.info? e with
    | none =>
      unfold indexAddrA; simp only [ht]
      cases x <;> try rfl
      rename_i a l c
      rcases a with _ | ⟨b, off, _ | s⟩ <;> try rfl
      cases ix <;> first | rfl | simp [hj]
    | some j =>
      unfold indexAddrA; simp only [ht, inR_eq]
      cases x <;> try rfl
      rename_i a l c
      rcases a with _ | ⟨b, off, _ | s⟩ <;> try rfl
      cases ix <;> try rfl
      rename_i k i
      simp only [hj]
      by_cases hr : 0 ≤ i ∧ i < (l : Int)
      · rw [if_pos hr, if_pos hr]
      · rw [if_neg hr, if_neg hr]
  · rfl

structure CF where run : Value → Option Value
def fieldAddrC (P : Program) (s : TypeId) (f : Nat) : CF :=
  match P.underlying s with
  | some (.struct fs) =>
    (match fs[f]? with
    | some fd => (match P.info? fd.type with
      | some j => (match Nat.beq j.size 0 with
        | true => ⟨fun _ => none⟩
        | false => ⟨fun x => match x with | .pointer (some ⟨b, o, none⟩) => some (.pointer (some ⟨b, o + fd.offset, none⟩)) | _ => none⟩)
      | none => ⟨fun _ => none⟩)
    | none => ⟨fun _ => none⟩)
  | _ => ⟨fun _ => none⟩
theorem fieldAddrC_run (P : Program) (s : TypeId) (f : Nat) (x : Value) : (fieldAddrC P s f).run x = fieldAddrA P s x f := by
  unfold fieldAddrC fieldAddrA
  split
  · rename_i fs hs
    simp only [hs]
    cases hf : fs[f]? with
    | none =>
      simp only
      cases x <;> try rfl
      rename_i a
      rcases a with _ | ⟨b, off, _ | s⟩ <;> try rfl
      simp [hf]
    | some fd =>
      simp only
      cases hj : P.info? fd.type with
      | none =>
        simp only
        cases x <;> try rfl
        rename_i a
        rcases a with _ | ⟨b, off, _ | s⟩ <;> try rfl
        simp [hf, hj]
      | some j =>
        simp only
        split
        · rename_i h0; have h0' : j.size = 0 := by simpa using h0
          cases x <;> try rfl
          rename_i a
          rcases a with _ | ⟨b, off, _ | s⟩ <;> try rfl
          simp [hf, hj, h0']
        · rename_i h0; have h0' : ¬ j.size = 0 := by intro hc; rw [hc] at h0; cases h0
          cases x <;> try rfl
          rename_i a
          rcases a with _ | ⟨b, off, _ | s⟩ <;> try rfl
          simp [hf, hj, h0']
  · rename_i hs
    split
    · rename_i h1; exact (hs _ h1).elim
    · rfl

end Go.Ev

/- Steps, regions, code, calls, laid out ahead; and that they are as sound as the evaluator. -/
namespace Go.Ev

structure CV where run : Self → Nat → Tr Value → AHeap → Option (Value × AHeap)

def withH (r : Option Value) (h : AHeap) : Option (Value × AHeap) := match r with | some v => some (v, h) | none => none
theorem withH_eq (r : Option Value) (h : AHeap) : withH r h = r.map (·, h) := by cases r <;> rfl

def builtinC (P : Program) (b : Builtin) (ts : Array TypeId) (args : List Operand) : CV :=
  match b with
  | .min => ⟨fun _ _ e h => match (evalsC P args).run e with
      | some [.int k x, .int _ y] => some (.int k (minI x y), h)
      | _ => none⟩
  | .max => ⟨fun _ _ e h => match (evalsC P args).run e with
      | some [.int k x, .int _ y] => some (.int k (maxI x y), h)
      | _ => none⟩
  | .len =>
    match ts[0]? with
    | none => ⟨fun _ _ _ _ => none⟩
    | some t =>
      match P.underlying t with
      | some (.slice _) => ⟨fun _ _ e h => match (evalsC P args).run e with
        | some (.slice _ n _ :: _) => some (.int .i64 (.ofNat n), h)
        | _ => none⟩
      | _ => ⟨fun _ _ e h => match (evalsC P args).run e with
        | some (x :: _) => withH (lenA P h t x) h
        | _ => none⟩
  | b => ⟨fun _ id e h => match (evalsC P args).run e with | some vs => builtinA P h id b ts vs.toArray | none => none⟩

def opC (P : Program) (o : Oper) : CV :=
  match o.op with
  | .move x => ⟨fun _ _ e h => match (evalC P x).run e with | some v => some (v, h) | none => none⟩
  | .assign x => ⟨fun _ _ e h => match (evalC P x).run e with | some v => some (v, h) | none => none⟩
  | .pick c a b => ⟨fun _ _ e h => match (evalC P c).run e with
      | some (.bool d) => (match d with
        | true => (match (evalC P a).run e with | some v => some (v, h) | none => none)
        | false => (match (evalC P b).run e with | some v => some (v, h) | none => none))
      | _ => none⟩
  | .binOp op t x y _ => ⟨fun _ _ e h => match (evalC P x).run e with
      | some u => (match (evalC P y).run e with | some v => withH ((binC P op t).run h u v) h | none => none)
      | none => none⟩
  | .unOp op _ x => ⟨fun _ _ e h => match (evalC P x).run e with | some u => withH (unA op u) h | none => none⟩
  | .convert s d x => ⟨fun _ _ e h => match (evalC P x).run e with | some u => withH (convH P h s d u) h | none => none⟩
  | .load t a => ⟨fun _ _ e h => match (evalC P a).run e with | some v => withH ((loadC P t).run h v) h | none => none⟩
  | .store t a x => ⟨fun _ _ e h => match (evalC P a).run e with
      | some v => (match (evalC P x).run e with
        | some u => (match (storeC P t).run h v u with | some h' => some (undef, h') | none => none)
        | none => none)
      | none => none⟩
  | .fieldAddr s x f => ⟨fun _ _ e h => match (evalC P x).run e with | some u => withH ((fieldAddrC P s f).run u) h | none => none⟩
  | .field t x f => ⟨fun _ _ e h => match (evalC P x).run e with | some u => withH (fieldA P t u f) h | none => none⟩
  | .indexAddr t x ix => ⟨fun _ _ e h => match (evalC P x).run e with
      | some u => (match (evalC P ix).run e with | some v => withH ((indexAddrC P t).run u v) h | none => none)
      | none => none⟩
  | .index t x ix => ⟨fun _ _ e h => match (evalC P x).run e with
      | some u => (match (evalC P ix).run e with | some v => withH (indexA P t u v) h | none => none)
      | none => none⟩
  | .extract t i => ⟨fun _ _ e h => match (evalC P t).run e with | some (.tuple vs) => withH (nthL vs.toList i) h | _ => none⟩
  | .build t parts => ⟨fun _ _ e h => match (partsC P parts.toList).run e with | some ps => withH (buildA P t ps) h | none => none⟩
  | .buildSlice t len parts => ⟨fun _ id e h => match (partsC P parts.toList).run e with | some ps => buildSliceA P h id t len ps | none => none⟩
  | .box t x => ⟨fun _ id e h => match (evalC P x).run e with | some v => newA P h id t v.cells.toList false (.pointer (some ⟨id, 0, none⟩)) | none => none⟩
  | .slice t x lo hi mx => ⟨fun _ _ e h => (evalO P.globals.size e x).bind fun u => (optO P.globals.size e lo).bind fun a => (optO P.globals.size e hi).bind fun b => (optO P.globals.size e mx).bind fun c => (sliceA P h t u a b c).map (·, h)⟩
  | .call { callee := .builtin b, args, argTypes } => builtinC P b argTypes args.toList
  | .call { callee := .value f, args, .. } =>
    (match f with
    | .func k => ⟨fun S _ e h => match (evalsC P args.toList).run e with | some vs => S.call k vs.toArray h | none => none⟩
    | f => ⟨fun S _ e h => match (evalC P f).run e with
      | some g => (match (evalsC P args.toList).run e with | some vs => callA S g vs.toArray h | none => none)
      | none => none⟩)
  | _ => ⟨fun S id e h => operA P S id e h o⟩

theorem builtinC_run (P : Program) (S : Self) (id : Nat) (e : Tr Value) (h : AHeap) (b : Builtin) (ts : Array TypeId) (args : Array Operand) :
    (builtinC P b ts args.toList).run S id e h = (mapO P.globals.size e args).bind fun vs => builtinA P h id b ts vs := by
  have gen : (mapO P.globals.size e args).bind (fun vs => builtinA P h id b ts vs) = (match evalsO P.globals.size e args.toList with | some vs => builtinA P h id b ts vs.toArray | none => none) := by
    unfold mapO
    cases evalsO P.globals.size e args.toList <;> rfl
  rw [gen]
  unfold builtinC
  split
  · simp only [evalsC_run]
    cases evalsO P.globals.size e args.toList with
    | none => rfl
    | some vs =>
      simp only [builtinA]
      have : ∀ l : List Value, (match (some l : Option (List Value)) with | some [.int k x, .int _ y] => some (Value.int k (minI x y), h) | _ => none) = (minA l).map (·, h) := by
        intro l
        unfold minA
        split
        · rename_i k x k' y heq
          cases heq
          simp only [Option.map_some]
          rw [minI_eq]
        · rename_i hne
          split
          · exact (hne _ _ _ _ rfl).elim
          · rfl
      exact this vs
  · simp only [evalsC_run]
    cases evalsO P.globals.size e args.toList with
    | none => rfl
    | some vs =>
      simp only [builtinA]
      have : ∀ l : List Value, (match (some l : Option (List Value)) with | some [.int k x, .int _ y] => some (Value.int k (maxI x y), h) | _ => none) = (maxA l).map (·, h) := by
        intro l
        unfold maxA
        split
        · rename_i k x k' y heq
          cases heq
          simp only [Option.map_some]
          rw [maxI_eq]
        · rename_i hne
          split
          · exact (hne _ _ _ _ rfl).elim
          · rfl
      exact this vs
  · split
    · rename_i ht
      simp only [builtinA, ht]
      cases evalsO P.globals.size e args.toList <;> rfl
    · rename_i t ht
      split
      · rename_i el hu
        simp only [evalsC_run, builtinA, ht]
        cases evalsO P.globals.size e args.toList with
        | none => rfl
        | some vs =>
          cases vs with
          | nil => rfl
          | cons x xs =>
            simp only [List.getElem?_toArray, List.getElem?_cons_zero]
            unfold lenA
            simp only [hu]
            cases x <;> rfl
      · simp only [evalsC_run, builtinA, ht, withH_eq]
        cases evalsO P.globals.size e args.toList with
        | none => rfl
        | some vs =>
          cases vs with
          | nil => rfl
          | cons x xs => simp
  · simp only [evalsC_run]

theorem opC_run (P : Program) (S : Self) (id : Nat) (e : Tr Value) (h : AHeap) (o : Oper) : (opC P o).run S id e h = operA P S id e h o := by
  unfold opC
  split
  case h_1 x hx => simp only [operA, opA, hx, evalC_run]; cases evalO P.globals.size e x <;> rfl
  case h_2 x hx => simp only [operA, opA, hx, evalC_run]; cases evalO P.globals.size e x <;> rfl
  case h_3 c a b hx =>
    simp only [operA, opA, hx, evalC_run]
    cases evalO P.globals.size e c with
    | none => rfl
    | some v =>
      cases v <;> try rfl
      rename_i d
      cases d
      · simp only; cases evalO P.globals.size e b <;> rfl
      · simp only; cases evalO P.globals.size e a <;> rfl
  case h_4 op t x y yt hx =>
    simp only [operA, opA, hx, evalC_run, binC_run, withH_eq]
    cases evalO P.globals.size e x <;> try rfl
    cases evalO P.globals.size e y <;> rfl
  case h_5 op t x hx => simp only [operA, opA, hx, evalC_run, withH_eq]; cases evalO P.globals.size e x <;> rfl
  case h_6 s d x hx => simp only [operA, opA, hx, evalC_run, withH_eq]; cases evalO P.globals.size e x <;> rfl
  case h_7 t a hx => simp only [operA, opA, hx, evalC_run, loadC_run, withH_eq]; cases evalO P.globals.size e a <;> rfl
  case h_8 t a x hx =>
    simp only [operA, opA, hx, evalC_run, storeC_run]
    cases evalO P.globals.size e a <;> try rfl
    rename_i v
    cases evalO P.globals.size e x <;> try rfl
    rename_i u
    simp only [Option.bind_some]
    cases storeA P h t v u <;> rfl
  case h_9 s x f hx => simp only [operA, opA, hx, evalC_run, fieldAddrC_run, withH_eq]; cases evalO P.globals.size e x <;> rfl
  case h_10 t x f hx => simp only [operA, opA, hx, evalC_run, withH_eq]; cases evalO P.globals.size e x <;> rfl
  case h_11 t x ix hx =>
    simp only [operA, opA, hx, evalC_run, indexAddrC_run, withH_eq]
    cases evalO P.globals.size e x <;> try rfl
    cases evalO P.globals.size e ix <;> rfl
  case h_12 t x ix hx =>
    simp only [operA, opA, hx, evalC_run, withH_eq]
    cases evalO P.globals.size e x <;> try rfl
    cases evalO P.globals.size e ix <;> rfl
  case h_13 t i hx =>
    simp only [operA, opA, hx, evalC_run, withH_eq, nthL_eq]
    cases evalO P.globals.size e t with
    | none => rfl
    | some v => cases v <;> first | rfl | simp
  case h_14 t parts hx =>
    simp only [operA, opA, hx, partsC_run, withH_eq, mapParts]
    cases partsO P.globals.size e parts.toList <;> rfl
  case h_15 t len parts hx =>
    simp only [operA, opA, hx, partsC_run, mapParts]
    cases partsO P.globals.size e parts.toList <;> rfl
  case h_16 t x hx => simp only [operA, opA, hx, evalC_run]; cases evalO P.globals.size e x <;> rfl
  case h_17 t x lo hi mx hx => simp only [operA, opA, hx]
  case h_18 hx => rw [builtinC_run]; simp only [operA, opA, hx]
  case h_19 f args _ hx =>
    simp only [operA, hx]
    cases f with
    | func k =>
      simp only [evalsC_run, evalO, mapO, Option.bind_some]
      cases evalsO P.globals.size e args.toList with
      | none => rfl
      | some vs => simp [callA]
    | _ =>
      simp only [evalsC_run, evalC_run, mapO]
      cases evalO P.globals.size e _ with
      | none => rfl
      | some g => cases evalsO P.globals.size e args.toList <;> rfl
  case h_20 => rfl

end Go.Ev

/- Steps, regions, code and calls, laid out ahead; and that they are as sound as the evaluator. -/
namespace Go.Ev

structure CU where run : AAct → Value → Option AAct
def putC : Option Tmp → CU
  | none => ⟨fun a _ => some a⟩
  | some d => ⟨fun a v => match a with | ⟨e, n, m⟩ => (match Nat.blt d n with | true => some ⟨(setC (d + 1) d).run e v, n, m⟩ | false => none)⟩
theorem putC_run (d : Option Tmp) (a : AAct) (v : Value) : (putC d).run a v = a.put d v := by
  cases d with
  | none => rfl
  | some d =>
    simp only [putC, AAct.put, setC_run]
    by_cases h : d < a.n
    · rw [if_pos h, show Nat.blt d a.n = true by rw [Nat.blt_eq]; exact h]; rfl
    · rw [if_neg h]
      cases hb : Nat.blt d a.n with
      | true => rw [Nat.blt_eq] at hb; exact (h hb).elim
      | false => rfl

structure CS where run : Self → Nat → AAct → AHeap → Option (AAct × AHeap)

def runC (P : Program) (o : Oper) (i : Nat) : CS :=
  ⟨fun S base a h => match a with | ⟨e, n, m⟩ => (match (opC P o).run S (base + i) e h with
    | some (v, h') => (match (putC o.dst).run ⟨e, n, m⟩ v with | some a' => some (a', h') | none => none)
    | none => none)⟩
def skipC (o : Oper) : CS := ⟨fun _ _ a h => match (putC o.dst).run a undef with | some a' => some (a', h) | none => none⟩

/-- The common operations, at one go. -/
noncomputable def fuseC (P : Program) (o : Oper) (i : Nat) : CS :=
  match o.dst with
  | none => runC P o i
  | some d =>
    match o.op with
    | .move x => ⟨fun _ _ a h => AAct.rec (motive := fun _ => Option (AAct × AHeap)) (fun e n m => Option.rec (motive := fun _ => Option (AAct × AHeap)) none (fun v => Bool.rec (motive := fun _ => Option (AAct × AHeap)) none (some (⟨(setC (d + 1) d).run e v, n, m⟩, h)) (Nat.blt d n)) ((evalC P x).run e)) a⟩
    | .assign x => ⟨fun _ _ a h => AAct.rec (motive := fun _ => Option (AAct × AHeap)) (fun e n m => Option.rec (motive := fun _ => Option (AAct × AHeap)) none (fun v => Bool.rec (motive := fun _ => Option (AAct × AHeap)) none (some (⟨(setC (d + 1) d).run e v, n, m⟩, h)) (Nat.blt d n)) ((evalC P x).run e)) a⟩
    | .binOp op t x y _ => ⟨fun _ _ a h => AAct.rec (motive := fun _ => Option (AAct × AHeap)) (fun e n m => Option.rec (motive := fun _ => Option (AAct × AHeap)) none (fun u => Option.rec (motive := fun _ => Option (AAct × AHeap)) none (fun v => Option.rec (motive := fun _ => Option (AAct × AHeap)) none (fun z => Bool.rec (motive := fun _ => Option (AAct × AHeap)) none (some (⟨(setC (d + 1) d).run e z, n, m⟩, h)) (Nat.blt d n)) ((binC P op t).run h u v)) ((evalC P y).run e)) ((evalC P x).run e)) a⟩
    | .load t x => ⟨fun _ _ a h => AAct.rec (motive := fun _ => Option (AAct × AHeap)) (fun e n m => Option.rec (motive := fun _ => Option (AAct × AHeap)) none (fun u => Option.rec (motive := fun _ => Option (AAct × AHeap)) none (fun z => Bool.rec (motive := fun _ => Option (AAct × AHeap)) none (some (⟨(setC (d + 1) d).run e z, n, m⟩, h)) (Nat.blt d n)) ((loadC P t).run h u)) ((evalC P x).run e)) a⟩
    | .fieldAddr t x f => ⟨fun _ _ a h => AAct.rec (motive := fun _ => Option (AAct × AHeap)) (fun e n m => Option.rec (motive := fun _ => Option (AAct × AHeap)) none (fun u => Option.rec (motive := fun _ => Option (AAct × AHeap)) none (fun z => Bool.rec (motive := fun _ => Option (AAct × AHeap)) none (some (⟨(setC (d + 1) d).run e z, n, m⟩, h)) (Nat.blt d n)) ((fieldAddrC P t f).run u)) ((evalC P x).run e)) a⟩
    | .indexAddr t x y => ⟨fun _ _ a h => AAct.rec (motive := fun _ => Option (AAct × AHeap)) (fun e n m => Option.rec (motive := fun _ => Option (AAct × AHeap)) none (fun u => Option.rec (motive := fun _ => Option (AAct × AHeap)) none (fun v => Option.rec (motive := fun _ => Option (AAct × AHeap)) none (fun z => Bool.rec (motive := fun _ => Option (AAct × AHeap)) none (some (⟨(setC (d + 1) d).run e z, n, m⟩, h)) (Nat.blt d n)) ((indexAddrC P t).run u v)) ((evalC P y).run e)) ((evalC P x).run e)) a⟩
    | _ => runC P o i

theorem fuseC_eq (P : Program) (S : Self) (o : Oper) (i base : Nat) (a : AAct) (h : AHeap) : (fuseC P o i).run S base a h = (runC P o i).run S base a h := by
  obtain ⟨e, n, m⟩ := a
  unfold fuseC
  cases hd : o.dst with
  | none => rfl
  | some d =>
    simp only
    have put : ∀ (v : Value) (h : AHeap), (match (putC (some d)).run ⟨e, n, m⟩ v with | some a' => some (a', h) | none => none) = (Bool.rec (motive := fun _ => Option (AAct × AHeap)) none (some (⟨(setC (d + 1) d).run e v, n, m⟩, h)) (Nat.blt d n)) := by
      intro v h
      simp only [putC]
      cases Nat.blt d n <;> rfl
    split
    · rename_i x hx
      simp only [runC, opC, hx, hd]
      cases (evalC P x).run e with
      | none => rfl
      | some v => exact (put v h).symm
    · rename_i x hx
      simp only [runC, opC, hx, hd]
      cases (evalC P x).run e with
      | none => rfl
      | some v => exact (put v h).symm
    · rename_i op t x y yt hx
      simp only [runC, opC, hx, hd]
      cases (evalC P x).run e with
      | none => rfl
      | some u =>
        cases (evalC P y).run e with
        | none => rfl
        | some v =>
          simp only
          cases (binC P op t).run h u v with
          | none => rfl
          | some z => exact (put z h).symm
    · rename_i t x hx
      simp only [runC, opC, hx, hd]
      cases (evalC P x).run e with
      | none => rfl
      | some u =>
        simp only
        cases (loadC P t).run h u with
        | none => rfl
        | some z => exact (put z h).symm
    · rename_i t x f hx
      simp only [runC, opC, hx, hd]
      cases (evalC P x).run e with
      | none => rfl
      | some u =>
        simp only
        cases (fieldAddrC P t f).run u with
        | none => rfl
        | some z => exact (put z h).symm
    · rename_i t x y hx
      simp only [runC, opC, hx, hd]
      cases (evalC P x).run e with
      | none => rfl
      | some u =>
        cases (evalC P y).run e with
        | none => rfl
        | some v =>
          simp only
          cases (indexAddrC P t).run u v with
          | none => rfl
          | some z => exact (put z h).symm
    · rfl

noncomputable def stepC (P : Program) (ops : Array Oper) (i : Nat) : CS :=
  match ops[i]? with
  | none => ⟨fun _ _ _ _ => none⟩
  | some o =>
    match o.guard with
    | none => fuseC P o i
    | some (j, want) =>
      match (ops[j]?).bind (·.dst) with
      | none => ⟨fun _ _ _ _ => none⟩
      | some d =>
        match want with
        | true => ⟨fun S base a h => match a with | ⟨e, n, m⟩ => (match (getC (d + 1) d).run e with
          | some (.bool b) => (match b with | true => (fuseC P o i).run S base ⟨e, n, m⟩ h | false => (skipC o).run S base ⟨e, n, m⟩ h)
          | some (.tuple _) => (skipC o).run S base ⟨e, n, m⟩ h
          | _ => none)⟩
        | false => ⟨fun S base a h => match a with | ⟨e, n, m⟩ => (match (getC (d + 1) d).run e with
          | some (.bool b) => (match b with | false => (fuseC P o i).run S base ⟨e, n, m⟩ h | true => (skipC o).run S base ⟨e, n, m⟩ h)
          | some (.tuple _) => (skipC o).run S base ⟨e, n, m⟩ h
          | _ => none)⟩

theorem runC_run0 (P : Program) (S : Self) (o : Oper) (i base : Nat) (a : AAct) (h : AHeap) : (runC P o i).run S base a h = (operA P S (base + i) a.env h o).bind fun (v, h') => (a.put o.dst v).map (·, h') := by
  simp only [runC, opC_run, putC_run]
  cases operA P S (base + i) a.env h o with
  | none => rfl
  | some x => obtain ⟨v, h'⟩ := x; simp only [Option.bind_some]; cases a.put o.dst v <;> rfl
theorem runC_run (P : Program) (S : Self) (o : Oper) (i base : Nat) (a : AAct) (h : AHeap) : (fuseC P o i).run S base a h = (operA P S (base + i) a.env h o).bind fun (v, h') => (a.put o.dst v).map (·, h') :=
  (fuseC_eq ..).trans (runC_run0 ..)
theorem skipC_run (S : Self) (o : Oper) (base : Nat) (a : AAct) (h : AHeap) : (skipC o).run S base a h = (a.put o.dst undef).map (·, h) := by
  simp only [skipC, putC_run]
  cases a.put o.dst undef <;> rfl

theorem stepC_run (P : Program) (S : Self) (base i : Nat) (ops : Array Oper) (a : AAct) (h : AHeap) : (stepC P ops i).run S base a h = stepA P S base ops i a h := by
  unfold stepC stepA
  cases hi : ops[i]? with
  | none => rfl
  | some o =>
    simp only
    cases hg : o.guard with
    | none => simp only [wantedA, hg]; exact runC_run ..
    | some jw =>
      obtain ⟨j, want⟩ := jw
      simp only [wantedA, hg]
      cases hd : (ops[j]?).bind (·.dst) with
      | none => rfl
      | some d =>
        simp only
        cases want with
        | true =>
          simp only [getC_run _ _ _ (Nat.lt_succ_self d)]
          cases a.env.get d with
          | none => rfl
          | some v =>
            cases v <;> try rfl
            · rename_i b; cases b
              · exact skipC_run S o base a h
              · exact runC_run ..
            · exact skipC_run S o base a h
        | false =>
          simp only [getC_run _ _ _ (Nat.lt_succ_self d)]
          cases a.env.get d with
          | none => rfl
          | some v =>
            cases v <;> try rfl
            · rename_i b; cases b
              · exact runC_run ..
              · exact skipC_run S o base a h
            · exact skipC_run S o base a h

noncomputable def opsC (P : Program) (ops : Array Oper) : List Nat → CS
  | [] => ⟨fun _ _ a h => some (a, h)⟩
  | i :: rest => ⟨fun S base a h => Option.rec (motive := fun _ => Option (AAct × AHeap)) none (fun r => Prod.rec (motive := fun _ => Option (AAct × AHeap)) (fun a' h' => (opsC P ops rest).run S base a' h') r) ((stepC P ops i).run S base a h)⟩
theorem opsC_run (P : Program) (S : Self) (base : Nat) (ops : Array Oper) : ∀ (l : List Nat) (a : AAct) (h : AHeap), (opsC P ops l).run S base a h = opsA P S base ops l a h
  | [], _, _ => rfl
  | i :: rest, a, h => by
    simp only [opsC, opsA, stepC_run]
    cases stepA P S base ops i a h with
    | none => rfl
    | some x => exact opsC_run P S base ops rest x.1 x.2

/-! ### Regions whose order is drawn -/
def sameF (u v : Value) : Bool :=
  match u with
  | .int j a => (match v with | .int k b => (match kindEq j k with | true => eqI a b | false => false) | v => sameV 3 (.int j a) v)
  | u => sameV 3 u v
theorem sameF_eq (u v : Value) : sameF u v = sameV 3 u v := by
  unfold sameF
  split
  · rename_i j a
    split
    · rename_i k b
      show _ = (j == k && a == b)
      rw [eqI_eq]
      split
      · rename_i hk; rw [(kindEq_iff _ _).1 hk]; simp
      · rename_i hk
        have : ¬ j = k := fun e => by rw [(kindEq_iff _ _).2 e] at hk; cases hk
        rw [show (j == k) = false by simp [this]]; rfl
    · rfl
  · rfl

structure CK where run : Self → Nat → List AHeap → AAct → AAct → Bool
def calmC (P : Program) (ops : Array Oper) (o : Oper) (i m : Nat) : CK :=
  ⟨fun S base sn a a' => match wantedA ops a.env o with
    | some true => (sn.take m).all fun H => match (opC P o).run S (base + i) a.env H with
      | some (u, _) => (match (o.dst).bind a'.env.get with | some v => sameF u v | none => false)
      | none => false
    | _ => true⟩
theorem calmC_run (P : Program) (S : Self) (base i m : Nat) (ops : Array Oper) (o : Oper) (sn : List AHeap) (a a' : AAct) (hr : readsH o.op = true) :
    (calmC P ops o i m).run S base sn a a' = calmOk P base ops o i m sn a a' := by
  have hc : ∀ H, operA P S (base + i) a.env H o = opA P H (base + i) a.env o := by
    intro H
    unfold operA
    split
    · rename_i heq; rw [heq] at hr; simp [readsH] at hr
    · rfl
  simp only [calmC, calmOk, hr, Bool.not_true, Bool.false_or, opC_run, hc, sameF_eq]
  cases wantedA ops a.env o with
  | none => rfl
  | some w =>
    cases w with
    | false => rfl
    | true =>
      simp only
      congr 1
      funext H
      cases opA P H (base + i) a.env o with
      | none => rfl
      | some x => obtain ⟨u, h2⟩ := x; cases (o.dst).bind a'.env.get <;> rfl

def lateL (ops : Array Oper) (rest : List (Nat × Nat)) : List Nat := (rest.filter fun p => !isEff (ops.getD p.1 default).op && isNew (ops.getD p.1 default).op).map (·.1)
structure CT where run : Nat → AHeap → Bool
def lateC : List Nat → CT
  | [] => ⟨fun _ _ => true⟩
  | i :: l => ⟨fun base h => match h.get (base + i) with | none => (lateC l).run base h | some _ => false⟩
theorem lateC_run (base : Nat) (h : AHeap) : ∀ l, (lateC l).run base h = l.all fun i => (h.get (base + i)).isNone
  | [] => rfl
  | i :: l => by
    simp only [lateC, List.all_cons]
    cases h.get (base + i) with
    | none => simp only [Option.isNone_none, Bool.true_and]; exact lateC_run base h l
    | some _ => rfl
theorem lateL_eq (base : Nat) (ops : Array Oper) (h : AHeap) : ∀ rest, ((lateL ops rest).all fun i => (h.get (base + i)).isNone) = lateOk base ops rest h
  | [] => rfl
  | p :: rest => by
    have ih := lateL_eq base ops h rest
    unfold lateL lateOk at ih ⊢
    rw [List.filter_cons, List.all_cons, ← ih]
    cases isEff (ops.getD p.1 default).op <;> cases isNew (ops.getD p.1 default).op <;> simp

structure CR where run : Self → Nat → List AHeap → AAct → AHeap → Option (AAct × AHeap)
noncomputable def planC (P : Program) (ops : Array Oper) : List (Nat × Nat) → CR
  | [] => ⟨fun _ _ _ a h => some (a, h)⟩
  | (i, m) :: rest =>
    match ops[i]? with
    | none => ⟨fun _ _ _ _ _ => none⟩
    | some o =>
      match isEff o.op with
      | true => ⟨fun S base sn a h => match (stepC P ops i).run S base a h with
        | none => none
        | some (a', h') => (match (lateC (lateL ops rest)).run base h' with
          | true => (planC P ops rest).run S base (h' :: sn) a' h'
          | false => none)⟩
      | false =>
        match readsH o.op with
        | false => ⟨fun S base sn a h => match (stepC P ops i).run S base a h with
          | none => none
          | some (a', h') => (planC P ops rest).run S base sn a' h'⟩
        | true => ⟨fun S base sn a h => match (stepC P ops i).run S base a h with
          | none => none
          | some (a', h') => (match (calmC P ops o i m).run S base sn a a' with
            | true => (planC P ops rest).run S base sn a' h'
            | false => none)⟩
theorem planC_run (P : Program) (S : Self) (base : Nat) (ops : Array Oper) : ∀ (pl : List (Nat × Nat)) (sn : List AHeap) (a : AAct) (h : AHeap), (planC P ops pl).run S base sn a h = planA P S base ops pl sn a h
  | [], _, _, _ => rfl
  | (i, m) :: rest, sn, a, h => by
    simp only [planC, planA]
    cases hi : ops[i]? with
    | none => rfl
    | some o =>
      simp only
      cases he : isEff o.op with
      | true =>
        simp only [stepC_run, if_true]
        cases stepA P S base ops i a h with
        | none => rfl
        | some x =>
          obtain ⟨a', h'⟩ := x
          simp only [lateC_run, lateL_eq]
          cases lateOk base ops rest h' with
          | true => simp only [if_true]; exact planC_run P S base ops rest _ _ _
          | false => rfl
      | false =>
        simp only [Bool.false_eq_true, if_false]
        cases hr : readsH o.op with
        | false =>
          simp only [stepC_run]
          cases stepA P S base ops i a h with
          | none => rfl
          | some x =>
            obtain ⟨a', h'⟩ := x
            have : calmOk P base ops o i m sn a a' = true := by simp [calmOk, hr]
            simp only [this, if_true]
            exact planC_run P S base ops rest _ _ _
        | true =>
          simp only [stepC_run]
          cases stepA P S base ops i a h with
          | none => rfl
          | some x =>
            obtain ⟨a', h'⟩ := x
            simp only [calmC_run P S base i m ops o sn a a' hr]
            cases calmOk P base ops o i m sn a a' with
            | true => simp only [if_true]; exact planC_run P S base ops rest _ _ _
            | false => rfl

structure CZ where run : Self → AAct → AHeap → Option (AAct × AHeap)
noncomputable def regionC (P : Program) (ops : Array Oper) (draw : Bool) : CZ :=
  match draw with
  | false => ⟨fun S a h => match h with | ⟨t, nx⟩ => (match nx + ops.size with | 0 => (opsC P ops (List.range ops.size)).run S nx a ⟨t, 0⟩ | k + 1 => (opsC P ops (List.range ops.size)).run S nx a ⟨t, k + 1⟩)⟩
  | true =>
    match planOf ops with
    | none => ⟨fun _ _ _ => none⟩
    | some pl =>
      match P.follows .mixedOrders with
      | false => ⟨fun _ _ _ => none⟩
      | true => ⟨fun S a h => match h with | ⟨t, nx⟩ => (match nx + ops.size with | 0 => (planC P ops pl).run S nx [⟨t, 0⟩] a ⟨t, 0⟩ | k + 1 => (planC P ops pl).run S nx [⟨t, k + 1⟩] a ⟨t, k + 1⟩)⟩
theorem regionC_run (P : Program) (S : Self) (ops : Array Oper) (draw : Bool) (a : AAct) (h : AHeap) : (regionC P ops draw).run S a h = regionA P S ops draw a h := by
  obtain ⟨t, nx⟩ := h
  unfold regionC regionA
  cases draw with
  | false =>
    simp only [Bool.false_eq_true, if_false]
    cases hn : nx + ops.size with
    | zero => exact opsC_run ..
    | succ k => exact opsC_run ..
  | true =>
    simp only [if_true]
    cases planOf ops with
    | none => rfl
    | some pl =>
      simp only
      cases P.follows .mixedOrders with
      | false => rfl
      | true =>
        simp only [if_true]
        cases hn : nx + ops.size with
        | zero => exact planC_run ..
        | succ k => exact planC_run ..

/-! ### Code -/
structure CC where run : Option Nat → Self → AAct → AHeap → Option (Out × AAct × AHeap)
noncomputable def codeC (P : Program) : Code → CC
  | .skip => ⟨fun _ _ a h => some (.normal, a, h)⟩
  | .ret => ⟨fun _ _ a h => some (.ret, a, h)⟩
  | .exit id => ⟨fun _ _ a h => some (.exit id, a, h)⟩
  | .seq x y => ⟨fun rd S a h => Option.rec (motive := fun _ => Option (Out × AAct × AHeap)) none (fun r => Prod.rec (motive := fun _ => Option (Out × AAct × AHeap)) (fun o r2 => Prod.rec (motive := fun _ => Option (Out × AAct × AHeap)) (fun a' h' =>
      Out.rec (motive := fun _ => Option (Out × AAct × AHeap)) ((codeC P y).run rd S a' h') (some (.ret, a', h')) (fun id => some (.exit id, a', h')) (fun l => some (.goto l, a', h')) o) r2) r) ((codeC P x).run rd S a h)⟩
  | .cond o x y => ⟨fun rd S a h => match a with | ⟨e, n, m⟩ => (match (evalC P o).run e with
    | some (.bool b) => (match b with | true => (codeC P x).run rd S ⟨e, n, m⟩ h | false => (codeC P y).run rd S ⟨e, n, m⟩ h)
    | _ => none)⟩
  | .block id x => ⟨fun rd S a h => Option.rec (motive := fun _ => Option (Out × AAct × AHeap)) none (fun r => Prod.rec (motive := fun _ => Option (Out × AAct × AHeap)) (fun o r2 => Prod.rec (motive := fun _ => Option (Out × AAct × AHeap)) (fun a' h' =>
      Out.rec (motive := fun _ => Option (Out × AAct × AHeap)) (some (.normal, a', h')) (some (.ret, a', h')) (fun id' => Bool.rec (motive := fun _ => Option (Out × AAct × AHeap)) (some (.exit id', a', h')) (some (.normal, a', h')) (Nat.beq id' id)) (fun l => some (.goto l, a', h')) o) r2) r) ((codeC P x).run rd S a h)⟩
  | .region _ ops draw => ⟨fun _ S a h => Option.rec (motive := fun _ => Option (Out × AAct × AHeap)) none (fun r => some (.normal, r)) ((regionC P ops draw).run S a h)⟩
  | .loop x => ⟨fun rd S a h => S.loop rd x a h⟩
  | c => ⟨fun rd S a h => codeA P S rd c a h⟩

section
variable {P : Program} {S : Self}
open Classical in
/-- With the two parts' own answers in the place of the code. -/
noncomputable def withTwo (P : Program) (S : Self) (x y : Code) : Self :=
  { S with code := fun rd c a h => if c = x ∨ c = y then (codeC P c).run rd S a h else none }

def CodeFine (P : Program) (S : Self) (c : Code) : Prop := ∀ rd a h out a' h', (codeC P c).run rd S a h = some (out, a', h') → CodeOk P rd a h out a' h' (fun F => c.wpIn F 0 P)

theorem withTwo_ok (hS : SelfOk P S) {x y : Code} (hx : CodeFine P S x) (hy : CodeFine P S y) : SelfOk P (withTwo P S x y) := by
  refine ⟨fun rd c a h out a' h' hv => ?_, hS.scope, hS.loop, hS.call⟩
  simp only [withTwo] at hv
  split at hv
  · rename_i hc
    rcases hc with rfl | rfl
    · exact hx _ _ _ _ _ _ hv
    · exact hy _ _ _ _ _ _ hv
  · cases hv

theorem codeC_ok (hS : SelfOk P S) : ∀ c, CodeFine P S c := by
  have other : ∀ c, (∀ rd a h, (codeC P c).run rd S a h = codeA P S rd c a h) → CodeFine P S c := fun c hc rd a h out a' h' hv => by
    rw [hc] at hv
    exact (stepS_ok (drawLaw P) hS).code rd c a h out a' h' hv
  intro c
  induction c with
  | seq x y ihx ihy =>
    intro rd a h out a' h' hv
    refine (stepS_ok (drawLaw P) (withTwo_ok hS ihx ihy)).code rd (.seq x y) a h out a' h' ?_
    rw [← hv]
    show thenA ((withTwo P S x y).code rd x a h) ((withTwo P S x y).code rd y) = _
    simp only [withTwo, codeC, true_or, or_true, if_true]
    unfold thenA
    cases (codeC P x).run rd S a h with
    | none => rfl
    | some r => obtain ⟨o, a1, h1⟩ := r; cases o <;> rfl
  | cond o x y ihx ihy =>
    intro rd a h out a' h' hv
    refine (stepS_ok (drawLaw P) (withTwo_ok hS ihx ihy)).code rd (.cond o x y) a h out a' h' ?_
    rw [← hv]
    show codeA P (withTwo P S x y) rd (.cond o x y) a h = _
    simp only [codeA, withTwo, codeC, evalC_run, true_or, or_true, if_true]
    cases evalO P.globals.size a.env o with
    | none => rfl
    | some v => cases v <;> try rfl
                rename_i b; cases b <;> rfl
  | block id x ihx =>
    intro rd a h out a' h' hv
    refine (stepS_ok (drawLaw P) (withTwo_ok hS ihx ihx)).code rd (.block id x) a h out a' h' ?_
    rw [← hv]
    show codeA P (withTwo P S x x) rd (.block id x) a h = _
    simp only [codeA, withTwo, codeC, or_self, if_true]
    cases (codeC P x).run rd S a h with
    | none => rfl
    | some r =>
      obtain ⟨o, a1, h1⟩ := r
      cases o <;> try rfl
      rename_i id'
      simp only
      by_cases he : id' = id
      · rw [if_pos he, show Nat.beq id' id = true by rw [he]; exact Nat.beq_refl id]
      · rw [if_neg he]
        cases hb : Nat.beq id' id with
        | true => exact (he (Nat.eq_of_beq_eq_true hb)).elim
        | false => rfl
  | region id ops draw =>
    refine other _ fun rd a h => ?_
    simp only [codeC, codeA, regionC_run]
    cases regionA P S ops draw a h <;> rfl
  | _ => exact other _ fun rd a h => rfl
end

/-! ### Calls -/
structure CA where run : Self → Array Value → AHeap → Option (Value × AHeap)
structure CD where run : AAct → AHeap → Option (Value × AHeap)
def doneC (P : Program) (fn : Func) : CD :=
  match fn.results.toList with
  | [.tmp t] => ⟨fun a h => match a.marks with
    | [] => (match (getC (t + 1) t).run a.env with | some v => some (v, h) | none => none)
    | m => (shutA m h).bind fun h2 => (resultsA P fn a.env h2).map (·, h2)⟩
  | _ => ⟨fun a h => (shutA a.marks h).bind fun h2 => (resultsA P fn a.env h2).map (·, h2)⟩
theorem doneC_run (P : Program) (fn : Func) (a : AAct) (h : AHeap) : (doneC P fn).run a h = (shutA a.marks h).bind fun h2 => (resultsA P fn a.env h2).map (·, h2) := by
  unfold doneC
  split
  · rename_i t ht
    cases hm : a.marks with
    | nil =>
      simp only [hm, shutA, Option.bind_some, resultsA, ht, getC_run _ _ _ (Nat.lt_succ_self t)]
      cases hg : a.env.get t <;> simp [resultA, hg]
    | cons => simp only [hm]
  · rfl

noncomputable def callC (P : Program) (f : FuncId) : CA :=
  match P.funcs[f]? with
  | none => ⟨fun _ _ _ => none⟩
  | some fn =>
    match fn.body with
    | none => ⟨fun _ _ _ => none⟩
    | some c =>
      match decide (fn.name = "runtime.NumGoroutine") with
      | true => ⟨fun _ _ _ => none⟩
      | false => ⟨fun S args h => match Nat.ble args.toList.length fn.ntmps with
        | false => none
        | true => (match (codeC P c).run none S ⟨argsEnv args.toList 0 .leaf, fn.ntmps, []⟩ h with
          | none => none
          | some (o, a, h1) => (match o with | .normal => (doneC P fn).run a h1 | .ret => (doneC P fn).run a h1 | _ => none))⟩

/-- A level of the evaluator above a given one. -/
noncomputable def evS (P : Program) (O : Oracle) (S : Self) : Self := {
      code := fun rd c a h => (codeC P c).run rd S a h
      scope := fun rd b c a h => scopeA S rd b c a h
      loop := fun rd x a h => Option.rec (motive := fun _ => Option (Out × AAct × AHeap)) none (fun r => Prod.rec (motive := fun _ => Option (Out × AAct × AHeap)) (fun o r2 => Prod.rec (motive := fun _ => Option (Out × AAct × AHeap)) (fun a' h' =>
        Out.rec (motive := fun _ => Option (Out × AAct × AHeap)) (S.loop rd x a' h') (some (.ret, a', h')) (fun id => some (.exit id, a', h')) (fun l => some (.goto l, a', h')) o) r2) r) ((codeC P x).run rd S a h)
      call := fun f args h => Option.rec (motive := fun _ => Option (Value × AHeap)) ((callC P f).run S args h) (fun r => some r) (O f args h) }

/-- The evaluator, its code laid out ahead: one step of fuel a call, and a round of a loop. -/
noncomputable def evC (P : Program) (O : Oracle) (k : Nat) : Self :=
  Nat.rec (motive := fun _ => Self) { code := fun _ _ _ _ => none, scope := fun _ _ _ _ _ => none, loop := fun _ _ _ _ => none, call := O } (fun _ S => evS P O S) k
theorem evC_succ (P : Program) (O : Oracle) (k : Nat) : evC P O (k + 1) = evS P O (evC P O k) := rfl

section
variable {P : Program} {S : Self}
noncomputable def withC (P : Program) (S : Self) : Self := { S with code := fun rd c a h => (codeC P c).run rd S a h }
theorem withC_ok (hS : SelfOk P S) : SelfOk P (withC P S) := ⟨fun rd c a h out a' h' hv => codeC_ok hS c rd a h out a' h' hv, hS.scope, hS.loop, hS.call⟩

theorem callC_run (f : FuncId) (args : Array Value) (h : AHeap) : (callC P f).run S args h = callFA P (withC P S) f args h := by
  unfold callC callFA
  cases P.funcs[f]? with
  | none => rfl
  | some fn =>
    simp only
    cases fn.body with
    | none => rfl
    | some c =>
      simp only
      by_cases hn : fn.name = "runtime.NumGoroutine"
      · rw [if_pos hn, decide_eq_true hn]
      · rw [if_neg hn, decide_eq_false hn]
        simp only [Array.length_toList, doneC_run, withC]
        by_cases hs : args.size ≤ fn.ntmps
        · rw [if_pos hs, show Nat.ble args.size fn.ntmps = true by rw [Nat.ble_eq]; exact hs]
          simp only
          cases (codeC P c).run none S ⟨argsEnv args.toList 0 .leaf, fn.ntmps, []⟩ h with
          | none => rfl
          | some r => obtain ⟨o, a, h1⟩ := r; cases o <;> rfl
        · rw [if_neg hs]
          cases hb : Nat.ble args.size fn.ntmps with
          | true => rw [Nat.ble_eq] at hb; exact (hs hb).elim
          | false => rfl

theorem evC_ok {O : Oracle} (hO : OracleOk P O) : ∀ k, SelfOk P (evC P O k)
  | 0 => by
    refine ⟨?_, ?_, ?_, ?_⟩
    · intro _ _ _ _ _ _ _ hv; cases hv
    · intro _ _ _ _ _ _ _ _ hv; cases hv
    · intro _ _ _ _ _ _ _ hv; cases hv
    · intro f args h v h' hv; exact hO f args h v h' hv
  | k + 1 => by
    have hS := evC_ok hO k
    have h1 := stepS_ok (drawLaw P) hS
    have h2 := stepS_ok (drawLaw P) (withC_ok hS)
    refine ⟨fun rd c a h out a' h' hv => codeC_ok hS c rd a h out a' h' hv, fun rd b c a h out a' h' hv => h1.scope rd b c a h out a' h' hv, fun rd c a h out a' h' hv => h2.loop rd c a h out a' h' ?_, fun f args h v h' hv => ?_⟩
    · rw [← hv]
      show thenA ((withC P (evC P O k)).code rd c a h) ((withC P (evC P O k)).loop rd c) = _
      simp only [withC, evC_succ, evS]
      unfold thenA
      cases (codeC P c).run rd (evC P O k) a h with
      | none => rfl
      | some r => obtain ⟨o, a1, h1⟩ := r; cases o <;> rfl
    · simp only [evC_succ, evS] at hv
      cases hr : O f args h with
      | some r =>
        rw [hr] at hv
        cases hv
        exact hO f args h v h' hr
      | none =>
        rw [hr] at hv
        simp only at hv
        rw [callC_run] at hv
        exact h2.call f args h v h' hv

theorem evC_call {O : Oracle} (hO : OracleOk P O) {k : Nat} {f : FuncId} {args : Array Value} {v : Value} {h h' : AHeap} (hv : (evC P O k).call f args h = some (v, h')) : CallOk P f args h v h' :=
  (evC_ok hO k).call f args h v h' hv
end

end Go.Ev
