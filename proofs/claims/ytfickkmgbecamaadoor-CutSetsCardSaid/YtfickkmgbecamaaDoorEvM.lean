/- What is owed of the evaluator, and an operation amid a region. -/
import Derived.Test.YtfickkmgbecamaaDoorEvL
import Derived.OrdersIn
import Derived.RangeFuncRecord
import Derived.RangeFuncNested
namespace Go.Ev

def exitOf : Out → Exit
  | .normal => .normal
  | .ret => .ret
  | .exit id => .exit id
  | .goto l => .goto l

def Top (μ : Mu) (h : AHeap) : Prop := ∀ b, h.next ≤ b → μ b = none

/-- Where a run of the evaluator's has led. -/
structure Fin (P : Program) (μ : Mu) (h : AHeap) (w : World) (μ' : Mu) (h' : AHeap) (w' : World) : Prop where
  rel : Rel P μ' h' w'
  ste : Ste μ h w μ' h' w'
  top : Top μ' h'
  low : ∀ b, b < h.next → μ b = none → μ' b = none
  nxt : h.next ≤ h'.next

theorem Fin.refl {P : Program} {μ : Mu} {h : AHeap} {w : World} (hR : Rel P μ h w) (hT : Top μ h) : Fin P μ h w μ h w :=
  ⟨hR, Ste.refl _ _ _, hT, fun _ _ h => h, Nat.le_refl _⟩
theorem Fin.trans {P : Program} {μ μ' μ'' : Mu} {h h' h'' : AHeap} {w w' w'' : World} (a : Fin P μ h w μ' h' w') (b : Fin P μ' h' w' μ'' h'' w'') : Fin P μ h w μ'' h'' w'' :=
  ⟨b.rel, a.ste.trans b.ste, b.top, fun x hx h0 => b.low x (Nat.lt_of_lt_of_le hx a.nxt) (a.low x hx h0), Nat.le_trans a.nxt b.nxt⟩

inductive DefRel (μ : Mu) : List Nat → List Deferred → Prop where
  | nil : DefRel μ [] []
  | cons {D : Nat} {Ds : List Nat} {i : Img} {ds : List Deferred} (h : μ D = some i) (hs : DefRel μ Ds ds) : DefRel μ (D :: Ds) ({ target := .collected i.blk, args := #[] } :: ds)

theorem DefRel.mono {μ μ' : Mu} (hμ : μ.le μ') : ∀ {a : List Nat} {b : List Deferred}, DefRel μ a b → DefRel μ' a b
  | _, _, .nil => .nil
  | _, _, .cons h hs => .cons (hμ _ _ h) (DefRel.mono hμ hs)

structure ARel (μ : Mu) (a : AAct) (act : Act) : Prop where
  tmps : TmpsRel μ a.env a.n act.tmps
  defs : DefRel μ a.marks act.defers

theorem ARel.mono {μ μ' : Mu} (hμ : μ.le μ') {a : AAct} {act : Act} (h : ARel μ a act) : ARel μ' a act := ⟨h.tmps.mono hμ, h.defs.mono hμ⟩

theorem TmpsRel.set {μ : Mu} {e : Tr Value} {n : Nat} {tmps : Array Value} (h : TmpsRel μ e n tmps) {d : Nat} (hd : d < n) {v v' : Value} (hv : VRel μ v v') : TmpsRel μ (e.set d v) n (tmps.setIfInBounds d v') := by
  refine ⟨by simp [h.size], fun t u hu => ?_⟩
  rw [Tr.get_set] at hu
  split at hu
  · rename_i e; subst e; cases hu
    exact ⟨v', by simp [h.size, hd], hv⟩
  · rename_i e
    obtain ⟨u', h1, h2⟩ := h.get t u hu
    exact ⟨u', by rw [Array.getElem?_setIfInBounds_ne (fun e' => e e'.symm)]; exact h1, h2⟩

theorem ARel.put {μ : Mu} {a a' : AAct} {act : Act} (h : ARel μ a act) {dst : Option Tmp} {v v' : Value} (hv : VRel μ v v') (hp : a.put dst v = some a') : ARel μ a' (act.put dst v') := by
  unfold AAct.put at hp
  cases dst with
  | none => simp at hp; subst hp; exact h
  | some d =>
    simp only at hp
    split at hp
    · rename_i hd; cases hp; exact ⟨h.tmps.set hd hv, h.defs⟩
    · cases hp

def FOk (μ : Mu) (rd : Option Nat) (F : Fence) : Prop :=
  match rd with
  | none => F = Fence.wide
  | some l => ∃ i, μ l = some i ∧ F = Fence.wide.inRound i.blk

theorem FOk.mono {μ μ' : Mu} (hμ : μ.le μ') {rd : Option Nat} {F : Fence} (h : FOk μ rd F) : FOk μ' rd F := by
  cases rd with
  | none => exact h
  | some l => obtain ⟨i, h1, h2⟩ := h; exact ⟨i, hμ _ _ h1, h2⟩

theorem FOk.fn {μ : Mu} {rd : Option Nat} {F : Fence} (h : FOk μ rd F) (f : FuncId) : F.fn f := by
  cases rd with
  | none => cases h; trivial
  | some l => obtain ⟨i, _, h2⟩ := h; subst h2; trivial

theorem FOk.room {μ : Mu} {rd : Option Nat} {F : Fence} (h : FOk μ rd F) (n : Nat) : F.room n := by
  cases rd with
  | none => cases h; exact room_wide n
  | some l => obtain ⟨i, _, h2⟩ := h; subst h2; exact room_wide n

theorem FOk.depth {μ : Mu} {rd : Option Nat} {F : Fence} (h : FOk μ rd F) : F.depth.isSome = true → 1 ≤ 0 := by
  cases rd with
  | none => cases h; simp [Fence.wide]
  | some l => obtain ⟨i, _, h2⟩ := h; subst h2; simp [Fence.wide]

/-- What the model's code owes, where the evaluator has answered. -/
def CodeOk (P : Program) (rd : Option Nat) (a : AAct) (h : AHeap) (out : Out) (a' : AAct) (h' : AHeap) (go : Fence → (Exit → Act → World → Prop) → Act → World → Prop) : Prop :=
  ∀ F μ w act Q, FOk μ rd F → Rel P μ h w → Top μ h → ARel μ a act →
    (∀ μ' w' act', Fin P μ h w μ' h' w' → ARel μ' a' act' → Q (exitOf out) act' w') → go F Q act w

/-- A run from a list of items on. -/
def runs (P : Program) (its : List Item) (F : Fence) (Q : Exit → Act → World → Prop) (act : Act) (w : World) : Prop :=
  ∀ (b : Frame) (k : List Item) (cs : List Frame), b.roundOf = F.round →
    ∃ e act' w', Q e act' w' ∧ ArrivesIn (Machine.fenced P F) P (lone (b.atR act (its ++ k)) cs w) b k cs e act' w'

structure SelfOk (P : Program) (S : Self) : Prop where
  code : ∀ rd c a h out a' h', S.code rd c a h = some (out, a', h') → CodeOk P rd a h out a' h' (fun F => c.wpIn F 0 P)
  scope : ∀ rd body c a h out a' h', S.scope rd body c a h = some (out, a', h') → CodeOk P rd a h out a' h' (runs P [.code c, .inScope body])
  loop : ∀ rd c a h out a' h', S.loop rd c a h = some (out, a', h') → CodeOk P rd a h out a' h' (runs P [.code c, .inLoop c])
  call : ∀ f args h v h', S.call f args h = some (v, h') → (∃ fn c, P.funcs[f]? = some fn ∧ fn.body = some c ∧ fn.name ≠ "runtime.NumGoroutine") ∧
    ∀ μ w (args' : Array Value) R, Rel P μ h w → Top μ h → VsRel μ args.toList args'.toList →
    (∀ μ' w' v', Fin P μ h w μ' h' w' → VRel μ' v v' → R (.returned v') w') → CallsIn Fence.wide 0 P f args' w R

/-! ### Is an operation wanted? -/

theorem wantedA_ok {μ : Mu} {e : Tr Value} {n : Nat} {tmps : Array Value} (hT : TmpsRel μ e n tmps) {ops : Array Oper} {o : Oper} {b : Bool} (hw : wantedA ops e o = some b) :
    Region.wanted o (yielded ops tmps) = b := by
  unfold wantedA at hw
  unfold Region.wanted
  split at hw
  · rename_i hg; rw [hg]; simpa using hw
  · rename_i j want hg
    rw [hg]
    simp only
    split at hw
    · rename_i d hd
      unfold yielded
      rw [hd]
      split at hw
      · rename_i b0 hb
        obtain ⟨v', h1, h2⟩ := hT.get d _ hb
        cases h2
        simp only [Option.bind_some, h1, Option.some.injEq] at hw ⊢
        rw [← hw]; cases b0 <;> cases want <;> rfl
      · rename_i cs hb
        obtain ⟨v', h1, h2⟩ := hT.get d _ hb
        cases h2
        simp only [Option.bind_some, h1, Option.some.injEq] at hw ⊢
        rw [← hw]; rfl
      · cases hw
    · cases hw

/-! ### One operation -/

theorem run_callFunc {P : Program} {f : FuncId} {fn : Func} {c : Code} (hf : P.funcs[f]? = some fn) (hb : fn.body = some c) (hn : fn.name ≠ "runtime.NumGoroutine") (args : Array Value) (w : World) :
    (callFunc f args).run P w = .ok (.enter f args) w := by
  simp [callFunc, hf, hb, hn]

theorem opA_defer {P : Program} {h : AHeap} {id : Nat} {e : Tr Value} {o : Oper} {c : Call} (ho : o.op = .defer c) : opA P h id e o = none := by
  unfold opA; rw [ho]

theorem VsRel.appendA {μ : Mu} {a a' b b' : Array Value} (h : VsRel μ a.toList a'.toList) (k : VsRel μ b.toList b'.toList) : VsRel μ (a ++ b).toList (a' ++ b').toList := by
  simpa using h.append k

end Go.Ev
