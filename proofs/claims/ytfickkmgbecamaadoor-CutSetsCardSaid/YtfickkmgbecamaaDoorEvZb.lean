/- The evaluator with answers laid by hand; more fuel keeps the answer. -/
import Derived.Test.YtfickkmgbecamaaDoorEvZa
namespace Go.Ev

/-- What a call owes. -/
def CallOk (P : Program) (f : FuncId) (args : Array Value) (h : AHeap) (v : Value) (h' : AHeap) : Prop :=
  (∃ fn c, P.funcs[f]? = some fn ∧ fn.body = some c ∧ fn.name ≠ "runtime.NumGoroutine") ∧
    ∀ μ w (args' : Array Value) R, Rel P μ h w → Top μ h → VsRel μ args.toList args'.toList →
    (∀ μ' w' v', Fin P μ h w μ' h' w' → VRel μ' v v' → R (.returned v') w') → CallsIn Fence.wide 0 P f args' w R

abbrev Oracle := FuncId → Array Value → AHeap → Option (Value × AHeap)

def OracleOk (P : Program) (O : Oracle) : Prop := ∀ f args h v h', O f args h = some (v, h') → CallOk P f args h v h'

def evO (P : Program) (O : Oracle) : Nat → Self
  | 0 => { code := fun _ _ _ _ => none, scope := fun _ _ _ _ _ => none, loop := fun _ _ _ _ => none, call := O }
  | k + 1 => { stepS P (evO P O k) with call := fun f args h => match O f args h with | some r => some r | none => callFA P (evO P O k) f args h }

theorem evO_ok {P : Program} {O : Oracle} (hO : OracleOk P O) : ∀ k, SelfOk P (evO P O k)
  | 0 => by
    refine ⟨?_, ?_, ?_, ?_⟩
    · intro _ _ _ _ _ _ _ hv; cases hv
    · intro _ _ _ _ _ _ _ _ hv; cases hv
    · intro _ _ _ _ _ _ _ hv; cases hv
    · intro f args h v h' hv; exact hO f args h v h' hv
  | k + 1 => by
    have hS := stepS_ok (drawLaw P) (evO_ok hO k)
    refine ⟨hS.code, hS.scope, hS.loop, fun f args h v h' hv => ?_⟩
    simp only [evO] at hv
    split at hv
    · rename_i r hr
      cases hv
      exact hO f args h v h' hr
    · exact hS.call f args h v h' hv

structure Self.le (S S' : Self) : Prop where
  code : ∀ rd c a h r, S.code rd c a h = some r → S'.code rd c a h = some r
  scope : ∀ rd b c a h r, S.scope rd b c a h = some r → S'.scope rd b c a h = some r
  loop : ∀ rd c a h r, S.loop rd c a h = some r → S'.loop rd c a h = some r
  call : ∀ f args h r, S.call f args h = some r → S'.call f args h = some r

section
variable {P : Program} {S S' : Self}

theorem thenA_mono {r r' : Option (Out × AAct × AHeap)} {k k' : AAct → AHeap → Option (Out × AAct × AHeap)} {x : Out × AAct × AHeap} (hr : ∀ y, r = some y → r' = some y) (hk : ∀ a h y, k a h = some y → k' a h = some y) (hx : thenA r k = some x) : thenA r' k' = some x := by
  unfold thenA at hx ⊢
  split at hx
  · rename_i a h
    rw [hr _ rfl]
    exact hk _ _ _ hx
  · rename_i hne
    rw [hr _ hx]
    obtain ⟨o, a, h⟩ := x
    cases o with
    | normal => exact (hne a h hx).elim
    | _ => rfl

theorem roundA_mono (hS : S.le S') {l : Nat} {args : Array Value} {h : AHeap} {r : Value × AHeap} (hr : roundA S l args h = some r) : roundA S' l args h = some r := by
  unfold roundA at hr ⊢
  split at hr
  case h_2 => cases hr
  rename_i L hL
  split at hr
  case h_2 => cases hr
  rename_i e he
  split at hr
  case h_2 => cases hr
  rename_i a1 h1 hc
  simp only [hS.code _ _ _ _ _ hc]
  split at hr
  case h_2 => cases hr
  rename_i L1 hL1
  split at hr
  case isFalse => cases hr
  rename_i hcond
  rw [if_pos hcond]
  split at hr
  case h_2 => cases hr
  rename_i out a2 h3 hc2
  rw [hS.code _ _ _ _ _ hc2]
  exact hr

theorem callA_mono (hS : S.le S') {f : Value} {args : Array Value} {h : AHeap} {r : Value × AHeap} (hr : callA S f args h = some r) : callA S' f args h = some r := by
  unfold callA at hr ⊢
  split at hr
  · exact hS.call _ _ _ _ hr
  · split at hr
    · rename_i hc; rw [if_pos hc]; exact roundA_mono hS hr
    · cases hr
  · cases hr

theorem operA_mono (hS : S.le S') {id : Nat} {e : Tr Value} {h : AHeap} {o : Oper} {r : Value × AHeap} (hr : operA P S id e h o = some r) : operA P S' id e h o = some r := by
  unfold operA at hr ⊢
  split at hr
  · obtain ⟨g, hg, hr⟩ := Option.bind_eq_some_iff.1 hr
    obtain ⟨vs, hvs, hr⟩ := Option.bind_eq_some_iff.1 hr
    simp only [hg, hvs, Option.bind_some]
    exact callA_mono hS hr
  · exact hr

theorem stepA_mono (hS : S.le S') {base i : Nat} {ops : Array Oper} {a : AAct} {h : AHeap} {r : AAct × AHeap} (hr : stepA P S base ops i a h = some r) : stepA P S' base ops i a h = some r := by
  unfold stepA at hr ⊢
  split at hr
  · cases hr
  split at hr
  · rename_i hw
    obtain ⟨x, hx, hr⟩ := Option.bind_eq_some_iff.1 hr
    simp only [operA_mono hS hx, Option.bind_some]
    exact hr
  · exact hr
  · cases hr

theorem opsA_mono (hS : S.le S') {base : Nat} {ops : Array Oper} : ∀ {l : List Nat} {a : AAct} {h : AHeap} {r : AAct × AHeap}, opsA P S base ops l a h = some r → opsA P S' base ops l a h = some r
  | [], _, _, _, hr => hr
  | i :: l, a, h, r, hr => by
    simp only [opsA] at hr ⊢
    split at hr
    · rename_i a' h' hs
      rw [stepA_mono hS hs]
      exact opsA_mono hS hr
    · cases hr

theorem planA_mono (hS : S.le S') {base : Nat} {ops : Array Oper} : ∀ {pl : List (Nat × Nat)} {sn : List AHeap} {a : AAct} {h : AHeap} {r : AAct × AHeap}, planA P S base ops pl sn a h = some r → planA P S' base ops pl sn a h = some r
  | [], _, _, _, _, hr => hr
  | (i, m) :: l, sn, a, h, r, hr => by
    simp only [planA] at hr ⊢
    split at hr
    · cases hr
    split at hr
    · cases hr
    rename_i a' h' hs
    rw [stepA_mono hS hs]
    simp only
    split at hr
    · rename_i he
      rw [if_pos he]
      split at hr
      · rename_i hl; rw [if_pos hl]; exact planA_mono hS hr
      · cases hr
    · rename_i he
      rw [if_neg he]
      split at hr
      · rename_i hl; rw [if_pos hl]; exact planA_mono hS hr
      · cases hr

theorem regionA_mono (hS : S.le S') {ops : Array Oper} {draw : Bool} {a : AAct} {h : AHeap} {r : AAct × AHeap} (hr : regionA P S ops draw a h = some r) : regionA P S' ops draw a h = some r := by
  unfold regionA at hr ⊢
  simp only at hr ⊢
  split at hr
  · rename_i hd
    rw [if_pos hd]
    split at hr
    · split at hr
      · rename_i hm; rw [if_pos hm]; exact planA_mono hS hr
      · cases hr
    · cases hr
  · rename_i hd
    rw [if_neg hd]
    exact opsA_mono hS hr

theorem rangeA_mono (hS : S.le S') {rd : Option Nat} {g : Operand} {ps : Array Tmp} {assign body : Code} {a : AAct} {h : AHeap} {r : Out × AAct × AHeap} (hr : rangeA P S rd g ps assign body a h = some r) : rangeA P S' rd g ps assign body a h = some r := by
  unfold rangeA at hr ⊢
  split at hr
  case h_2 => cases hr
  split at hr
  case h_2 => cases hr
  split at hr
  · cases hr
  simp only
  split at hr
  case h_2 => cases hr
  rename_i v h3 hc
  rw [hS.call _ _ _ _ hc]
  simp only
  split at hr
  case h_2 => cases hr
  split at hr
  · cases hr
  rename_i hb
  rw [if_neg hb]
  simp only at hr ⊢
  split at hr
  · exact hr
  · exact hS.code _ _ _ _ _ hr

theorem callFA_mono (hS : S.le S') {f : FuncId} {args : Array Value} {h : AHeap} {r : Value × AHeap} (hr : callFA P S f args h = some r) : callFA P S' f args h = some r := by
  unfold callFA at hr ⊢
  split at hr
  case h_2 => cases hr
  split at hr
  case h_2 => cases hr
  split at hr
  · cases hr
  rename_i hn
  rw [if_neg hn]
  split at hr
  case isFalse => cases hr
  rename_i hs
  rw [if_pos hs]
  split at hr
  · rename_i hc; rw [hS.code _ _ _ _ _ hc]; exact hr
  · rename_i hc; rw [hS.code _ _ _ _ _ hc]; exact hr
  · cases hr

theorem codeA_mono (hS : S.le S') {rd : Option Nat} {c : Code} {a : AAct} {h : AHeap} {r : Out × AAct × AHeap} (hr : codeA P S rd c a h = some r) : codeA P S' rd c a h = some r := by
  unfold codeA at hr ⊢
  split at hr
  · exact hr
  · exact hr
  · exact hr
  · exact hr
  · exact hr
  · exact thenA_mono (fun y hy => hS.code _ _ _ _ _ hy) (fun a h y hy => hS.code _ _ _ _ _ hy) hr
  · split at hr
    · exact hS.code _ _ _ _ _ hr
    · exact hS.code _ _ _ _ _ hr
    · cases hr
  · split at hr
    · rename_i id' a' h' hc
      rw [hS.code _ _ _ _ _ hc]
      exact hr
    · rename_i hne
      rw [hS.code _ _ _ _ _ hr]
      obtain ⟨o, a', h'⟩ := r
      cases o with
      | exit id => exact (hne _ _ _ hr).elim
      | _ => rfl
  · exact hS.loop _ _ _ _ _ hr
  · exact hS.scope _ _ _ _ _ _ hr
  · simp only [Option.map_eq_some_iff] at hr ⊢
    obtain ⟨x, hx, hr⟩ := hr
    exact ⟨x, regionA_mono hS hx, hr⟩
  · exact rangeA_mono hS hr
  · cases hr

theorem scopeA_mono (hS : S.le S') {rd : Option Nat} {body c : Code} {a : AAct} {h : AHeap} {r : Out × AAct × AHeap} (hr : scopeA S rd body c a h = some r) : scopeA S' rd body c a h = some r := by
  unfold scopeA at hr ⊢
  split at hr
  · rename_i l a' h' hc
    rw [hS.code _ _ _ _ _ hc]
    simp only
    split at hr
    · exact hS.scope _ _ _ _ _ _ hr
    · exact hr
  · rename_i hne
    rw [hS.code _ _ _ _ _ hr]
    obtain ⟨o, a', h'⟩ := r
    cases o with
    | goto l => exact (hne _ _ _ hr).elim
    | _ => rfl

theorem evO_le (O : Oracle) : ∀ k, (evO P O k).le (evO P O (k + 1))
  | 0 => by
    refine ⟨?_, ?_, ?_, ?_⟩
    · intro _ _ _ _ _ hv; cases hv
    · intro _ _ _ _ _ _ hv; cases hv
    · intro _ _ _ _ _ hv; cases hv
    · intro f args h r hv
      have hv' : O f args h = some r := hv
      simp only [evO, hv']
  | k + 1 => by
    have ih := evO_le O k
    refine ⟨fun rd c a h r hr => codeA_mono ih hr, fun rd b c a h r hr => scopeA_mono ih hr, fun rd c a h r hr => thenA_mono (fun y hy => ih.code _ _ _ _ _ hy) (fun a h y hy => ih.loop _ _ _ _ _ hy) hr, fun f args h r hr => ?_⟩
    simp only [evO] at hr ⊢
    split at hr
    · exact hr
    · exact callFA_mono ih hr

theorem Self.le_refl (S : Self) : S.le S := ⟨fun _ _ _ _ _ h => h, fun _ _ _ _ _ _ h => h, fun _ _ _ _ _ h => h, fun _ _ _ _ h => h⟩
theorem Self.le_trans {A B C : Self} (h : A.le B) (k : B.le C) : A.le C :=
  ⟨fun _ _ _ _ _ x => k.code _ _ _ _ _ (h.code _ _ _ _ _ x), fun _ _ _ _ _ _ x => k.scope _ _ _ _ _ _ (h.scope _ _ _ _ _ _ x), fun _ _ _ _ _ x => k.loop _ _ _ _ _ (h.loop _ _ _ _ _ x), fun _ _ _ _ x => k.call _ _ _ _ (h.call _ _ _ _ x)⟩

theorem evO_mono (O : Oracle) {k k' : Nat} (hk : k ≤ k') : (evO P O k).le (evO P O k') := by
  induction hk with
  | refl => exact Self.le_refl _
  | step _ ih => exact Self.le_trans ih (evO_le O _)

end
end Go.Ev
