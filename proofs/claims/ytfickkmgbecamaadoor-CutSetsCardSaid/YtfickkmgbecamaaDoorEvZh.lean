/- Steps, regions, code and calls, laid out ahead; and that they are as sound as the evaluator. -/
import Derived.Test.YtfickkmgbecamaaDoorEvZg
namespace Go.Ev

structure CU where run : AAct → Value → Option AAct
def putC : Option Tmp → CU
  | none => ⟨fun a _ => some a⟩
  | some d => ⟨fun a v => match Nat.blt d a.n with | true => some ⟨(setC (d + 1) d).run a.env v, a.n, a.marks⟩ | false => none⟩
theorem putC_run (d : Option Tmp) (a : AAct) (v : Value) : (putC d).run a v = a.put d v := by
  cases d with
  | none => rfl
  | some d =>
    simp only [putC, AAct.put, setC_run]
    by_cases h : d < a.n
    · rw [if_pos h, show Nat.blt d a.n = true by rw [Nat.blt_eq]; exact h]; rfl
    · rw [if_neg h]
      cases hb : Nat.blt d a.n with
      | true => rw [Nat.blt_eq] at hb; exact (h hb).elim
      | false => rfl

structure CS where run : Self → Nat → AAct → AHeap → Option (AAct × AHeap)

def runC (P : Program) (o : Oper) (i : Nat) : CS :=
  ⟨fun S base a h => match (opC P o).run S (base + i) a.env h with
    | some (v, h') => (match (putC o.dst).run a v with | some a' => some (a', h') | none => none)
    | none => none⟩
def skipC (o : Oper) : CS := ⟨fun _ _ a h => match (putC o.dst).run a undef with | some a' => some (a', h) | none => none⟩

def stepC (P : Program) (ops : Array Oper) (i : Nat) : CS :=
  match ops[i]? with
  | none => ⟨fun _ _ _ _ => none⟩
  | some o =>
    match o.guard with
    | none => runC P o i
    | some (j, want) =>
      match (ops[j]?).bind (·.dst) with
      | none => ⟨fun _ _ _ _ => none⟩
      | some d =>
        match want with
        | true => ⟨fun S base a h => match (getC (d + 1) d).run a.env with
          | some (.bool b) => (match b with | true => (runC P o i).run S base a h | false => (skipC o).run S base a h)
          | some (.tuple _) => (skipC o).run S base a h
          | _ => none⟩
        | false => ⟨fun S base a h => match (getC (d + 1) d).run a.env with
          | some (.bool b) => (match b with | false => (runC P o i).run S base a h | true => (skipC o).run S base a h)
          | some (.tuple _) => (skipC o).run S base a h
          | _ => none⟩

theorem runC_run (P : Program) (S : Self) (o : Oper) (i base : Nat) (a : AAct) (h : AHeap) : (runC P o i).run S base a h = (operA P S (base + i) a.env h o).bind fun (v, h') => (a.put o.dst v).map (·, h') := by
  simp only [runC, opC_run, putC_run]
  cases operA P S (base + i) a.env h o with
  | none => rfl
  | some x => obtain ⟨v, h'⟩ := x; simp only [Option.bind_some]; cases a.put o.dst v <;> rfl
theorem skipC_run (S : Self) (o : Oper) (base : Nat) (a : AAct) (h : AHeap) : (skipC o).run S base a h = (a.put o.dst undef).map (·, h) := by
  simp only [skipC, putC_run]
  cases a.put o.dst undef <;> rfl

theorem stepC_run (P : Program) (S : Self) (base i : Nat) (ops : Array Oper) (a : AAct) (h : AHeap) : (stepC P ops i).run S base a h = stepA P S base ops i a h := by
  unfold stepC stepA
  cases hi : ops[i]? with
  | none => rfl
  | some o =>
    simp only
    cases hg : o.guard with
    | none => simp only [wantedA, hg]; exact runC_run ..
    | some jw =>
      obtain ⟨j, want⟩ := jw
      simp only [wantedA, hg]
      cases hd : (ops[j]?).bind (·.dst) with
      | none => rfl
      | some d =>
        simp only
        cases want with
        | true =>
          simp only [getC_run _ _ _ (Nat.lt_succ_self d)]
          cases a.env.get d with
          | none => rfl
          | some v =>
            cases v <;> try rfl
            · rename_i b; cases b
              · exact skipC_run S o base a h
              · exact runC_run ..
            · exact skipC_run S o base a h
        | false =>
          simp only [getC_run _ _ _ (Nat.lt_succ_self d)]
          cases a.env.get d with
          | none => rfl
          | some v =>
            cases v <;> try rfl
            · rename_i b; cases b
              · exact runC_run ..
              · exact skipC_run S o base a h
            · exact skipC_run S o base a h

def opsC (P : Program) (ops : Array Oper) : List Nat → CS
  | [] => ⟨fun _ _ a h => some (a, h)⟩
  | i :: rest => ⟨fun S base a h => match (stepC P ops i).run S base a h with
    | some (a', h') => (opsC P ops rest).run S base a' h'
    | none => none⟩
theorem opsC_run (P : Program) (S : Self) (base : Nat) (ops : Array Oper) : ∀ (l : List Nat) (a : AAct) (h : AHeap), (opsC P ops l).run S base a h = opsA P S base ops l a h
  | [], _, _ => rfl
  | i :: rest, a, h => by
    simp only [opsC, opsA, stepC_run]
    cases stepA P S base ops i a h with
    | none => rfl
    | some x => exact opsC_run P S base ops rest x.1 x.2

/-! ### Regions whose order is drawn -/
def sameF (u v : Value) : Bool :=
  match u with
  | .int j a => (match v with | .int k b => (match kindEq j k with | true => eqI a b | false => false) | v => sameV 3 (.int j a) v)
  | u => sameV 3 u v
theorem sameF_eq (u v : Value) : sameF u v = sameV 3 u v := by
  unfold sameF
  split
  · rename_i j a
    split
    · rename_i k b
      show _ = (j == k && a == b)
      rw [eqI_eq]
      split
      · rename_i hk; rw [(kindEq_iff _ _).1 hk]; simp
      · rename_i hk
        have : ¬ j = k := fun e => by rw [(kindEq_iff _ _).2 e] at hk; cases hk
        rw [show (j == k) = false by simp [this]]; rfl
    · rfl
  · rfl

structure CK where run : Self → Nat → List AHeap → AAct → AAct → Bool
def calmC (P : Program) (ops : Array Oper) (o : Oper) (i m : Nat) : CK :=
  ⟨fun S base sn a a' => match wantedA ops a.env o with
    | some true => (sn.take m).all fun H => match (opC P o).run S (base + i) a.env H with
      | some (u, _) => (match (o.dst).bind a'.env.get with | some v => sameF u v | none => false)
      | none => false
    | _ => true⟩
theorem calmC_run (P : Program) (S : Self) (base i m : Nat) (ops : Array Oper) (o : Oper) (sn : List AHeap) (a a' : AAct) (hr : readsH o.op = true) :
    (calmC P ops o i m).run S base sn a a' = calmOk P base ops o i m sn a a' := by
  have hc : ∀ H, operA P S (base + i) a.env H o = opA P H (base + i) a.env o := by
    intro H
    unfold operA
    split
    · rename_i heq; rw [heq] at hr; simp [readsH] at hr
    · rfl
  simp only [calmC, calmOk, hr, Bool.not_true, Bool.false_or, opC_run, hc, sameF_eq]
  cases wantedA ops a.env o with
  | none => rfl
  | some w =>
    cases w with
    | false => rfl
    | true =>
      simp only
      congr 1
      funext H
      cases opA P H (base + i) a.env o with
      | none => rfl
      | some x => obtain ⟨u, h2⟩ := x; cases (o.dst).bind a'.env.get <;> rfl

def lateL (ops : Array Oper) (rest : List (Nat × Nat)) : List Nat := (rest.filter fun p => !isEff (ops.getD p.1 default).op && isNew (ops.getD p.1 default).op).map (·.1)
structure CT where run : Nat → AHeap → Bool
def lateC : List Nat → CT
  | [] => ⟨fun _ _ => true⟩
  | i :: l => ⟨fun base h => match h.get (base + i) with | none => (lateC l).run base h | some _ => false⟩
theorem lateC_run (base : Nat) (h : AHeap) : ∀ l, (lateC l).run base h = l.all fun i => (h.get (base + i)).isNone
  | [] => rfl
  | i :: l => by
    simp only [lateC, List.all_cons]
    cases h.get (base + i) with
    | none => simp only [Option.isNone_none, Bool.true_and]; exact lateC_run base h l
    | some _ => rfl
theorem lateL_eq (base : Nat) (ops : Array Oper) (h : AHeap) : ∀ rest, ((lateL ops rest).all fun i => (h.get (base + i)).isNone) = lateOk base ops rest h
  | [] => rfl
  | p :: rest => by
    have ih := lateL_eq base ops h rest
    unfold lateL lateOk at ih ⊢
    rw [List.filter_cons, List.all_cons, ← ih]
    cases isEff (ops.getD p.1 default).op <;> cases isNew (ops.getD p.1 default).op <;> simp

structure CR where run : Self → Nat → List AHeap → AAct → AHeap → Option (AAct × AHeap)
def planC (P : Program) (ops : Array Oper) : List (Nat × Nat) → CR
  | [] => ⟨fun _ _ _ a h => some (a, h)⟩
  | (i, m) :: rest =>
    match ops[i]? with
    | none => ⟨fun _ _ _ _ _ => none⟩
    | some o =>
      match isEff o.op with
      | true => ⟨fun S base sn a h => match (stepC P ops i).run S base a h with
        | none => none
        | some (a', h') => (match (lateC (lateL ops rest)).run base h' with
          | true => (planC P ops rest).run S base (h' :: sn) a' h'
          | false => none)⟩
      | false =>
        match readsH o.op with
        | false => ⟨fun S base sn a h => match (stepC P ops i).run S base a h with
          | none => none
          | some (a', h') => (planC P ops rest).run S base sn a' h'⟩
        | true => ⟨fun S base sn a h => match (stepC P ops i).run S base a h with
          | none => none
          | some (a', h') => (match (calmC P ops o i m).run S base sn a a' with
            | true => (planC P ops rest).run S base sn a' h'
            | false => none)⟩
theorem planC_run (P : Program) (S : Self) (base : Nat) (ops : Array Oper) : ∀ (pl : List (Nat × Nat)) (sn : List AHeap) (a : AAct) (h : AHeap), (planC P ops pl).run S base sn a h = planA P S base ops pl sn a h
  | [], _, _, _ => rfl
  | (i, m) :: rest, sn, a, h => by
    simp only [planC, planA]
    cases hi : ops[i]? with
    | none => rfl
    | some o =>
      simp only
      cases he : isEff o.op with
      | true =>
        simp only [stepC_run, if_true]
        cases stepA P S base ops i a h with
        | none => rfl
        | some x =>
          obtain ⟨a', h'⟩ := x
          simp only [lateC_run, lateL_eq]
          cases lateOk base ops rest h' with
          | true => simp only [if_true]; exact planC_run P S base ops rest _ _ _
          | false => rfl
      | false =>
        simp only [Bool.false_eq_true, if_false]
        cases hr : readsH o.op with
        | false =>
          simp only [stepC_run]
          cases stepA P S base ops i a h with
          | none => rfl
          | some x =>
            obtain ⟨a', h'⟩ := x
            have : calmOk P base ops o i m sn a a' = true := by simp [calmOk, hr]
            simp only [this, if_true]
            exact planC_run P S base ops rest _ _ _
        | true =>
          simp only [stepC_run]
          cases stepA P S base ops i a h with
          | none => rfl
          | some x =>
            obtain ⟨a', h'⟩ := x
            simp only [calmC_run P S base i m ops o sn a a' hr]
            cases calmOk P base ops o i m sn a a' with
            | true => simp only [if_true]; exact planC_run P S base ops rest _ _ _
            | false => rfl

structure CZ where run : Self → AAct → AHeap → Option (AAct × AHeap)
def regionC (P : Program) (ops : Array Oper) (draw : Bool) : CZ :=
  match draw with
  | false => ⟨fun S a h => (opsC P ops (List.range ops.size)).run S h.next a ⟨h.tr, h.next + ops.size⟩⟩
  | true =>
    match planOf ops with
    | none => ⟨fun _ _ _ => none⟩
    | some pl =>
      match P.follows .mixedOrders with
      | false => ⟨fun _ _ _ => none⟩
      | true => ⟨fun S a h => (planC P ops pl).run S h.next [⟨h.tr, h.next + ops.size⟩] a ⟨h.tr, h.next + ops.size⟩⟩
theorem regionC_run (P : Program) (S : Self) (ops : Array Oper) (draw : Bool) (a : AAct) (h : AHeap) : (regionC P ops draw).run S a h = regionA P S ops draw a h := by
  unfold regionC regionA
  cases draw with
  | false => exact opsC_run ..
  | true =>
    simp only [if_true]
    cases planOf ops with
    | none => rfl
    | some pl =>
      simp only
      cases P.follows .mixedOrders with
      | false => rfl
      | true => simp only [if_true]; exact planC_run ..

/-! ### Code -/
structure CC where run : Option Nat → Self → AAct → AHeap → Option (Out × AAct × AHeap)
def codeC (P : Program) : Code → CC
  | .skip => ⟨fun _ _ a h => some (.normal, a, h)⟩
  | .ret => ⟨fun _ _ a h => some (.ret, a, h)⟩
  | .exit id => ⟨fun _ _ a h => some (.exit id, a, h)⟩
  | .seq x y => ⟨fun rd S a h => match (codeC P x).run rd S a h with
    | none => none
    | some (o, a', h') => (match o with | .normal => (codeC P y).run rd S a' h' | o => some (o, a', h'))⟩
  | .cond o x y => ⟨fun rd S a h => match (evalC P o).run a.env with
    | some (.bool b) => (match b with | true => (codeC P x).run rd S a h | false => (codeC P y).run rd S a h)
    | _ => none⟩
  | .block id x => ⟨fun rd S a h => match (codeC P x).run rd S a h with
    | none => none
    | some (o, a', h') => (match o with | .exit id' => (match Nat.beq id' id with | true => some (.normal, a', h') | false => some (.exit id', a', h')) | o => some (o, a', h'))⟩
  | .region _ ops draw => ⟨fun _ S a h => match (regionC P ops draw).run S a h with | some (a', h') => some (.normal, a', h') | none => none⟩
  | .loop x => ⟨fun rd S a h => S.loop rd x a h⟩
  | c => ⟨fun rd S a h => codeA P S rd c a h⟩

section
variable {P : Program} {S : Self}
open Classical in
/-- With the two parts' own answers in the place of the code. -/
noncomputable def withTwo (P : Program) (S : Self) (x y : Code) : Self :=
  { S with code := fun rd c a h => if c = x ∨ c = y then (codeC P c).run rd S a h else none }

def CodeFine (P : Program) (S : Self) (c : Code) : Prop := ∀ rd a h out a' h', (codeC P c).run rd S a h = some (out, a', h') → CodeOk P rd a h out a' h' (fun F => c.wpIn F 0 P)

theorem withTwo_ok (hS : SelfOk P S) {x y : Code} (hx : CodeFine P S x) (hy : CodeFine P S y) : SelfOk P (withTwo P S x y) := by
  refine ⟨fun rd c a h out a' h' hv => ?_, hS.scope, hS.loop, hS.call⟩
  simp only [withTwo] at hv
  split at hv
  · rename_i hc
    rcases hc with rfl | rfl
    · exact hx _ _ _ _ _ _ hv
    · exact hy _ _ _ _ _ _ hv
  · cases hv

theorem codeC_ok (hS : SelfOk P S) : ∀ c, CodeFine P S c := by
  have other : ∀ c, (∀ rd a h, (codeC P c).run rd S a h = codeA P S rd c a h) → CodeFine P S c := fun c hc rd a h out a' h' hv => by
    rw [hc] at hv
    exact (stepS_ok (drawLaw P) hS).code rd c a h out a' h' hv
  intro c
  induction c with
  | seq x y ihx ihy =>
    intro rd a h out a' h' hv
    refine (stepS_ok (drawLaw P) (withTwo_ok hS ihx ihy)).code rd (.seq x y) a h out a' h' ?_
    rw [← hv]
    show thenA ((withTwo P S x y).code rd x a h) ((withTwo P S x y).code rd y) = _
    simp only [withTwo, codeC, true_or, or_true, if_true]
    unfold thenA
    cases (codeC P x).run rd S a h with
    | none => rfl
    | some r => obtain ⟨o, a1, h1⟩ := r; cases o <;> rfl
  | cond o x y ihx ihy =>
    intro rd a h out a' h' hv
    refine (stepS_ok (drawLaw P) (withTwo_ok hS ihx ihy)).code rd (.cond o x y) a h out a' h' ?_
    rw [← hv]
    show codeA P (withTwo P S x y) rd (.cond o x y) a h = _
    simp only [codeA, withTwo, codeC, evalC_run, true_or, or_true, if_true]
    cases evalO P.globals.size a.env o with
    | none => rfl
    | some v => cases v <;> try rfl
                rename_i b; cases b <;> rfl
  | block id x ihx =>
    intro rd a h out a' h' hv
    refine (stepS_ok (drawLaw P) (withTwo_ok hS ihx ihx)).code rd (.block id x) a h out a' h' ?_
    rw [← hv]
    show codeA P (withTwo P S x x) rd (.block id x) a h = _
    simp only [codeA, withTwo, codeC, or_self, if_true]
    cases (codeC P x).run rd S a h with
    | none => rfl
    | some r =>
      obtain ⟨o, a1, h1⟩ := r
      cases o <;> try rfl
      rename_i id'
      simp only
      by_cases he : id' = id
      · rw [if_pos he, show Nat.beq id' id = true by rw [he]; exact Nat.beq_refl id]
      · rw [if_neg he]
        cases hb : Nat.beq id' id with
        | true => exact (he (Nat.eq_of_beq_eq_true hb)).elim
        | false => rfl
  | region id ops draw =>
    refine other _ fun rd a h => ?_
    simp only [codeC, codeA, regionC_run]
    cases regionA P S ops draw a h <;> rfl
  | _ => exact other _ fun rd a h => rfl
end

/-! ### Calls -/
structure CA where run : Self → Array Value → AHeap → Option (Value × AHeap)
structure CD where run : AAct → AHeap → Option (Value × AHeap)
def doneC (P : Program) (fn : Func) : CD :=
  match fn.results.toList with
  | [.tmp t] => ⟨fun a h => match a.marks with
    | [] => (match (getC (t + 1) t).run a.env with | some v => some (v, h) | none => none)
    | m => (shutA m h).bind fun h2 => (resultsA P fn a.env h2).map (·, h2)⟩
  | _ => ⟨fun a h => (shutA a.marks h).bind fun h2 => (resultsA P fn a.env h2).map (·, h2)⟩
theorem doneC_run (P : Program) (fn : Func) (a : AAct) (h : AHeap) : (doneC P fn).run a h = (shutA a.marks h).bind fun h2 => (resultsA P fn a.env h2).map (·, h2) := by
  unfold doneC
  split
  · rename_i t ht
    cases hm : a.marks with
    | nil =>
      simp only [hm, shutA, Option.bind_some, resultsA, ht, getC_run _ _ _ (Nat.lt_succ_self t)]
      cases hg : a.env.get t <;> simp [resultA, hg]
    | cons => simp only [hm]
  · rfl

def callC (P : Program) (f : FuncId) : CA :=
  match P.funcs[f]? with
  | none => ⟨fun _ _ _ => none⟩
  | some fn =>
    match fn.body with
    | none => ⟨fun _ _ _ => none⟩
    | some c =>
      match decide (fn.name = "runtime.NumGoroutine") with
      | true => ⟨fun _ _ _ => none⟩
      | false => ⟨fun S args h => match Nat.ble args.toList.length fn.ntmps with
        | false => none
        | true => (match (codeC P c).run none S ⟨argsEnv args.toList 0 .leaf, fn.ntmps, []⟩ h with
          | none => none
          | some (o, a, h1) => (match o with | .normal => (doneC P fn).run a h1 | .ret => (doneC P fn).run a h1 | _ => none))⟩

/-- The evaluator, its code laid out ahead: one step of fuel a call, and a round of a loop. -/
def evC (P : Program) (O : Oracle) : Nat → Self
  | 0 => { code := fun _ _ _ _ => none, scope := fun _ _ _ _ _ => none, loop := fun _ _ _ _ => none, call := O }
  | k + 1 => {
      code := fun rd c a h => (codeC P c).run rd (evC P O k) a h
      scope := fun rd b c a h => scopeA (evC P O k) rd b c a h
      loop := fun rd x a h => match (codeC P x).run rd (evC P O k) a h with
        | none => none
        | some (o, a', h') => (match o with | .normal => (evC P O k).loop rd x a' h' | o => some (o, a', h'))
      call := fun f args h => match O f args h with | some r => some r | none => (callC P f).run (evC P O k) args h }

section
variable {P : Program} {S : Self}
def withC (P : Program) (S : Self) : Self := { S with code := fun rd c a h => (codeC P c).run rd S a h }
theorem withC_ok (hS : SelfOk P S) : SelfOk P (withC P S) := ⟨fun rd c a h out a' h' hv => codeC_ok hS c rd a h out a' h' hv, hS.scope, hS.loop, hS.call⟩

theorem callC_run (f : FuncId) (args : Array Value) (h : AHeap) : (callC P f).run S args h = callFA P (withC P S) f args h := by
  unfold callC callFA
  cases P.funcs[f]? with
  | none => rfl
  | some fn =>
    simp only
    cases fn.body with
    | none => rfl
    | some c =>
      simp only
      by_cases hn : fn.name = "runtime.NumGoroutine"
      · rw [if_pos hn, decide_eq_true hn]
      · rw [if_neg hn, decide_eq_false hn]
        simp only [Array.length_toList, doneC_run, withC]
        by_cases hs : args.size ≤ fn.ntmps
        · rw [if_pos hs, show Nat.ble args.size fn.ntmps = true by rw [Nat.ble_eq]; exact hs]
          simp only
          cases (codeC P c).run none S ⟨argsEnv args.toList 0 .leaf, fn.ntmps, []⟩ h with
          | none => rfl
          | some r => obtain ⟨o, a, h1⟩ := r; cases o <;> rfl
        · rw [if_neg hs]
          cases hb : Nat.ble args.size fn.ntmps with
          | true => rw [Nat.ble_eq] at hb; exact (hs hb).elim
          | false => rfl

theorem evC_ok {O : Oracle} (hO : OracleOk P O) : ∀ k, SelfOk P (evC P O k)
  | 0 => by
    refine ⟨?_, ?_, ?_, ?_⟩
    · intro _ _ _ _ _ _ _ hv; cases hv
    · intro _ _ _ _ _ _ _ _ hv; cases hv
    · intro _ _ _ _ _ _ _ hv; cases hv
    · intro f args h v h' hv; exact hO f args h v h' hv
  | k + 1 => by
    have hS := evC_ok hO k
    have h1 := stepS_ok (drawLaw P) hS
    have h2 := stepS_ok (drawLaw P) (withC_ok hS)
    refine ⟨fun rd c a h out a' h' hv => codeC_ok hS c rd a h out a' h' hv, fun rd b c a h out a' h' hv => h1.scope rd b c a h out a' h' hv, fun rd c a h out a' h' hv => h2.loop rd c a h out a' h' ?_, fun f args h v h' hv => ?_⟩
    · rw [← hv]
      show thenA ((withC P (evC P O k)).code rd c a h) ((withC P (evC P O k)).loop rd c) = _
      simp only [withC, evC]
      unfold thenA
      cases (codeC P c).run rd (evC P O k) a h with
      | none => rfl
      | some r => obtain ⟨o, a1, h1⟩ := r; cases o <;> rfl
    · simp only [evC] at hv
      split at hv
      · rename_i r hr
        cases hv
        exact hO f args h v h' hr
      · rw [callC_run] at hv
        exact h2.call f args h v h' hv

theorem evC_call {O : Oracle} (hO : OracleOk P O) {k : Nat} {f : FuncId} {args : Array Value} {v : Value} {h h' : AHeap} (hv : (evC P O k).call f args h = some (v, h')) : CallOk P f args h v h' :=
  (evC_ok hO k).call f args h v h' hv
end

end Go.Ev
