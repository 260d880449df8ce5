/- The evaluator that goes both ways: where it leads, the evaluator leads. -/
import Derived.Test.YtfickkmgbecamaaDoorEvZi
namespace Go.Ev
open Tree

section
variable {P : Program} {O : Oracle} {K : Spl} {N : SelfN} {S : Self}

structure LeN (N : SelfN) (S : Self) : Prop where
  code : ∀ f rd c a h r, (N.code f rd c a h).eval = some r → S.code rd c a h = some r
  loop : ∀ f rd c a h r, (N.loop f rd c a h).eval = some r → S.loop rd c a h = some r
  call : ∀ f args h r, (N.call f args h).eval = some r → S.call f args h = some r

theorem roundN_le (hL : LeN N S) {l : Nat} {args : Array Value} {h : AHeap} {r : Value × AHeap} (hr : (roundN N l args h).eval = some r) : roundA S l args h = some r := by
  unfold roundN at hr
  unfold roundA
  simp only [getQ_eq] at hr
  simp only [AHeap.get]
  split at hr
  case h_2 => cases hr
  rename_i L hl
  simp only [hl]
  split at hr
  case h_2 => cases hr
  rename_i e he
  simp only [he]
  obtain ⟨⟨o, a1, h1⟩, e1, hr⟩ := eval_bind _ _ _ hr
  have c1 := hL.code _ _ _ _ _ _ e1
  cases o <;> try (cases hr; done)
  simp only [c1]
  simp only at hr
  split at hr
  case h_2 => cases hr
  rename_i L1 hl1
  simp only [hl1]
  split at hr
  case isFalse => cases hr
  rename_i hc
  rw [if_pos hc]
  obtain ⟨⟨out, a2, h3⟩, e2, hr⟩ := eval_bind _ _ _ hr
  have c2 := hL.code _ _ _ _ _ _ e2
  simp only [c2]
  simp only at hr
  split at hr
  case h_2 => cases hr
  rename_i L3 hl3
  simp only [hl3]
  split at hr
  case isFalse => cases hr
  rename_i hm
  rw [if_pos hm]
  exact hr

theorem callN_le (hL : LeN N S) {f : Value} {args : Array Value} {h : AHeap} {r : Value × AHeap} (hr : (callN N f args h).eval = some r) : callA S f args h = some r := by
  unfold callN at hr
  unfold callA
  split at hr
  · exact hL.call _ _ _ _ hr
  · split at hr
    · rename_i hc; simp only; rw [if_pos hc]; exact roundN_le hL hr
    · cases hr
  · cases hr

def LeT (N : SelfN) (S : Self) (x : TN) (y : CS) : Prop := ∀ base a h r, (x.run N S base a h).eval = some r → y.run S base a h = some r

theorem plainN_le (o : Oper) (i : Nat) : LeT N S (plainN P o i) (runC P o i) := fun _ _ _ _ hr => eval_ofO hr
theorem skipN_le (o : Oper) : LeT N S (skipN o) (skipC o) := fun _ _ _ _ hr => eval_ofO hr
theorem putN_eval {o : Oper} {a : AAct} {x : Value × AHeap} {r : AAct × AHeap} (hr : (putN o a x).eval = some r) : (putC o.dst).run a x.1 = some r.1 ∧ x.2 = r.2 := by
  unfold putN at hr
  split at hr
  · rename_i a' hp; cases hr; exact ⟨hp, rfl⟩
  · cases hr

theorem doN_le (hL : LeN N S) (f : Nat) (o : Oper) (i : Nat) : LeT N S (doN P K f o i) (runC P o i) := by
  intro base a h r hr
  unfold doN at hr
  split at hr
  · rename_i g args _ hop
    split at hr
    · rename_i k
      simp only at hr
      split at hr
      · rename_i vs hvs
        obtain ⟨⟨v, h1⟩, e1, hr⟩ := eval_bind _ _ _ hr
        obtain ⟨p1, p2⟩ := putN_eval hr
        have c1 := hL.call _ _ _ _ e1
        simp only [runC, opC, hop, hvs, c1, p1]
        simp only at p2
        rw [p2]
      · cases hr
    · rename_i hnf
      simp only at hr
      split at hr
      · rename_i gv hgv
        split at hr
        · rename_i vs hvs
          obtain ⟨⟨v, h1⟩, e1, hr⟩ := eval_bind _ _ _ hr
          obtain ⟨p1, p2⟩ := putN_eval hr
          have c1 := callN_le hL e1
          have hrun : (opC P o).run S (base + i) a.env h = some (v, h1) := by
            unfold opC
            simp only [hop]
            cases g with
            | func k => exact (hnf k rfl).elim
            | _ => simp only [hgv, hvs, c1]
          simp only [runC, hrun, p1]
          simp only at p2
          rw [p2]
        · cases hr
      · cases hr
  · split at hr
    · exact plainN_le o i _ _ _ _ hr
    · split at hr
      · exact plainN_le o i _ _ _ _ hr
      · simp only at hr
        split at hr
        · rename_i v h1 hv
          obtain ⟨u, e1, hr⟩ := eval_bind _ _ _ hr
          obtain ⟨p1, p2⟩ := putN_eval hr
          have := splitV_eval _ _ _ e1
          subst this
          simp only at p1 p2
          simp only [runC, hv, p1, p2]
        · cases hr

theorem stepN_le (hL : LeN N S) (f : Nat) (ops : Array Oper) (i : Nat) : LeT N S (stepN P K f ops i) (stepC P ops i) := by
  unfold stepN stepC
  cases ops[i]? with
  | none => intro base a h r hr; cases hr
  | some o =>
    simp only
    cases o.guard with
    | none => exact doN_le hL f o i
    | some jw =>
      obtain ⟨j, want⟩ := jw
      simp only
      cases (ops[j]?).bind (·.dst) with
      | none => intro base a h r hr; cases hr
      | some d =>
        cases want with
        | true =>
          intro base a h r hr
          simp only at hr ⊢
          cases hv : (getC (d + 1) d).run a.env with
          | none => rw [hv] at hr; cases hr
          | some v =>
            rw [hv] at hr
            cases v <;> try (cases hr; done)
            · rename_i b
              cases b
              · exact skipN_le o _ _ _ _ hr
              · exact doN_le hL f o i _ _ _ _ hr
            · exact skipN_le o _ _ _ _ hr
        | false =>
          intro base a h r hr
          simp only at hr ⊢
          cases hv : (getC (d + 1) d).run a.env with
          | none => rw [hv] at hr; cases hr
          | some v =>
            rw [hv] at hr
            cases v <;> try (cases hr; done)
            · rename_i b
              cases b
              · exact doN_le hL f o i _ _ _ _ hr
              · exact skipN_le o _ _ _ _ hr
            · exact skipN_le o _ _ _ _ hr

theorem opsN_le (hL : LeN N S) (f : Nat) (ops : Array Oper) : ∀ l, LeT N S (opsN P K f ops l) (opsC P ops l)
  | [] => fun _ _ _ _ hr => by cases hr; rfl
  | i :: rest => by
    intro base a h r hr
    obtain ⟨⟨a1, h1⟩, e1, hr⟩ := eval_bind _ _ _ hr
    have c1 := stepN_le hL f ops i _ _ _ _ e1
    simp only [opsC, c1]
    exact opsN_le hL f ops rest _ _ _ _ hr

/-! ### Regions whose order is drawn -/
theorem zip_self_all {f : Value → Value → Bool} : ∀ {l : List Value}, (∀ x ∈ l, f x x = true) → ((l.zip l).all fun (x, y) => f x y) = true
  | [], _ => rfl
  | x :: l, h => by
    simp only [List.zip_cons_cons, List.all_cons, Bool.and_eq_true]
    exact ⟨h x (by simp), zip_self_all fun y hy => h y (by simp [hy])⟩

theorem sameV_refl : ∀ (n : Nat) (v : Value), okV n v = true → sameV n v v = true
  | 0, v, h => by
    cases v <;> first | (simp [sameV]; done) | (simp [okV] at h)
  | n + 1, v, h => by
    cases v with
    | agg a =>
      simp only [okV, List.all_eq_true] at h
      simp only [sameV, beq_self_eq_true, Bool.true_and]
      exact zip_self_all fun x hx => sameV_refl n x (h x hx)
    | tuple a =>
      simp only [okV, List.all_eq_true] at h
      simp only [sameV, beq_self_eq_true, Bool.true_and]
      exact zip_self_all fun x hx => sameV_refl n x (h x hx)
    | _ => first | (simp [sameV]; done) | (simp [okV] at h)

theorem operA_calm {o : Oper} (he : isEff o.op = false) (id : Nat) (e : Tr Value) (h : AHeap) : operA P S id e h o = opA P h id e o := by
  unfold operA
  split
  · rename_i heq; rw [heq] at he; simp [isEff] at he
  · rfl

theorem stepA_old {base i : Nat} {ops : Array Oper} {o : Oper} (hi : ops[i]? = some o) (he : isEff o.op = false) (hn : isNew o.op = false) {a a' : AAct} {h h' : AHeap} (hs : stepA P S base ops i a h = some (a', h')) : h' = h := by
  unfold stepA at hs
  simp only [hi] at hs
  split at hs
  · rw [operA_calm he] at hs
    obtain ⟨⟨v, h1⟩, hv, hs⟩ := Option.bind_eq_some_iff.1 hs
    obtain ⟨a1, _, hs⟩ := Option.map_eq_some_iff.1 hs
    cases hs
    exact opA_old hn he hv
  · obtain ⟨a1, _, hs⟩ := Option.map_eq_some_iff.1 hs
    cases hs; rfl
  · cases hs

theorem calm_still {base i m : Nat} {ops : Array Oper} {o : Oper} (hi : ops[i]? = some o) {a a' : AAct} {h h' : AHeap} (hs : (stepC P ops i).run S base a h = some (a', h'))
    (hk : wantedA ops a.env o = some true → ∃ v, (o.dst).bind a'.env.get = some v ∧ okV 3 v = true) : (calmC P ops o i m).run S base [h] a a' = true := by
  simp only [calmC]
  cases hw : wantedA ops a.env o with
  | none => rfl
  | some b =>
    cases b with
    | false => rfl
    | true =>
      obtain ⟨v, hv, hok⟩ := hk hw
      simp only
      rw [stepC_run] at hs
      unfold stepA at hs
      simp only [hi, hw] at hs
      obtain ⟨⟨u, h1⟩, hu, hs⟩ := Option.bind_eq_some_iff.1 hs
      obtain ⟨a1, hp, hs⟩ := Option.map_eq_some_iff.1 hs
      cases hs
      obtain ⟨d, hd, hg⟩ := Option.bind_eq_some_iff.1 hv
      rw [hd] at hp
      simp only [AAct.put] at hp
      split at hp
      · cases hp
        simp only [Tr.get_set_self] at hg
        cases hg
        rcases m with _ | m
        · rfl
        · simp only [List.take_succ_cons, List.take_nil, List.all_cons, List.all_nil, opC_run, hu, hv, Bool.and_true]
          rw [sameF_eq]
          exact sameV_refl 3 _ hok
      · cases hp

theorem planN_le (hL : LeN N S) (f : Nat) (ops : Array Oper) : ∀ (pl : List (Nat × Nat)) (cl : Bool) (base : Nat) (sn : List AHeap) (a : AAct) (h : AHeap) (r : AAct × AHeap), (cl = true → sn = [h]) →
    ((planN P K f ops cl pl).run N S base sn a h).eval = some r → (planC P ops pl).run S base sn a h = some r
  | [], cl, base, sn, a, h, r, _, hr => by cases cl <;> (cases hr; rfl)
  | (i, m) :: rest, cl, base, sn, a, h, r, hsn, hr => by
    have ih := planN_le hL f ops rest
    unfold planN at hr
    unfold planC
    cases hi : ops[i]? with
    | none => rw [hi] at hr; cases hr
    | some o =>
      simp only [hi] at hr ⊢
      cases he : isEff o.op with
      | true =>
        simp only [he] at hr ⊢
        obtain ⟨⟨a1, h1⟩, e1, hr⟩ := eval_bind _ _ _ hr
        have c1 := stepN_le hL f ops i _ _ _ _ e1
        simp only at hr
        split at hr
        · rename_i hl
          simp only [c1, hl]
          exact ih false _ _ _ _ _ (by simp) hr
        · cases hr
      | false =>
        simp only [he] at hr ⊢
        have old : ∀ a1 h1, (stepC P ops i).run S base a h = some (a1, h1) → still o = true → h1 = h := fun a1 h1 hr hs => by
          rw [stepC_run] at hr
          exact stepA_old hi he (by simpa [still, he] using hs) hr
        cases hd : readsH o.op with
        | false =>
          simp only [hd] at hr ⊢
          obtain ⟨⟨a1, h1⟩, e1, hr⟩ := eval_bind _ _ _ hr
          have c1 := stepN_le hL f ops i _ _ _ _ e1
          simp only [c1]
          refine ih _ _ _ _ _ _ (fun hc => ?_) hr
          simp only [Bool.and_eq_true] at hc
          rw [hsn hc.1, old a1 h1 c1 hc.2]
        | true =>
          simp only [hd] at hr ⊢
          cases cl with
          | false =>
            simp only at hr
            obtain ⟨⟨a1, h1⟩, e1, hr⟩ := eval_bind _ _ _ hr
            have c1 := stepN_le hL f ops i _ _ _ _ e1
            simp only at hr
            split at hr
            · rename_i hl
              simp only [c1, hl]
              exact ih false _ _ _ _ _ (by simp) hr
            · cases hr
          | true =>
            simp only at hr
            obtain ⟨⟨a1, h1⟩, e1, hr⟩ := eval_bind _ _ _ hr
            have c1 := stepN_le hL f ops i _ _ _ _ e1
            have hsn' := hsn rfl
            subst hsn'
            simp only at hr
            have go : ((planN P K f ops (still o) rest).run N S base [h] a1 h1).eval = some r → (wantedA ops a.env o = some true → ∃ v, (o.dst).bind a1.env.get = some v ∧ okV 3 v = true) →
                (match (stepC P ops i).run S base a h with | none => none | some (a', h') => (match (calmC P ops o i m).run S base [h] a a' with | true => (planC P ops rest).run S base [h] a' h' | false => none)) = some r := by
              intro hx hk
              simp only [c1, calm_still hi c1 hk]
              exact ih (still o) _ _ _ _ _ (fun hs => by rw [old a1 h1 c1 hs]) hx
            split at hr
            · rename_i hw
              split at hr
              · rename_i v hv
                split at hr
                · rename_i hok
                  exact go hr fun _ => ⟨v, hv, hok⟩
                · cases hr
              · cases hr
            · rename_i hw
              exact go hr fun hc => (hw hc).elim

theorem regionN_le (hL : LeN N S) (f : Nat) (ops : Array Oper) (draw : Bool) (a : AAct) (h : AHeap) (r : AAct × AHeap) (hr : ((regionN P K f ops draw).run N S a h).eval = some r) : (regionC P ops draw).run S a h = some r := by
  unfold regionN at hr
  unfold regionC
  cases draw with
  | false => exact opsN_le hL f ops _ _ _ _ _ hr
  | true =>
    simp only at hr ⊢
    cases hp : planOf ops with
    | none => rw [hp] at hr; cases hr
    | some pl =>
      simp only [hp] at hr ⊢
      cases hf : P.follows .mixedOrders with
      | false => rw [hf] at hr; cases hr
      | true =>
        simp only [hf] at hr ⊢
        exact planN_le hL f ops pl true _ _ _ _ _ (fun _ => rfl) hr

/-! ### Code -/
theorem rangeN_le (hL : LeN N S) {f : Nat} {rd : Option Nat} {g : Operand} {ps : Array Tmp} {assign body : Code} {a : AAct} {h : AHeap} {r : Out × AAct × AHeap} (hr : (rangeN P N f rd g ps assign body a h).eval = some r) :
    rangeA P S rd g ps assign body a h = some r := by
  unfold rangeN at hr
  unfold rangeA
  split at hr
  case h_2 => cases hr
  rename_i fi first captured hg
  simp only [hg]
  split at hr
  case h_2 => cases hr
  rename_i D h1 marks hen
  simp only [hen]
  split at hr
  · cases hr
  rename_i h2 hnew
  simp only [hnew]
  obtain ⟨⟨v, h3⟩, e1, hr⟩ := eval_bind _ _ _ hr
  have c1 := hL.call _ _ _ _ e1
  simp only [c1]
  simp only [getQ_eq] at hr
  simp only [AHeap.get]
  split at hr
  case h_2 => cases hr
  rename_i L hl
  simp only [hl]
  split at hr
  · cases hr
  rename_i hb
  rw [if_neg hb]
  cases hp : L.pending with
  | none => simp only [hp] at hr ⊢; exact hr
  | some c => simp only [hp] at hr ⊢; exact hL.code _ _ _ _ _ _ hr

def LeK (N : SelfN) (S : Self) (x : KN) (y : CC) : Prop := ∀ rd a h r, (x.run rd N S a h).eval = some r → y.run rd S a h = some r

theorem codeN_le (hL : LeN N S) (f : Nat) (c : Code) : LeK N S (codeN P K f c) (codeC P c) := by
  induction c with
  | seq x y ihx ihy =>
    intro rd a h r hr
    obtain ⟨⟨o, a1, h1⟩, e1, hr⟩ := eval_bind _ _ _ hr
    have c1 := ihx _ _ _ _ e1
    simp only [codeC, c1]
    cases o with
    | normal => exact ihy _ _ _ _ hr
    | _ => exact hr
  | cond o x y ihx ihy =>
    intro rd a h r hr
    simp only [codeN] at hr
    simp only [codeC]
    split at hr
    · rename_i b hb
      simp only [hb]
      cases b with
      | true => exact ihx _ _ _ _ hr
      | false => exact ihy _ _ _ _ hr
    · cases hr
  | block id x ihx =>
    intro rd a h r hr
    obtain ⟨⟨o, a1, h1⟩, e1, hr⟩ := eval_bind _ _ _ hr
    have c1 := ihx _ _ _ _ e1
    simp only [codeC, c1]
    cases o with
    | exit id' =>
      simp only at hr ⊢
      cases hb : Nat.beq id' id with
      | true => rw [hb] at hr; exact hr
      | false => rw [hb] at hr; exact hr
    | _ => exact hr
  | region id ops draw =>
    intro rd a h r hr
    obtain ⟨⟨a1, h1⟩, e1, hr⟩ := eval_bind _ _ _ hr
    have c1 := regionN_le hL f ops draw _ _ _ e1
    simp only [codeC, c1]
    exact hr
  | loop x => exact fun rd a h r hr => hL.loop _ _ _ _ _ _ hr
  | rangeFunc g ps assign body => exact fun rd a h r hr => rangeN_le hL hr
  | _ => exact fun rd a h r hr => eval_ofO hr

theorem callFN_le (hL : LeN N S) (f : FuncId) (args : Array Value) (h : AHeap) (r : Value × AHeap) (hr : ((callFN P K f).run N S args h).eval = some r) : (callC P f).run S args h = some r := by
  unfold callFN at hr
  unfold callC
  cases hf : P.funcs[f]? with
  | none => rw [hf] at hr; cases hr
  | some fn =>
    simp only [hf] at hr ⊢
    cases hb : fn.body with
    | none => rw [hb] at hr; cases hr
    | some c =>
      simp only [hb] at hr ⊢
      cases hn : decide (fn.name = "runtime.NumGoroutine") with
      | true => rw [hn] at hr; cases hr
      | false =>
        simp only [hn] at hr ⊢
        cases hs : Nat.ble args.toList.length fn.ntmps with
        | false => rw [hs] at hr; cases hr
        | true =>
          simp only [hs] at hr ⊢
          obtain ⟨⟨o, a1, h1⟩, e1, hr⟩ := eval_bind _ _ _ hr
          have c1 := codeN_le hL f c _ _ _ _ e1
          simp only [c1]
          cases o with
          | normal => exact eval_ofO hr
          | ret => exact eval_ofO hr
          | _ => cases hr

theorem evN_le : ∀ k, LeN (evN P O K k) (evC P O k)
  | 0 => ⟨fun _ _ _ _ _ _ h => (by cases h), fun _ _ _ _ _ _ h => (by cases h), fun _ _ _ _ h => eval_ofO h⟩
  | k + 1 => by
    have ih := evN_le k
    refine ⟨fun f rd c a h r hr => codeN_le ih f c rd a h r hr, fun f rd c a h r hr => ?_, fun f args h r hr => ?_⟩
    · obtain ⟨⟨o, a1, h1⟩, e1, hr⟩ := eval_bind _ _ _ hr
      have c1 := codeN_le ih f c _ _ _ _ e1
      simp only [evC, c1]
      cases o with
      | normal => exact ih.loop _ _ _ _ _ _ hr
      | _ => exact hr
    · simp only [evN] at hr
      simp only [evC]
      split at hr
      · rename_i x hx
        rw [hx]; exact hr
      · rename_i hx
        rw [hx]
        exact callFN_le ih f args h r hr

/-- Wherever the tree leads: an answer. -/
theorem evN_call (hO : OracleOk P O) {k : Nat} {f : FuncId} {args : Array Value} {h : AHeap} {Q : Value → Prop} {t : Tree Value} (ht : ((evN P O K k).call f args h).map (·.1) = t) (hq : t.All Q) :
    ∃ v h', Q v ∧ CallOk P f args h v h' := by
  obtain ⟨v, hv, q⟩ := All.eval _ hq
  rw [← ht, eval_map] at hv
  obtain ⟨⟨v', h'⟩, hx, rfl⟩ := Option.map_eq_some_iff.1 hv
  exact ⟨v', h', q, evC_call hO ((evN_le k).call _ _ _ _ hx)⟩
end
end Go.Ev
