/- Rounds of loops over functions, and an operation that may call. -/
import Derived.Test.YtfickkmgbecamaaDoorEvN
namespace Go.Ev

section
variable {P : Program} {S : Self} {μ : Mu} {h h' : AHeap} {w : World}

theorem setParams_ok : ∀ {ts : List Tmp} {vs vs' : List Value} {e e' : Tr Value} {n : Nat} {tmps : Array Value}, TmpsRel μ e n tmps → VsRel μ vs vs' → setParams e n ts vs = some e' →
    ts.length = vs'.length ∧ TmpsRel μ e' n ((ts.zip vs').foldl (fun t (p, v) => t.setIfInBounds p v) tmps)
  | [], [], _, e, e', n, tmps, hT, .nil, hs => by simp [setParams] at hs; subst hs; exact ⟨rfl, hT⟩
  | t :: ts, v :: vs, _, e, e', n, tmps, hT, .cons (v' := v') (vs' := vs') hv hvs, hs => by
    simp only [setParams] at hs
    split at hs
    · rename_i ht
      obtain ⟨h1, h2⟩ := setParams_ok (hT.set ht hv) hvs hs
      exact ⟨by simp [h1], by simpa using h2⟩
    · cases hs
  | [], _ :: _, _, e, e', n, tmps, hT, .cons _ _, hs => by simp [setParams] at hs
  | _ :: _, [], _, e, e', n, tmps, hT, .nil, hs => by simp [setParams] at hs

/-- A loop's record is turned. -/
theorem loop_turn (hR : Rel P μ h w) (hT : Top μ h) {l : Nat} {L : ALoop} {i : Img} (hl : h.get l = some (.loop L)) (hi : μ l = some i) (s : LoopState) (p : Option Code) :
    ∃ r : Loop, w.heap[i.blk]? = some (.loop r) ∧ r.state = L.state ∧ r.pending = L.pending ∧ r.params = L.params ∧ r.assign = L.assign ∧ r.body = L.body ∧ TmpsRel μ L.env L.n r.tmps ∧ (∃ j, μ L.defers = some j ∧ r.defers = j.blk) ∧
      Fin P μ h w μ (h.put l (.loop { L with state := s, pending := p })) (w.putObj i.blk (.loop { r with state := s, pending := p })) := by
  obtain ⟨i2, hi2, r, h1, h2, h3, h4, h5, h6, h7, h8⟩ := hR.obj _ _ hl
  rw [hi] at hi2; cases hi2
  have hlt : i.blk < w.heap.size := (Array.getElem?_eq_some_iff.1 h1).1
  obtain ⟨a, b⟩ := hR.update (w' := w.putObj i.blk (.loop { r with state := s, pending := p })) (o' := .loop { L with state := s, pending := p }) hl rfl hi
    ⟨{ r with state := s, pending := p }, World.putObj_heap_same hlt, rfl, rfl, h4, h5, h6, h7, h8⟩ World.putObj_size rfl rfl rfl (fun k hk => World.putObj_heap_other hk)
  exact ⟨r, h1, h2, h3, h4, h5, h6, h7, h8, a, b, hT, fun _ _ h => h, Nat.le_refl _⟩

theorem foldl_zip_arr (ps : Array Tmp) (args tmps : Array Value) : (ps.zip args).foldl (fun tmps (t, a) => tmps.setIfInBounds t a) tmps = (ps.toList.zip args.toList).foldl (fun t (p, v) => t.setIfInBounds p v) tmps := by
  rw [← Array.foldl_toList, Array.toList_zip]

theorem roundA_ok (hS : SelfOk P S) {rd : Option Nat} {F : Fence} (hF : FOk μ rd F) (hR : Rel P μ h w) (hT : Top μ h) {l : Nat} {i : Img} (hi : μ l = some i) {args args' : Array Value}
    (ha : VsRel μ args.toList args'.toList) {v : Value} (hv : roundA S l args h = some (v, h')) :
    ∃ fn tmps assign body, (Instr.yield i.blk args').run P w = .ok (.round i.blk fn tmps assign body) w ∧
      ∀ R : Ending → World → Prop, (∀ μ' w' v', Fin P μ h w μ' h' w' → VRel μ' v v' → R (.returned v') w') → RoundIn F 0 P i.blk fn tmps assign body w R := by
  unfold roundA at hv
  split at hv
  case h_2 => cases hv
  rename_i L hl
  obtain ⟨r, h1, h2, h3, h4, h5, h6, h7, h8, _⟩ := loop_turn hR hT hl hi .ready none
  split at hv
  case h_2 => cases hv
  rename_i e he
  obtain ⟨hlen, hTm⟩ := setParams_ok h7 ha he
  have hy := run_yield (P := P) (args := args') h1 (by rw [h4]; simpa using hlen.symm)
  rw [foldl_zip_arr, h4] at hy
  refine ⟨_, _, _, _, hy, fun R hK => ?_⟩
  split at hv
  case h_2 => cases hv
  rename_i a1 hh1 hc1
  refine roundIn_of_wpIn (hF.fn _) ?_
  have hFl : FOk μ (some l) (F.inRound i.blk) := by
    refine ⟨i, hi, ?_⟩
    cases rd with
    | none => cases hF; rfl
    | some l0 => obtain ⟨i0, _, e0⟩ := hF; subst e0; rfl
  rw [h5, h6]
  refine hS.code _ _ _ _ _ _ _ hc1 (F.inRound i.blk) μ w _ _ hFl hR hT ⟨hTm, .nil⟩ fun μ1 w1 act1 f1 r1 => ?_
  split at hv
  case h_2 => cases hv
  rename_i L1 hl1
  split at hv
  case isFalse => cases hv
  rename_i hst
  obtain ⟨hst, _⟩ := hst
  have hi1 := f1.ste.le _ _ hi
  obtain ⟨r1', g1, g2, g3, g4, g5, g6, g7, g8, f2⟩ := loop_turn f1.rel f1.top hl1 hi1 .busy L1.pending
  refine ⟨_, run_beginRound g1 (g2.trans hst), ?_⟩
  have e1 : ({ r1' with state := .busy } : Loop) = { r1' with state := .busy, pending := L1.pending } := by rw [← g3]
  rw [e1]
  split at hv
  case h_2 => cases hv
  rename_i out a2 h3' hc2
  refine hS.code _ _ _ _ _ _ _ hc2 (F.inRound i.blk) μ1 _ _ _ (hFl.mono f1.ste.le) f2.rel f2.top r1 fun μ3 w3 act3 f3 r3 => ?_
  split at hv
  case h_2 => cases hv
  rename_i L3 hl3
  split at hv
  case isFalse => cases hv
  rename_i hm2
  cases hv
  have hi3 := f3.ste.le _ _ hi1
  have hfin : ∀ jump : Option Code, jump = jumpOf out → ∃ v' w', (Instr.endRound i.blk jump).run P w3 = .ok v' w' ∧ R (.returned v') w' := fun jump hj => by
    subst hj
    obtain ⟨r3', k1, k2, k3, k4, k5, k6, k7, k8, f4⟩ := loop_turn f3.rel f3.top hl3 hi3 (if (jumpOf out).isNone then .ready else .done) (jumpOf out)
    exact ⟨_, _, run_endRound _ k1, hK _ _ _ (((f1.trans f2).trans f3).trans f4) (.bool _)⟩
  cases out with
  | normal => exact hfin none rfl
  | ret => exact hfin (some .ret) rfl
  | exit id => exact hfin (some (.exit id)) rfl
  | goto t => exact hfin (some (.goto t)) rfl

/-- Where an operation has led: a number of its own may be new. -/
structure FinAt (P : Program) (id : Nat) (μ : Mu) (h : AHeap) (w : World) (μ' : Mu) (h' : AHeap) (w' : World) : Prop where
  rel : Rel P μ' h' w'
  ste : Ste μ h w μ' h' w'
  top : Top μ' h'
  low : ∀ b, b ≠ id → b < h.next → μ b = none → μ' b = none
  nxt : h.next ≤ h'.next

theorem Fin.at {μ' : Mu} {w' : World} (f : Fin P μ h w μ' h' w') (id : Nat) : FinAt P id μ h w μ' h' w' := ⟨f.rel, f.ste, f.top, fun b _ => f.low b, f.nxt⟩

/-- An operation that calls nothing. -/
theorem opA_at (hR : Rel P μ h w) (hT : Top μ h) {a : AAct} {act : Act} (hA : ARel μ a act) {id : Nat} (hμ : μ id = none) (hid : id < h.next) {o : Oper} {v : Value} (hv : opA P h id a.env o = some (v, h')) :
    ∃ x v' w' μ', (execOp act.eval o).run P w = .ok x w' ∧ (x = .value v' ∨ (x = .skip ∧ v' = undef)) ∧ VRel μ' v v' ∧ FinAt P id μ h w μ' h' w' := by
  obtain ⟨x, v', w', μ', h1, h2, h3, h4, h5, h6⟩ := opA_ok hR hA.tmps hμ hv
  have hn := opA_next hv
  exact ⟨x, v', w', μ', h1, h2, h3, h4, h5, fun b hb => h6 b (by omega) (hT b (by omega)), fun b hb _ => h6 b hb, by omega⟩

theorem operA_plain {o : Oper} {id : Nat} {e : Tr Value} (h0 : ∀ f args ts, o.op ≠ .call { callee := .value f, args := args, argTypes := ts }) : operA P S id e h o = opA P h id e o := by
  unfold operA
  split
  · rename_i f args ts ho
    exact (h0 _ _ _ ho).elim
  · rfl

theorem opA_wpIn {rd : Option Nat} {F : Fence} (hF : FOk μ rd F) (hR : Rel P μ h w) (hT : Top μ h) {a : AAct} {act : Act} (hA : ARel μ a act) {id : Nat} (hμ : μ id = none) (hid : id < h.next)
    {o : Oper} {v : Value} (hv : opA P h id a.env o = some (v, h')) {K : Act → World → Prop} {Q : Exit → Act → World → Prop}
    (hK : ∀ μ' w' v', FinAt P id μ h w μ' h' w' → VRel μ' v v' → K (act.put o.dst v') w') : o.wpIn F 0 P act w K Q := by
  refine ⟨fun f _ => hF.fn f, ?_⟩
  rw [Oper.semAt_eq _ _ _ (fun c hc => by rw [opA_defer hc] at hv; cases hv)]
  obtain ⟨x, v', w', μ', h1, h2, h3, f⟩ := opA_at hR hT hA hμ hid hv
  rw [h1]
  rcases h2 with rfl | ⟨rfl, rfl⟩
  · exact hK _ _ _ f h3
  · exact hK _ _ _ f h3

theorem operA_wpIn (hS : SelfOk P S) {rd : Option Nat} {F : Fence} (hF : FOk μ rd F) (hR : Rel P μ h w) (hT : Top μ h) {a : AAct} {act : Act} (hA : ARel μ a act) {id : Nat} (hμ : μ id = none) (hid : id < h.next)
    {o : Oper} {v : Value} (hv : operA P S id a.env h o = some (v, h')) {K : Act → World → Prop} {Q : Exit → Act → World → Prop}
    (hK : ∀ μ' w' v', FinAt P id μ h w μ' h' w' → VRel μ' v v' → K (act.put o.dst v') w') : o.wpIn F 0 P act w K Q := by
  by_cases h0 : ∀ f args ts, o.op ≠ .call { callee := .value f, args := args, argTypes := ts }
  · rw [operA_plain h0] at hv
    exact opA_wpIn hF hR hT hA hμ hid hv hK
  · have h1 : ∃ f args ts, o.op = .call { callee := .value f, args := args, argTypes := ts } := by
      false_or_by_contra
      rename_i hn
      exact h0 fun f args ts he => hn ⟨f, args, ts, he⟩
    clear h0
    obtain ⟨f, args, ts, ho⟩ := h1
    refine ⟨fun f _ => hF.fn f, ?_⟩
    rw [Oper.semAt_eq _ _ _ (fun c hc => by rw [ho] at hc; cases hc)]
    unfold operA at hv
    rw [ho] at hv
    simp only at hv
    obtain ⟨g, hg, hv⟩ := Option.bind_eq_some_iff.1 hv
    obtain ⟨vs, hvs, hv⟩ := Option.bind_eq_some_iff.1 hv
    have hg' := evalO_ok hR hA.tmps hg
    have hvs' := mapO_ok hR hA.tmps hvs
    unfold callA at hv
    generalize hge : act.eval f = g' at hg'
    split at hv
    · rename_i k first captured _
      cases hg' with
      | @func _ _ first' _ captured' hfi hca =>
      obtain ⟨⟨fn, c, hf, hb, hn⟩, hcall⟩ := hS.call _ _ _ _ _ hv
      have hrun : (execOp act.eval o).run P w = .ok (.enter k (first' ++ args.map act.eval ++ captured')) w := by
        unfold execOp
        rw [ho]
        simp [resolve, hge, Deferred.ofValue, invoke, run_callFunc hf hb hn]
      rw [hrun]
      refine ⟨fun hd => hF.depth hd, ?_⟩
      have hc := hcall μ w (first' ++ args.map act.eval ++ captured') (fun
          | .returned v, w'' => K (act.put o.dst v) w''
          | .panicked chain, w'' => Q (.panic chain) act w''
          | .outgrown, _ => LetsOut Q) hR hT ((hfi.appendA hvs').appendA hca) (fun μ' w' v' f hvr => hK μ' w' v' (f.at id) hvr)
      cases rd with
      | none => cases hF; exact hc
      | some l0 => obtain ⟨i0, _, e0⟩ := hF; subst e0; exact hc
    · rename_i l first captured _
      split at hv
      case isFalse => cases hv
      rename_i h00
      cases hg' with
      | @yield _ i hi _ first' _ captured' hfi hca =>
      have e1 : first' = #[] := by
        have := hfi.length
        apply Array.eq_empty_of_size_eq_zero
        simp only [Array.length_toList] at this
        omega
      obtain ⟨fn, tmps, assign, body, hy, hround⟩ := roundA_ok hS hF hR hT hi hvs' hv
      have hrun : (execOp act.eval o).run P w = .ok (.round i.blk fn tmps assign body) w := by
        unfold execOp
        rw [ho]
        simp [resolve, hge, Deferred.ofValue, invoke, e1, hy]
      rw [hrun]
      exact ⟨fun hd => hF.depth hd, hround _ (fun μ' w' v' f hvr => hK μ' w' v' (f.at id) hvr)⟩
    · cases hv

end
end Go.Ev
