/- append and copy. -/
import Derived.Test.YtfickkmgbecamaaDoorEvJ
namespace Go.Ev

section
variable {P : Program} {μ : Mu} {h h' : AHeap} {w : World}

set_option maxHeartbeats 1000000 in
theorem run_append_inplace {st xt e : TypeId} {xd : TypeDesc} {j : TypeInfo} (hst : P.underlying st = some (.slice e)) (hxt : P.underlying xt = some xd) (hxd : isIntD xd = false)
    (hj : P.info? e = some j) {b o sLen sCap n : Nat} {x : Value} {ds : List Value} {C : Array Value} {t : TypeId} (hb : w.heap[b]? = some (.cells C t (0, 0)))
    (hn : (Builtin.lenOf x).run P w = .ok n w) (hf : (Builtin.firstCells j.size n x).run P w = .ok ds.toArray w) (hroom : sLen + n ≤ sCap) (hfit : o + sLen * j.size + ds.length ≤ C.size) (h1 : ds.all oneCell = true)
    {ts : Array TypeId} (h0 : ts[0]? = some st) (h01 : ts[1]? = some xt) (ty : TypeId) :
    (Builtin.append_ ts ty #[.slice (some ⟨b, o, none⟩) sLen sCap, x]).run P w =
      .ok (.slice (some ⟨b, o, none⟩) (sLen + n) sCap) (if ds = [] then w else World.putRow w b (setArr C (o + sLen * j.size) ds) t) := by
  have hs := run_storeCells (P := P) ds 0 (o + sLen * j.size) C w hb (by omega) h1
  cases xd <;> simp only [isIntD, reduceCtorEq] at hxd
  · simp [Builtin.append_, h0, h01, run_underlying hst, run_underlying hxt, run_sizeOf hj, hn, hroom, hf, add_off, hs]
  · simp [Builtin.append_, h0, h01, run_underlying hst, run_underlying hxt, run_sizeOf hj, hn, hroom, hf, add_off, hs]

set_option maxHeartbeats 1000000 in
theorem run_append_new {st xt e : TypeId} {xd : TypeDesc} {j : TypeInfo} {z : Value} (hst : P.underlying st = some (.slice e)) (hxt : P.underlying xt = some xd) (hxd : isIntD xd = false)
    (hj : P.info? e = some j) (hz : j.zero = some z) {base : Option Addr} {sLen sCap n : Nat} {x : Value} {olds ds : List Value}
    (hn : (Builtin.lenOf x).run P w = .ok n w) (ho : ∀ k, (Builtin.firstCells j.size sLen (.slice base sLen sCap)).run P { w with drawn := k } = .ok olds.toArray { w with drawn := k })
    (hf : ∀ k, (Builtin.firstCells j.size n x).run P { w with drawn := k } = .ok ds.toArray { w with drawn := k })
    (hroom : sCap < sLen + n) (hsmall : sLen + n ≤ 2 ^ 40) (hbytes : (sLen + n) * j.bytes ≤ 2 ^ 40)
    {ts : Array TypeId} (h0 : ts[0]? = some st) (h01 : ts[1]? = some xt) (ty : TypeId) :
    ∃ cap, sLen + n ≤ cap ∧ (Builtin.append_ ts ty #[.slice base sLen sCap, x]).run P w =
      .ok (.slice (some ⟨w.heap.size, 0, none⟩) (sLen + n) cap) (({ w with drawn := w.drawn + 1 } : World).alloc (.cells (olds ++ ds ++ (Builtin.zeroCells z.cells (cap - (sLen + n))).toList).toArray e)) := by
  have hn1 : ¬ (sLen + n ≤ sCap) := by omega
  have h63 : ¬ (9223372036854775807 < ((sLen : Int) + (n : Int))) := by omega
  have h48 : ¬ (281474976710656 < Builtin.nextslicecap (sLen + n) sCap * j.bytes) := by
    have := growslice_fits (bytes := j.bytes) hroom (by omega)
    omega
  have ho' := ho (w.drawn + 1)
  have hf' := hf (w.drawn + 1)
  refine ⟨grownCap w (sLen + n) sCap e, grownCap_ge w _ _ _, ?_⟩
  have key : (Builtin.append_ ts ty #[.slice base sLen sCap, x]).run P w = .ok (.slice (some ⟨w.heap.size, 0, none⟩) (sLen + n) (grownCap w (sLen + n) sCap e)) (({ w with drawn := w.drawn + 1 } : World).alloc (.cells (olds.toArray ++ ds.toArray ++ Builtin.zeroCells z.cells (grownCap w (sLen + n) sCap e - (sLen + n))) e)) := by
    have ho2 : (Builtin.firstCells j.size sLen (.slice base sLen sCap)).run P w.drew = .ok olds.toArray w.drew := ho'
    have hf2 : (Builtin.firstCells j.size n x).run P w.drew = .ok ds.toArray w.drew := hf'
    cases xd <;> simp only [isIntD, reduceCtorEq] at hxd
    · simp [Builtin.append_, h0, h01, run_underlying hst, run_underlying hxt, run_sizeOf hj, run_typeInfo hj, hn, hn1, h63, h48, Question.forced, run_zeroValue hj hz, newRow, grownCap, ho2, hf2]
      simp [← Array.append_assoc]
    · simp [Builtin.append_, h0, h01, run_underlying hst, run_underlying hxt, run_sizeOf hj, run_typeInfo hj, hn, hn1, h63, h48, Question.forced, run_zeroValue hj hz, newRow, grownCap, ho2, hf2]
      simp [← Array.append_assoc]
  rw [key]
  congr 3
  apply Array.toList_inj.1
  simp

theorem newA_val {id : Nat} {e : TypeId} {cs : List Value} {g : Bool} {v v2 : Value} (hn : newA P h id e cs g v = some (v2, h')) : v2 = v := by
  unfold newA at hn
  split at hn
  · simp only [Option.map_eq_some_iff, Prod.mk.injEq] at hn; obtain ⟨_, _, hh, _⟩ := hn; exact hh.symm
  · cases hn

theorem size_zeroCells' (z : Array Value) (n : Nat) : (Builtin.zeroCells z n).size = n * z.size := by simp [Builtin.zeroCells]

theorem Rel.kill (hR : Rel P μ h w) {b : Nat} {o : AObj} {i : Img} (hb : h.get b = some o) (hm : mutO o = true) (hi : μ b = some i) : Rel P μ (h.put b .dead) w ∧ Ste μ h w μ (h.put b .dead) w :=
  hR.update hb hm hi trivial rfl rfl rfl rfl fun _ _ => rfl

/-- A new row behind an append: it may have room to spare. -/
theorem append_fresh {st xt e : TypeId} {xd : TypeDesc} {j : TypeInfo} {z : Value} (hst : P.underlying st = some (.slice e)) (hxt : P.underlying xt = some xd) (hxd : isIntD xd = false)
    (hj : P.info? e = some j) (hz : j.zero = some z) (hzs : z.cells.size = j.size) {base : Option Addr} {sLen sCap n : Nat} {x : Value} {old new olds ds : List Value} (hol : VsRel μ old olds) (hds : VsRel μ new ds)
    (hl1 : olds.length = sLen * j.size) (hl2 : ds.length = n * j.size)
    (hn : (Builtin.lenOf x).run P w = .ok n w) (ho : ∀ k, (Builtin.firstCells j.size sLen (.slice base sLen sCap)).run P { w with drawn := k } = .ok olds.toArray { w with drawn := k })
    (hf : ∀ k, (Builtin.firstCells j.size n x).run P { w with drawn := k } = .ok ds.toArray { w with drawn := k })
    (hroom : sCap < sLen + n) (hsmall : sLen + n ≤ 2 ^ 40) (hbytes : (sLen + n) * j.bytes ≤ 2 ^ 40)
    {ts : Array TypeId} (h0 : ts[0]? = some st) (h01 : ts[1]? = some xt) (ty : TypeId) (hR : Rel P μ h w) {id : Nat} (hμ : μ id = none) {v : Value}
    (hnn : newA P h id e (old ++ new) true (.slice (some ⟨id, 0, none⟩) (sLen + n) (sLen + n)) = some (v, h')) :
    ∃ v' w' μ', (Builtin.append_ ts ty #[.slice base sLen sCap, x]).run P w = .ok v' w' ∧ VRel μ' v v' ∧ Rel P μ' h' w' ∧ Ste μ h w μ' h' w' ∧ Fr μ μ' id := by
  obtain rfl := newA_val hnn
  obtain ⟨cap, hcap, hrun⟩ := run_append_new (P := P) (w := w) hst hxt hxd hj hz hn ho hf hroom hsmall hbytes h0 h01 ty
  obtain ⟨inf, hinf, h1, h2⟩ := newG_ok hR hμ (n := w.drawn + 1) (spare := (Builtin.zeroCells z.cells (cap - (sLen + n))).toList) (hol.append hds) hnn
  rw [hj] at hinf; cases hinf
  refine ⟨_, _, _, hrun, ?_, h1, h2, Fr.add _ _ _⟩
  refine VRel.slice (o := 0) (Mu.add_self _ _ _) hcap (fun hx => by cases hx) (.inr ?_)
  clear hrun h1 h2 hnn hol hds hn ho hf
  have e1 : (olds ++ ds ++ (Builtin.zeroCells z.cells (cap - (sLen + n))).toList).length = cap * j.size := by
    have e0 : (Builtin.zeroCells z.cells (cap - (sLen + n))).toList.length = (cap - (sLen + n)) * j.size := by rw [Array.length_toList, size_zeroCells', hzs]
    rw [List.length_append, List.length_append, e0, hl1, hl2, ← Nat.add_mul, ← Nat.add_mul]
    congr 1; omega
  simp only [e1]; omega

/-- A row with unknown room has it: the new one lies in the same block. -/
theorem append_move {st xt e : TypeId} {xd : TypeDesc} {j : TypeInfo} (hst : P.underlying st = some (.slice e)) (hxt : P.underlying xt = some xd) (hxd : isIntD xd = false)
    (hj : P.info? e = some j) (hpos : 0 < j.size) {b o sLen n c' : Nat} {x : Value} {c old new ds : List Value} {i : Img} {g : Bool} (hR : Rel P μ h w) (hgb : h.get b = some (.cells c e false g)) (hi : μ b = some i)
    (hold : loadRow c o (sLen * j.size) = some old) (hds : VsRel μ new ds) (hl2 : ds.length = n * j.size) (hn0 : n ≠ 0) (hone : ds.all oneCell = true)
    (hn : (Builtin.lenOf x).run P w = .ok n w) (hf : (Builtin.firstCells j.size n x).run P w = .ok ds.toArray w)
    (hin : sLen + n ≤ c') (hcfit : o + c' * j.size ≤ i.lim)
    {ts : Array TypeId} (h0 : ts[0]? = some st) (h01 : ts[1]? = some xt) (ty : TypeId) {id : Nat} (hμid : μ id = none) {v : Value}
    (hnn : newA P (h.put b .dead) id e (old ++ new) true (.slice (some ⟨id, 0, none⟩) (sLen + n) (sLen + n)) = some (v, h')) :
    ∃ v' w' μ', (Builtin.append_ ts ty #[.slice (some ⟨i.blk, o + i.d, none⟩) sLen c', x]).run P w = .ok v' w' ∧ VRel μ' v v' ∧ Rel P μ' h' w' ∧ Ste μ h w μ' h' w' ∧ Fr μ μ' id := by
  obtain rfl := newA_val hnn
  obtain ⟨i2, hi2, ho⟩ := hR.obj _ _ hgb
  rw [hi] at hi2; cases hi2
  obtain ⟨C, fz, hC, hfz, hdim, hcl, hget, hex, hsz2⟩ := ho
  obtain rfl := hfz rfl
  obtain ⟨ol, ofit, oget⟩ := loadRow_get hold
  have hisz : i.sz = j.size := by have hsz3 := hsz2 (.inl rfl); rw [hj] at hsz3; simpa using hsz3.symm
  have hmul : (sLen + n) * j.size ≤ c' * j.size := Nat.mul_le_mul_right _ hin
  rw [Nat.add_mul] at hmul
  have hnl := hds.length
  have hfits : o + i.d + sLen * j.size + ds.length ≤ C.size := by omega
  have hdsne : ds ≠ [] := fun h0 => by
    have : 0 < n * j.size := Nat.mul_pos (by omega) hpos
    rw [h0, List.length_nil] at hl2
    omega
  have hrun := run_append_inplace (P := P) (w := w) hst hxt hxd hj hC hn hf hin hfits hone h0 h01 ty
  rw [if_neg hdsne] at hrun
  unfold newA at hnn
  rw [hj] at hnn
  simp only [Option.map_eq_some_iff, Prod.mk.injEq, true_and] at hnn
  obtain ⟨h2, hnew2, rfl⟩ := hnn
  have hlt : i.blk < w.heap.size := (Array.getElem?_eq_some_iff.1 hC).1
  obtain ⟨i', hi'⟩ : ∃ i' : Img, i' = { blk := i.blk, d := i.d + o, lim := i.lim - o, sz := i.sz, exact := false } := ⟨_, rfl⟩
  have hle2 := Mu.le_add (μ := μ) (b := id) i' hμid
  have hcells : ∀ k u, (old ++ new)[k]? = some u → ∃ u', (setArr C (o + i.d + sLen * j.size) ds)[i.d + o + k]? = some u' ∧ VRel (μ.add id i') u u' := fun k u hk => by
    rw [getElem?_setArr hfits]
    by_cases hk1 : k < old.length
    · rw [List.getElem?_append_left hk1] at hk
      rw [if_neg (by omega)]
      obtain ⟨u', a, b2⟩ := hget _ _ (oget k u hk).1
      exact ⟨u', by rw [show i.d + o + k = i.d + (o + k) from by omega]; exact a, b2.mono hle2⟩
    · rw [List.getElem?_append_right (by omega)] at hk
      obtain ⟨u', a, b2⟩ := hds.get _ _ hk
      have hkl : k - old.length < ds.length := (List.getElem?_eq_some_iff.1 a).1
      rw [if_pos ⟨by omega, by omega⟩]
      exact ⟨u', by rw [show i.d + o + k - (o + i.d + sLen * j.size) = k - old.length from by omega]; exact a, b2.mono hle2⟩
  have hORel : ORel P (μ.add id i') (.cells (old ++ new) e false true) i' (World.putRow w i.blk (setArr C (o + i.d + sLen * j.size) ds) e) := by
    subst hi'
    exact ⟨setArr C (o + i.d + sLen * j.size) ds, (0, 0), putRow_same _ _ hlt, fun _ => rfl, by rw [size_setArr hfits]; show i.d + o + (i.lim - o) = C.size; omega, by
      show (old ++ new).length ≤ i.lim - o
      rw [List.length_append]; omega, hcells, fun hx => (by cases hx), fun _ => hsz2 (.inl rfl)⟩
  obtain ⟨r1, r2⟩ := hR.move hμid (w' := World.putRow w i.blk (setArr C (o + i.d + sLen * j.size) ds) e) hgb rfl hi hnew2 (by rw [hi']) hORel
    (putRow_size _ _ _ _) rfl rfl rfl (fun k hk => putRow_other _ _ hk)
  refine ⟨_, _, _, hrun, ?_, r1, r2, Fr.add _ _ _⟩
  have hvr := VRel.slice (μ := μ.add id i') (b := id) (o := 0) (l := sLen + n) (c := sLen + n) (c' := c') (Mu.add_self _ _ _) hin (fun hx => by rw [hi'] at hx; cases hx) (.inr (by rw [hi']; show 0 + c' * i.sz ≤ i.lim - o; rw [hisz]; omega))
  have e1 : i'.blk = i.blk := by rw [hi']
  have e2 : 0 + i'.d = o + i.d := by rw [hi']; show 0 + (i.d + o) = _; omega
  rw [e1, e2] at hvr
  exact hvr

/-- A row with known room has it. -/
theorem append_room {st xt e : TypeId} {xd : TypeDesc} {j : TypeInfo} (hst : P.underlying st = some (.slice e)) (hxt : P.underlying xt = some xd) (hxd : isIntD xd = false)
    (hj : P.info? e = some j) (hpos : 0 < j.size) {b o sLen n sCap : Nat} {x : Value} {c new ds : List Value} {i : Img} {g : Bool} (hR : Rel P μ h w) (hgb : h.get b = some (.cells c e false g)) (hi : μ b = some i)
    (hds : VsRel μ new ds) (hl2 : ds.length = n * j.size) (hn0 : n ≠ 0) (hone : ds.all oneCell = true)
    (hn : (Builtin.lenOf x).run P w = .ok n w) (hf : (Builtin.firstCells j.size n x).run P w = .ok ds.toArray w)
    (hin : sLen + n ≤ sCap) (hfit : o + sCap * j.size ≤ c.length)
    {ts : Array TypeId} (h0 : ts[0]? = some st) (h01 : ts[1]? = some xt) (ty : TypeId) :
    ∃ v' w', (Builtin.append_ ts ty #[.slice (some ⟨i.blk, o + i.d, none⟩) sLen sCap, x]).run P w = .ok v' w' ∧ v' = .slice (some ⟨i.blk, o + i.d, none⟩) (sLen + n) sCap ∧
      Rel P μ (h.put b (.cells (setRow c (o + sLen * j.size) new) e false g)) w' ∧ Ste μ h w μ (h.put b (.cells (setRow c (o + sLen * j.size) new) e false g)) w' := by
  obtain ⟨i2, hi2, ho⟩ := hR.obj _ _ hgb
  rw [hi] at hi2; cases hi2
  have hmul : (sLen + n) * j.size ≤ sCap * j.size := Nat.mul_le_mul_right _ hin
  rw [Nat.add_mul] at hmul
  have hnl := hds.length
  obtain ⟨C, hC, hfits, hnew3⟩ := ho.set (off := o + sLen * j.size) hds (by omega)
  have hdsne : ds ≠ [] := fun h0 => by
    have : 0 < n * j.size := Nat.mul_pos (by omega) hpos
    rw [h0, List.length_nil] at hl2
    omega
  have hfits' : o + i.d + sLen * j.size + ds.length ≤ C.size := by omega
  have hrun := run_append_inplace (P := P) (w := w) hst hxt hxd hj hC hn hf hin hfits' hone h0 h01 ty
  rw [if_neg hdsne, show o + i.d + sLen * j.size = o + sLen * j.size + i.d from by omega] at hrun
  obtain ⟨r1, r2⟩ := hR.update hgb rfl hi hnew3 (putRow_size _ _ _ _) rfl rfl rfl (fun k hk => putRow_other _ _ hk)
  exact ⟨_, _, hrun, rfl, r1, r2⟩

/-- Nothing is appended. -/
theorem append_none {st xt e : TypeId} {xd : TypeDesc} {j : TypeInfo} (hst : P.underlying st = some (.slice e)) (hxt : P.underlying xt = some xd) (hxd : isIntD xd = false)
    (hj : P.info? e = some j) {base : Option Addr} {sLen c' : Nat} {x : Value} (hn : (Builtin.lenOf x).run P w = .ok 0 w) (hf : (Builtin.firstCells j.size 0 x).run P w = .ok #[] w) (hle : sLen ≤ c')
    {ts : Array TypeId} (h0 : ts[0]? = some st) (h01 : ts[1]? = some xt) (ty : TypeId) :
    (Builtin.append_ ts ty #[.slice base sLen c', x]).run P w = .ok (.slice base sLen c') w := by
  cases xd <;> simp only [isIntD, reduceCtorEq] at hxd
  · cases base <;> simp [Builtin.append_, h0, h01, run_underlying hst, run_underlying hxt, run_sizeOf hj, hn, hf, hle, storeCells]
  · cases base <;> simp [Builtin.append_, h0, h01, run_underlying hst, run_underlying hxt, run_sizeOf hj, hn, hf, hle, storeCells]

theorem two_args {args args' : Array Value} (ha : VsRel μ args.toList args'.toList) (hsz : args.size = 2) {s x : Value} (h0 : args[0]? = some s) (h1 : args[1]? = some x) :
    ∃ s' x', args' = #[s', x'] ∧ VRel μ s s' ∧ VRel μ x x' := by
  obtain ⟨s', hs', hsr⟩ := ha.get 0 _ (by simpa using h0)
  obtain ⟨x', hx', hxr⟩ := ha.get 1 _ (by simpa using h1)
  refine ⟨s', x', ?_, hsr, hxr⟩
  have hl := ha.length
  have hl2 : args.toList.length = 2 := by simpa using hsz
  apply Array.toList_inj.1
  match hl' : args'.toList with
  | [a, b] => rw [hl'] at hs' hx'; simp at hs' hx'; rw [hs', hx']
  | [] => rw [hl'] at hl; simp only [List.length_nil] at hl; omega
  | [_] => rw [hl'] at hl; simp only [List.length_cons, List.length_nil] at hl; omega
  | _ :: _ :: _ :: _ => rw [hl'] at hl; simp only [List.length_cons] at hl; omega

theorem appendA_ok (hR : Rel P μ h w) {id : Nat} (hμ : μ id = none) {ts : Array TypeId} {ty : TypeId} {args args' : Array Value} {v : Value} (ha : VsRel μ args.toList args'.toList) (hsz : args.size = 2) (hv : appendA P h id ts args = some (v, h')) :
    ∃ v' w' μ', (Builtin.append_ ts ty args').run P w = .ok v' w' ∧ VRel μ' v v' ∧ Rel P μ' h' w' ∧ Ste μ h w μ' h' w' ∧ Fr μ μ' id := by
  unfold appendA at hv
  split at hv
  · rename_i st xt base sLen sCap x hst0 hxt0 ha0 ha1
    obtain ⟨s', x', rfl, hsr, hxr⟩ := two_args ha hsz ha0 ha1
    split at hv
    · rename_i e xd hst hxt
      split at hv
      · cases hv
      · rename_i hxd
        simp only [Bool.not_eq_true] at hxd
        split at hv
        · rename_i j hj
          split at hv
          · rename_i z n hz hn
            split at hv
            · rename_i hc
              obtain ⟨hpos, hbytes, hroom, hzs⟩ := hc
              unfold room at hbytes hroom
              split at hv
              · rename_i new hnew
                have hlen := lenOfA_ok (P := P) hxr hn w
                obtain ⟨ds, hds, hdl, hdrun⟩ := firstA_ok hR hxr hnew
                split at hv
                · rename_i hnl
                  obtain ⟨hnl, hone⟩ := hnl
                  have hdl' : ds.length = n * j.size := hdl.trans hnl
                  have hf0 : (Builtin.firstCells j.size n x').run P w = .ok ds.toArray w := hdrun w.drawn
                  split at hv
                  · -- onto nil
                    split at hv
                    · rename_i hs0
                      obtain ⟨rfl, rfl⟩ := hs0
                      cases hsr
                      split at hv
                      · rename_i hn0
                        subst hn0
                        cases hv
                        have hds0 : ds = [] := List.eq_nil_of_length_eq_zero (by rw [hdl', Nat.zero_mul])
                        subst hds0
                        exact ⟨_, w, μ, append_none hst hxt hxd hj hlen hf0 (Nat.le_refl _) hst0 hxt0 ty, .nilSlice, hR, Ste.refl _ _ _, Fr.refl _ _⟩
                      · rename_i hn0
                        exact append_fresh hst hxt hxd hj hz hzs (sLen := 0) (sCap := 0) (old := []) (olds := []) .nil hds (by simp) hdl' hlen (fun k => by simp [Builtin.firstCells]) hdrun (by omega) hroom hbytes hst0 hxt0 ty hR hμ (by simpa using hv)
                    · cases hv
                  · -- onto a row
                    rename_i b o
                    split at hv
                    · rename_i c e' ro grown hgb
                      cases hsr with
                      | @slice _ _ _ _ c' i hi hcc he hvv =>
                      obtain ⟨i2, hi2, ho⟩ := hR.obj _ _ hgb
                      rw [hi] at hi2; cases hi2
                      split at hv
                      · rename_i hq
                        obtain ⟨rfl, hlc, hfit⟩ := hq
                        have hcfit : o + c' * j.size ≤ i.lim := by
                          obtain ⟨C, fz, hC, hfz, hdim, hcl, hget, hex, hsz2⟩ := ho
                          by_cases hg : grown = true
                          · have hisz : i.sz = j.size := by have hsz3 := hsz2 (.inr hg); rw [hj] at hsz3; simpa using hsz3.symm
                            rcases hvv with e1 | e1
                            · rw [e1]; omega
                            · rw [hisz] at e1; exact e1
                          · rw [he (hex (by simpa using hg))]; omega
                        have hexx : grown = false → i.exact = true := by
                          obtain ⟨C, fz, hC, hfz, hdim, hcl, hget, hex, hsz2⟩ := ho
                          exact hex
                        split at hv
                        · rename_i hn0
                          subst hn0
                          cases hv
                          have hds0 : ds = [] := List.eq_nil_of_length_eq_zero (by rw [hdl', Nat.zero_mul])
                          subst hds0
                          exact ⟨_, w, μ, append_none hst hxt hxd hj hlen hf0 (Nat.le_trans hlc hcc) hst0 hxt0 ty, .slice hi hcc he hvv, hR, Ste.refl _ _ _, Fr.refl _ _⟩
                        · rename_i hn0
                          split at hv
                          · rename_i old hold
                            obtain ⟨ys, hys, hyrel, hycell, _⟩ := loadCells_ok ho hold
                            have hyrun : ∀ k, (Builtin.firstCells j.size sLen (.slice (some ⟨i.blk, o + i.d, none⟩) sLen c')).run P { w with drawn := k } = .ok ys.toArray { w with drawn := k } := fun k => by
                              have hrun := run_loadCells_list (P := P) { w with drawn := k } ⟨i.blk, o + i.d, none⟩ ys hycell
                              rw [hys] at hrun
                              simp [Builtin.firstCells, hrun]
                            have hdsone := VsRel.all_oneCell hds hone
                            split at hv
                            · split at hv
                              · cases hv
                              · rename_i hro
                                simp only [Bool.not_eq_true] at hro
                                subst hro
                                by_cases hin : sLen + n ≤ c'
                                · exact append_move hst hxt hxd hj hpos hR hgb hi hold hds hdl' hn0 hdsone hlen hf0 hin hcfit hst0 hxt0 ty hμ hv
                                · obtain ⟨k1, k2⟩ := Rel.kill hR hgb rfl hi
                                  obtain ⟨v', w', μ', q1, q2, q3, q4⟩ := append_fresh hst hxt hxd hj hz hzs hyrel hds hys hdl' hlen hyrun hdrun (Nat.lt_of_not_le hin) hroom hbytes hst0 hxt0 ty k1 hμ hv
                                  exact ⟨v', w', μ', q1, q2, q3, k2.trans q4.1, q4.2⟩
                            · rename_i hgr
                              simp only [Bool.not_eq_true] at hgr
                              have hce : c' = sCap := he (hexx hgr)
                              subst hce
                              split at hv
                              · rename_i hin
                                split at hv
                                · cases hv
                                · rename_i hro
                                  simp only [Bool.not_eq_true] at hro
                                  subst hro
                                  subst hgr
                                  cases hv
                                  obtain ⟨v', w', q1, rfl, q3, q4⟩ := append_room hst hxt hxd hj hpos hR hgb hi hds hdl' hn0 hdsone hlen hf0 hin hfit hst0 hxt0 ty
                                  exact ⟨_, w', μ, q1, .slice hi (Nat.le_refl _) (fun _ => rfl) (.inl rfl), q3, q4, Fr.refl _ _⟩
                              · rename_i hin
                                exact append_fresh hst hxt hxd hj hz hzs hyrel hds hys hdl' hlen hyrun hdrun (Nat.lt_of_not_le hin) hroom hbytes hst0 hxt0 ty hR hμ hv
                          · cases hv
                      · cases hv
                    · cases hv
                  · cases hv
                · cases hv
              · cases hv
            · cases hv
          · cases hv
        · cases hv
    · cases hv
  · cases hv

theorem copyA_ok {id : Nat} (hR : Rel P μ h w) {ts : Array TypeId} {ty : TypeId} {args args' : Array Value} {v : Value} (ha : VsRel μ args.toList args'.toList) (hsz : args.size = 2) (hv : copyA P h ts args = some (v, h')) :
    ∃ v' w' μ', (Builtin.copy_ ts ty args').run P w = .ok v' w' ∧ VRel μ' v v' ∧ Rel P μ' h' w' ∧ Ste μ h w μ' h' w' ∧ Fr μ μ' id := by
  unfold copyA at hv
  split at hv
  · rename_i dt base dLen dCap x hdt0 ha0 ha1
    obtain ⟨s', x', rfl, hsr, hxr⟩ := two_args ha hsz ha0 ha1
    split at hv
    · rename_i e hdt
      split at hv
      · rename_i j xn hj hxn
        split at hv
        · rename_i new hnew
          have hlen := lenOfA_ok (P := P) hxr hxn w
          obtain ⟨ds, hds, hdl, hdrun⟩ := firstA_ok hR hxr hnew
          have hf0 : (Builtin.firstCells j.size (Nat.min xn dLen) x').run P w = .ok ds.toArray w := hdrun w.drawn
          split at hv
          · rename_i h0
            split at hv
            · rename_i hne
              cases hv
              have hn0 : new = [] := by simpa using hne
              have hds0 : ds = [] := List.eq_nil_of_length_eq_zero (by rw [hdl, hn0]; rfl)
              rw [h0, hds0] at hf0
              refine ⟨goInt 0, w, μ, ?_, .int _ _, hR, Ste.refl _ _ _, Fr.refl _ _⟩
              have h0' : xn.min dLen = 0 := h0
              cases hsr <;> simp [Builtin.copy_, hdt0, run_underlying hdt, hlen, run_sizeOf hj, h0', hf0, storeCells]
            · cases hv
          · split at hv
            · rename_i b o
              split at hv
              · rename_i c e' g hgb
                split at hv
                · rename_i hc
                  obtain ⟨hfit, hone⟩ := hc
                  cases hv
                  cases hsr with
                  | @slice _ _ _ _ c' i hi hcc he hvv =>
                  obtain ⟨i2, hi2, ho⟩ := hR.obj _ _ hgb
                  rw [hi] at hi2; cases hi2
                  obtain ⟨C, hC, hfits, hnew3⟩ := ho.set (off := o) hds hfit
                  have hst := run_storeCells (P := P) ds 0 (o + i.d) C w hC (by simpa using hfits) (VsRel.all_oneCell hds hone)
                  have hrun : (Builtin.copy_ ts ty #[.slice (some ⟨i.blk, o + i.d, none⟩) dLen c', x']).run P w = .ok (goInt (Nat.min xn dLen : Nat)) (if ds = [] then w else World.putRow w i.blk (setArr C (o + i.d + 0) ds) e') := by
                    simp [Builtin.copy_, hdt0, run_underlying hdt, hlen, run_sizeOf hj, hf0, hst]
                  by_cases hd0 : ds = []
                  · rw [if_pos hd0] at hrun
                    have hn0 : new = [] := List.eq_nil_of_length_eq_zero (by rw [← hdl, hd0]; rfl)
                    obtain ⟨r1, r2⟩ := hR.update hgb rfl hi (o' := .cells (setRow c o new) e' false g) (by rw [hn0]; simpa [setRow] using ho) rfl rfl rfl rfl (fun _ _ => rfl)
                    exact ⟨_, _, _, hrun, .int _ _, r1, r2, Fr.refl _ _⟩
                  · rw [if_neg hd0] at hrun
                    obtain ⟨r1, r2⟩ := hR.update hgb rfl hi hnew3 (putRow_size _ _ _ _) rfl rfl rfl (fun k hk => putRow_other _ _ hk)
                    exact ⟨_, _, _, hrun, .int _ _, r1, r2, Fr.refl _ _⟩
                · cases hv
              · cases hv
            · cases hv
        · cases hv
      · cases hv
    · cases hv
  · cases hv

end
end Go.Ev
