/- Slices, fields, indexes, maps. -/
import Derived.Test.YtfickkmgbecamaaDoorEvH
namespace Go.Ev

section
variable {P : Program} {μ : Mu} {h h' : AHeap} {w : World}

/-! ### Slice expressions -/

def OV (μ : Mu) : Option Value → Option Value → Prop
  | none, none => True
  | some v, some v' => VRel μ v v'
  | _, _ => False

theorem boundA_some {y d n : Nat} {x : Value} (h : boundA y (some x) d = some n) : ∃ k i, x = .int k i ∧ 0 ≤ i ∧ i ≤ y ∧ n = i.toNat := by
  cases x <;> simp [boundA] at h
  rename_i k i
  exact ⟨k, i, rfl, h.1.1, h.1.2, h.2.symm⟩

theorem boundA_le {y d n : Nat} {x : Option Value} (h : boundA y x d = some n) (hd : d ≤ y) : n ≤ y := by
  cases x with
  | none => simp only [boundA, Option.some.injEq] at h; omega
  | some x => obtain ⟨k, i, _, _, h2, rfl⟩ := boundA_some h; omega

def bnd (y d : Nat) (c : BoundsCode) : Option Value → Sem Nat
  | some v => Instr.sliceBound v y c
  | none => pure d

theorem run_bound_ok {x x' : Option Value} {y d n : Nat} (hx : OV μ x x') (hb : boundA y x d = some n) (c : BoundsCode) (w : World) :
    (bnd y d c x').run P w = .ok n w := by
  cases x with
  | none =>
    cases x' with
    | none => simp only [boundA, Option.some.injEq] at hb; subst hb; simp [bnd]
    | some _ => exact hx.elim
  | some x =>
    cases x' with
    | none => exact hx.elim
    | some x' =>
      obtain ⟨k, i, rfl, h0, h1, rfl⟩ := boundA_some hb
      cases hx
      exact run_sliceBound w k i y c h0 h1

theorem boundsA_inv {len cap l u m : Nat} {lo hi mx : Option Value} : boundsA len cap lo hi mx = some (l, u, m) ↔
    boundA cap mx cap = some m ∧ (hi.isNone && mx.isSome) = false ∧ boundA m hi len = some u ∧ boundA u lo 0 = some l := by
  unfold boundsA
  constructor
  · intro hb
    split at hb
    · rename_i m' hm
      split at hb
      · cases hb
      · rename_i hne
        split at hb
        · rename_i u' hu
          split at hb
          · rename_i l' hl
            cases hb
            exact ⟨hm, by simpa using hne, hu, hl⟩
          · cases hb
        · cases hb
    · cases hb
  · rintro ⟨h1, h2, h3, h4⟩
    rw [h1]; simp only [h2, Bool.false_eq_true, if_false, h3, h4]

theorem boundsA_ok {isS : Bool} {len cap l u m : Nat} {lo hi mx lo' hi' mx' : Option Value} (h1 : OV μ lo lo') (h2 : OV μ hi hi') (h3 : OV μ mx mx') (hb : boundsA len cap lo hi mx = some (l, u, m)) (w : World) :
    (Instr.sliceBounds isS len cap lo' hi' mx').run P w = .ok (l, u, m) w := by
  obtain ⟨hm, hne, hu, hl⟩ := boundsA_inv.1 hb
  unfold Instr.sliceBounds
  have e1 := fun c => run_bound_ok (P := P) h3 hm c w
  have e2 := fun c => run_bound_ok (P := P) h2 hu c w
  have e3 := fun c => run_bound_ok (P := P) h1 hl c w
  have hne' : (hi'.isNone && mx'.isSome) = false := by
    have a1 : hi'.isNone = hi.isNone := by cases hi <;> cases hi' <;> first | rfl | exact h2.elim
    have a2 : mx'.isSome = mx.isSome := by cases mx <;> cases mx' <;> first | rfl | exact h3.elim
    rw [a1, a2]; exact hne
  clear hm hu hl hne h1 h2 h3 hb
  cases mx' <;> cases hi' <;> cases lo' <;> simp_all [bnd]

/-- The bounds, where the model's row has more room than is known. -/
theorem boundsA_cap {len cap cap' l u m : Nat} {lo hi mx : Option Value} (hc : cap ≤ cap') (hb : boundsA len cap lo hi mx = some (l, u, m)) :
    boundsA len cap' lo hi mx = some (l, u, if mx.isNone then cap' else m) ∧ (mx.isNone = true → m = cap) ∧ m ≤ cap ∧ l ≤ u := by
  obtain ⟨hm, hne, hu, hl⟩ := boundsA_inv.1 hb
  have hlu := boundA_le hl (Nat.zero_le _)
  have hmc := boundA_le hm (Nat.le_refl _)
  refine ⟨boundsA_inv.2 ⟨?_, hne, ?_, hl⟩, ?_, hmc, hlu⟩
  · cases mx with
    | none => rfl
    | some y =>
      obtain ⟨k, n, rfl, n0, n1, rfl⟩ := boundA_some hm
      simp [boundA]; omega
  · cases hi with
    | none => exact hu
    | some y =>
      obtain ⟨k, n, rfl, n0, n1, rfl⟩ := boundA_some hu
      cases mx with
      | none => simp [boundA]; omega
      | some _ => simp [boundA]; omega
  · intro hn
    cases mx with
    | none => simp only [boundA, Option.some.injEq] at hm; omega
    | some _ => simp at hn

theorem run_sliceAt_slice {t e : TypeId} {j : TypeInfo} (ht : P.underlying t = some (.slice e)) (hj : P.info? e = some j) {isS len cap l u m : Nat} {a : Option Addr} {lo' hi' mx' : Option Value} (_ : isS = 0)
    (hb : (Instr.sliceBounds true len cap lo' hi' mx').run P w = .ok (l, u, m) w) :
    (Instr.sliceAt t (.slice a len cap) lo' hi' mx').run P w = .ok (.slice (if m = l then a else a.map (·.add (l * j.size))) (u - l) (m - l)) w := by
  have e1 : (Instr.sliceAt t (.slice a len cap) lo' hi' mx') = (do
      match ← underlying t with
      | .array n elem =>
        let a ← Instr.sureAddr (.slice a len cap)
        let (l, h, m) ← Instr.sliceBounds false n n lo' hi' mx'
        let size ← sizeOf elem
        pure (.slice (some (if m = l then a else a.add (l * size))) (h - l) (m - l))
      | _ => Instr.slice t (.slice a len cap) lo' hi' mx') := rfl
  rw [e1, Sem.run_bind, run_underlying ht]
  simp only [Result.andThen_ok]
  unfold Instr.slice
  rw [Sem.run_bind, run_underlying ht]
  simp only [Result.andThen_ok]
  rw [Sem.run_bind, hb]
  simp only [Result.andThen_ok]
  rw [Sem.run_bind, run_sizeOf hj]
  simp only [Result.andThen_ok, Sem.run_pure]

theorem sliceA_ok (hR : Rel P μ h w) {t : TypeId} {x x' v : Value} {lo hi mx lo' hi' mx' : Option Value} (hx : VRel μ x x') (h1 : OV μ lo lo') (h2 : OV μ hi hi') (h3 : OV μ mx mx')
    (hv : sliceA P h t x lo hi mx = some v) : ∃ v', (Instr.sliceAt t x' lo' hi' mx').run P w = .ok v' w ∧ VRel μ v v' := by
  unfold sliceA at hv
  split at hv
  · -- a string
    rename_i s ht
    cases hx
    split at hv
    · cases hv
    · rename_i hmx
      simp only [Option.map_eq_some_iff, Prod.exists] at hv
      obtain ⟨l, u, m, hb, rfl⟩ := hv
      have hmx' : mx' = none := by
        cases mx with
        | none => cases mx' with
          | none => rfl
          | some _ => exact h3.elim
        | some _ => simp at hmx
      subst hmx'
      have := boundsA_ok (P := P) (isS := false) h1 h2 (mx := none) (mx' := none) trivial hb w
      exact ⟨.string (s.extract l u), by simp [Instr.sliceAt, Instr.slice, run_underlying ht, this], .string _⟩
  · -- a slice
    rename_i e a len cap ht
    split at hv
    · rename_i j l u m hj hb
      split at hv
      · -- over a row
        rename_i b o
        split at hv
        · rename_i c e' ro grown hgb
          cases hx with
          | @slice _ _ _ _ c' i hi' hc he hvv =>
          obtain ⟨i2, hi2, ho⟩ := hR.obj b _ hgb
          rw [hi'] at hi2; cases hi2
          obtain ⟨C, fz, _, _, _, _, _, hex, hsz⟩ := ho
          split at hv
          · cases hv
          · rename_i hge
            have hum : u ≤ m := Nat.le_of_not_lt fun hlt => hge (.inr hlt)
            obtain ⟨hbc, hmcap, hmle, hlu⟩ := boundsA_cap hc hb
            have hres := run_sliceAt_slice (P := P) (w := w) ht hj (a := some ⟨i.blk, o + i.d, none⟩) rfl (boundsA_ok (P := P) (isS := true) h1 h2 h3 hbc w)
            refine ⟨_, hres, ?_⟩
            split at hv
            · rename_i hq
              split at hv
              · rename_i hul
                cases hv
                rw [hul, Nat.sub_self]
                simp only [Option.map_some]
                generalize (if mx.isNone = true then c' else m) = z
                by_cases hz : z = l
                · rw [if_pos hz]; exact .empty
                · rw [if_neg hz]; exact .empty
              · cases hv
            · rename_i hq
              cases hv
              by_cases hmx : mx.isNone = true
              · have hm := hmcap hmx
                rw [if_pos hmx]
                have hv' : c' - l = m - l ∨ (if m = l then o else o + l * j.size) + (c' - l) * i.sz ≤ i.lim := by
                  rcases hvv with e1 | e1
                  · left; omega
                  · by_cases hg : grown = true
                    · right
                      have hee : e' = e := Classical.byContradiction fun hne => hge (.inl ⟨hg, hne⟩)
                      subst hee
                      have hsz := hsz (.inr hg)
                      rw [hj] at hsz
                      have hsz' : j.size = i.sz := by simpa using hsz
                      have hadd : l * i.sz + (c' - l) * i.sz = c' * i.sz := by rw [← Nat.add_mul]; congr 1; omega
                      by_cases hml : m = l
                      · rw [if_pos hml]; omega
                      · rw [if_neg hml, hsz']; omega
                    · left
                      have := he (hex (by simpa using hg))
                      omega
                have hc'' : (if c' = l then some (⟨i.blk, o + i.d, none⟩ : Addr) else Option.map (fun x : Addr => x.add (l * j.size)) (some ⟨i.blk, o + i.d, none⟩)) = some ⟨i.blk, (if m = l then o else o + l * j.size) + i.d, none⟩ := by
                  by_cases hml : m = l
                  · rw [if_pos hml]
                    -- l is 0, or there is a max
                    have hl0 : l = 0 := Classical.byContradiction fun hne => hq ⟨hml, hne, hmx⟩
                    subst hl0
                    split <;> simp [add_off]
                  · rw [if_neg hml, if_neg (by omega), Option.map_some, add_off]
                    congr 2; omega
                rw [hc'']
                exact .slice hi' (by omega) (fun hx => by rw [he hx, hm]) hv'
              · rw [if_neg hmx]
                have hc'' : (if m = l then some (⟨i.blk, o + i.d, none⟩ : Addr) else Option.map (fun x : Addr => x.add (l * j.size)) (some ⟨i.blk, o + i.d, none⟩)) = some ⟨i.blk, (if m = l then o else o + l * j.size) + i.d, none⟩ := by
                  split
                  · rfl
                  · rw [Option.map_some, add_off]; congr 2; omega
                rw [hc'']
                exact .slice hi' (Nat.le_refl _) (fun _ => rfl) (.inl rfl)
        · cases hv
      · -- an empty one
        rename_i b o s
        split at hv
        · rename_i hq
          obtain ⟨rfl, rfl, rfl, hmx⟩ := hq
          cases hv
          cases hx with
          | @empty _ _ _ a c' =>
          obtain ⟨hbc, _, _, _⟩ := boundsA_cap (cap' := c') (Nat.zero_le _) hb
          have hres := run_sliceAt_slice (P := P) (w := w) ht hj (a := some a) rfl (boundsA_ok (P := P) (isS := true) h1 h2 h3 hbc w)
          refine ⟨_, hres, ?_⟩
          simp only [Option.map_some, Nat.sub_self]
          generalize (if mx.isNone = true then c' else m) = z
          by_cases hz : z = 0
          · rw [if_pos hz]; exact .empty
          · rw [if_neg hz]; exact .empty
        · cases hv
      · -- nil
        split at hv
        · rename_i hq
          obtain ⟨rfl, rfl, rfl⟩ := hq
          cases hv
          cases hx
          have hres := run_sliceAt_slice (P := P) (w := w) ht hj (a := none) rfl (boundsA_ok (P := P) (isS := true) h1 h2 h3 hb w)
          exact ⟨_, hres, by simpa using VRel.nilSlice⟩
        · cases hv
    · cases hv
  · -- an array's variable
    rename_i n e b o ht
    split at hv
    · rename_i j l u m hj hb
      cases hv
      cases hx with
      | @ptr _ _ i hi' =>
      have hbo := boundsA_ok (P := P) (isS := false) h1 h2 h3 hb w
      refine ⟨.slice (some (if m = l then ⟨i.blk, o + i.d, none⟩ else (⟨i.blk, o + i.d, none⟩ : Addr).add (l * j.size))) (u - l) (m - l), ?_, ?_⟩
      · simp [Instr.sliceAt, Instr.sureAddr, run_underlying ht, hbo, run_sizeOf hj]
      · have hc'' : (if m = l then (⟨i.blk, o + i.d, none⟩ : Addr) else (⟨i.blk, o + i.d, none⟩ : Addr).add (l * j.size)) = ⟨i.blk, (if m = l then o else o + l * j.size) + i.d, none⟩ := by
          split
          · rfl
          · rw [add_off]; congr 1; omega
        rw [hc'']
        exact .slice hi' (Nat.le_refl _) (fun _ => rfl) (.inl rfl)
    · cases hv
  · cases hv

/-! ### Fields and indexes -/

theorem fieldAddrA_ok {s : TypeId} {x x' v : Value} {f : Nat} (hx : VRel μ x x') (hv : fieldAddrA P s x f = some v) : ∃ v', (Instr.fieldAt s x' f).run P w = .ok v' w ∧ VRel μ v v' := by
  unfold fieldAddrA at hv
  split at hv
  · rename_i fs b o hs
    cases hx with
    | @ptr _ _ i hi =>
    split at hv
    · rename_i fd hfd
      split at hv
      · rename_i j hj
        split at hv
        · cases hv
        · rename_i hz
          cases hv
          refine ⟨.pointer (some ⟨i.blk, o + i.d + fd.offset, none⟩), ?_, ?_⟩
          · simp [Instr.fieldAt, Instr.sureAddr, run_underlying hs, hfd, fieldPlace, run_sizeOf hj, hz, add_off]
          · have := VRel.ptr (o := o + fd.offset) hi
            rwa [show o + fd.offset + i.d = o + i.d + fd.offset from by omega] at this
      · cases hv
    · cases hv
  · cases hv

theorem partA_ok {t : TypeId} {cs cs' : Array Value} {off : Nat} {v : Value} (hc : VsRel μ cs.toList cs'.toList) (hv : partA P t cs off = some v) : ∃ v', (part t cs' off).run P w = .ok v' w ∧ VRel μ v v' := by
  unfold partA at hv
  split at hv
  · rename_i d hd
    split at hv
    · rename_i ha
      simp only [Option.map_eq_some_iff] at hv
      obtain ⟨i, hi, rfl⟩ := hv
      refine ⟨.agg (cs'.extract off (off + i.size)), by simp [part, run_isAgg hd, ha, run_sizeOf hi], .agg ?_⟩
      simp only [Array.toList_extract, List.extract_eq_take_drop]
      exact VsRel.take _ (VsRel.drop _ hc)
    · rename_i ha
      obtain ⟨v', h1, h2⟩ := hc.get off v (by simpa using hv)
      exact ⟨v', by
        have : cs'[off]? = some v' := by simpa using h1
        simp [part, run_isAgg hd, ha, this], h2⟩
  · cases hv

theorem fieldA_ok {t : TypeId} {x x' v : Value} {f : Nat} (hx : VRel μ x x') (hv : fieldA P t x f = some v) : ∃ v', (Instr.field t x' f).run P w = .ok v' w ∧ VRel μ v v' := by
  unfold fieldA at hv
  split at hv
  · rename_i fs cs hs
    cases hx with
    | @agg _ cs' hc =>
    split at hv
    · rename_i fd hfd
      obtain ⟨v', h1, h2⟩ := partA_ok (w := w) hc hv
      exact ⟨v', by simp [Instr.field, run_underlying hs, hfd, asAgg, h1], h2⟩
    · cases hv
  · cases hv

theorem indexAddrA_ok {t : TypeId} {x x' k k' v : Value} (hx : VRel μ x x') (hk : VRel μ k k') (hv : indexAddrA P t x k = some v) : ∃ v', (Instr.indexAt t x' k').run P w = .ok v' w ∧ VRel μ v v' := by
  unfold indexAddrA at hv
  split at hv
  · rename_i len e b o kd n ht
    cases hx with
    | @ptr _ _ i hi =>
    cases hk
    split at hv
    · rename_i j hj
      split at hv
      · rename_i hb
        cases hv
        refine ⟨.pointer (some ⟨i.blk, o + i.d + n.toNat * j.size, none⟩), ?_, ?_⟩
        · simp [Instr.indexAt, asIntOf, run_underlying ht, Instr.sureAddr, hb, run_sizeOf hj, add_off]
        · have := VRel.ptr (o := o + n.toNat * j.size) hi
          rwa [show o + n.toNat * j.size + i.d = o + i.d + n.toNat * j.size from by omega] at this
      · cases hv
    · cases hv
  · rename_i e b o len c kd n ht
    cases hx with
    | @slice _ _ _ _ c' i hi _ _ _ =>
    cases hk
    split at hv
    · rename_i j hj
      split at hv
      · rename_i hb
        cases hv
        refine ⟨.pointer (some ⟨i.blk, o + i.d + n.toNat * j.size, none⟩), ?_, ?_⟩
        · simp [Instr.indexAt, asIntOf, run_underlying ht, hb, run_sizeOf hj, add_off]
        · have := VRel.ptr (o := o + n.toNat * j.size) hi
          rwa [show o + n.toNat * j.size + i.d = o + i.d + n.toNat * j.size from by omega] at this
      · cases hv
    · cases hv
  · cases hv

theorem indexA_ok {t : TypeId} {x x' k k' v : Value} (hx : VRel μ x x') (hk : VRel μ k k') (hv : indexA P t x k = some v) : ∃ v', (Instr.index t x' k').run P w = .ok v' w ∧ VRel μ v v' := by
  unfold indexA at hv
  split at hv
  · rename_i len e cs kd n ht
    cases hx with
    | @agg _ cs' hc =>
    cases hk
    split at hv
    · rename_i j hj
      split at hv
      · rename_i hb
        obtain ⟨v', h1, h2⟩ := partA_ok (w := w) hc hv
        exact ⟨v', by simp [Instr.index, asIntOf, run_underlying ht, hb, run_sizeOf hj, h1], h2⟩
      · cases hv
    · cases hv
  · rename_i s kd n ht
    cases hx; cases hk
    split at hv
    · rename_i hb
      simp only [Option.map_eq_some_iff] at hv
      obtain ⟨c, hc, rfl⟩ := hv
      exact ⟨.int .u8 c.toNat, by simp [Instr.index, asIntOf, run_underlying ht, hb, hc], .int _ _⟩
    · cases hv
  · cases hv

/-! ### Maps -/

theorem mapObj (hR : Rel P μ h w) {r : Nat} {es : List MapEntry} {clock : Nat} (hg : h.get r = some (.map es clock)) {i : Img} (hi : μ r = some i) :
    ∃ E, w.heap[i.blk]? = some (.map E clock) ∧ EntsRel μ es E.toList ∧ (getObj i.blk).run P w = .ok (.map E clock) w := by
  obtain ⟨j, hj, ho⟩ := hR.obj _ _ hg
  rw [hi] at hj; cases hj
  obtain ⟨E, h1, h2⟩ := ho
  exact ⟨E, h1, h2, by simp [getObj, Sem.run, h1]⟩

theorem lookupA_ok (hR : Rel P μ h w) {t : TypeId} {m m' k k' v : Value} {ok : Bool} (hm : VRel μ m m') (hk : VRel μ k k') (hv : lookupA P h t m k ok = some v) :
    ∃ v', (Instr.lookup t m' k' ok).run P w = .ok v' w ∧ VRel μ v v' := by
  unfold lookupA at hv
  split at hv
  · rename_i kt et ht
    split at hv
    · rename_i hko
      have hkk := hk.eq_of_qv (keyOk_qv hko)
      subst hkk
      have zero : ∀ {z : Value}, (P.info? et).bind (·.zero) = some z → (zeroValue et).run P w = .ok z w := fun {z} hz => by
        obtain ⟨j, hj, hz'⟩ := Option.bind_eq_some_iff.1 hz
        exact run_zeroValue hj hz' w
      split at hv
      · cases hm
        split at hv
        · rename_i z hz
          split at hv
          · rename_i hpz
            cases hv
            refine ⟨if ok then .tuple #[z, .bool false] else z, ?_, ?_⟩
            · have hck := keyOk_ok hko true w
              simp [Instr.lookup, run_underlying ht, hck, Instr.findKey, Instr.findNow]
              have : ∃ d, P.underlying kt = some d := by
                unfold Instr.checkKey at hck
                rw [Sem.run_bind] at hck
                cases hu : P.underlying kt with
                | some d => exact ⟨d, rfl⟩
                | none => simp [Go.underlying, hu] at hck
              obtain ⟨d, hd⟩ := this
              simp [run_underlying hd, zero hz]
            · split
              · exact .tuple (.cons (VRel.of_pv hpz) (.cons (.bool _) .nil))
              · exact VRel.of_pv hpz
          · cases hv
        · cases hv
      · rename_i r
        cases hm with
        | @map _ i hi =>
        split at hv
        · rename_i es clock hg
          obtain ⟨E, hE, hrel, hget⟩ := mapObj hR hg hi
          have hck : ∀ b, (Instr.checkKey b 10000 kt k').run P w = .ok () w := fun b => keyOk_ok hko b w
          have hd : ∃ d, P.underlying kt = some d := by
            have := hck true
            unfold Instr.checkKey at this
            rw [Sem.run_bind] at this
            cases hu : P.underlying kt with
            | some d => exact ⟨d, rfl⟩
            | none => simp [Go.underlying, hu] at this
          obtain ⟨d, hd⟩ := hd
          split at hv
          · rename_i n u hf
            cases hv
            obtain ⟨r', hr', hfr⟩ := findKey_ok hd hrel hf w
            cases r' with
            | none => exact hfr.elim
            | some p =>
              obtain ⟨n', u'⟩ := p
              obtain ⟨_, hu⟩ := hfr
              refine ⟨if ok then .tuple #[u', .bool true] else u', ?_, ?_⟩
              · simp [Instr.lookup, run_underlying ht, hget, hck, hr']
              · split
                · exact .tuple (.cons hu (.cons (.bool _) .nil))
                · exact hu
          · rename_i hf
            obtain ⟨r', hr', hfr⟩ := findKey_ok hd hrel hf w
            cases r' with
            | some p => exact hfr.elim
            | none =>
              split at hv
              · rename_i z hz
                split at hv
                · rename_i hpz
                  cases hv
                  refine ⟨if ok then .tuple #[z, .bool false] else z, ?_, ?_⟩
                  · simp [Instr.lookup, run_underlying ht, hget, hck, hr', zero hz]
                  · split
                    · exact .tuple (.cons (VRel.of_pv hpz) (.cons (.bool _) .nil))
                    · exact VRel.of_pv hpz
                · cases hv
              · cases hv
          · cases hv
        · cases hv
      · cases hv
    · cases hv
  · cases hv

end
end Go.Ev
