/- The evaluator's operations that call no function are the model's. -/
import Derived.Test.YtfickkmgbecamaaDoorEvD
import Derived.Laws.AppendOwn
import Derived.Laws.Build
import Derived.Laws.MakeOwn
namespace Go.Ev

section
variable {P : Program} {μ : Mu} {h h' : AHeap} {w : World}

/-- What is owed of an operation. -/
def OpOk (P : Program) (μ : Mu) (id : Nat) (h : AHeap) (w : World) (r : Result Next) (v : Value) (h' : AHeap) : Prop :=
  ∃ x v' w' μ', r = .ok x w' ∧ (x = .value v' ∨ (x = .skip ∧ v' = undef)) ∧ VRel μ' v v' ∧ Rel P μ' h' w' ∧ Ste μ h w μ' h' w' ∧ Fr μ μ' id

theorem OpOk.val {id : Nat} (hR : Rel P μ h w) {s : Sem Value} {v v' : Value} (hs : s.run P w = .ok v' w) (hv : VRel μ v v') :
    OpOk P μ id h w ((do pure (Next.value (← s)) : Sem Next).run P w) v h :=
  ⟨.value v', v', w, μ, by simp [hs], .inl rfl, hv, hR, Ste.refl _ _ _, Fr.refl _ _⟩

theorem OpOk.val' {id : Nat} {s : Sem Value} {v v' : Value} {w' : World} {μ' : Mu} (hs : s.run P w = .ok v' w') (hv : VRel μ' v v') (hR : Rel P μ' h' w') (hS : Ste μ h w μ' h' w' ∧ Fr μ μ' id) :
    OpOk P μ id h w ((do pure (Next.value (← s)) : Sem Next).run P w) v h' :=
  ⟨.value v', v', w', μ', by simp [hs], .inl rfl, hv, hR, hS⟩

theorem OpOk.skip {id : Nat} {s : Sem Unit} {w' : World} (hs : s.run P w = .ok () w') (hR : Rel P μ h' w') (hS : Ste μ h w μ h' w') :
    OpOk P μ id h w ((do s; pure Next.skip : Sem Next).run P w) undef h' :=
  ⟨.skip, undef, w', μ, by simp [hs], .inr ⟨rfl, rfl⟩, .tuple .nil, hR, hS, Fr.refl _ _⟩

/-! ### Types -/

theorem run_isAgg {t : TypeId} {d : TypeDesc} (hd : P.underlying t = some d) (w : World) : (isAgg t).run P w = .ok (isAggD d) w := by
  unfold isAgg
  rw [Sem.run_bind, run_underlying hd w]
  cases d <;> rfl
theorem run_typeInfo {t : TypeId} {i : TypeInfo} (hi : P.info? t = some i) (w : World) : (typeInfo t).run P w = .ok i w := by
  simp [typeInfo, hi]
theorem run_sizeOf {t : TypeId} {i : TypeInfo} (hi : P.info? t = some i) (w : World) : (sizeOf t).run P w = .ok i.size w := by
  simp [sizeOf, run_typeInfo hi]
theorem run_zeroValue {t : TypeId} {i : TypeInfo} {z : Value} (hi : P.info? t = some i) (hz : i.zero = some z) (w : World) : (zeroValue t).run P w = .ok z w := by
  simp [zeroValue, run_typeInfo hi, hz]

/-! ### Cells -/

theorem add_off (b o n : Nat) : (⟨b, o, none⟩ : Addr).add n = ⟨b, o + n, none⟩ := Addr.add_lit b o n

/-- A row's cells, read. -/
theorem loadRow_get {c : List Value} {off n : Nat} {xs : List Value} (h : loadRow c off n = some xs) : xs.length = n ∧ off + n ≤ c.length ∧ ∀ k v, xs[k]? = some v → c[off + k]? = some v ∧ k < n := by
  unfold loadRow at h
  split at h
  · rename_i hl
    cases h
    refine ⟨by simp; omega, hl, fun k v hk => ?_⟩
    rw [List.getElem?_take] at hk
    split at hk
    · rename_i hkn; exact ⟨by simpa [List.getElem?_drop] using hk, hkn⟩
    · cases hk
  · cases h

theorem ORel.cell {c : List Value} {e : TypeId} {ro g : Bool} {i : Img} (ho : ORel P μ (.cells c e ro g) i w) {k : Nat} {v : Value} (hk : c[k]? = some v) :
    ∃ v', w.cell? ⟨i.blk, k + i.d, none⟩ = some v' ∧ VRel μ v v' := by
  obtain ⟨C, fz, h1, _, _, _, h5, _⟩ := ho
  obtain ⟨v', a, b⟩ := h5 k v hk
  exact ⟨v', by rw [cell_of_row w i.blk (k + i.d) C e fz h1, Nat.add_comm]; exact a, b⟩

/-- The model reads a row of cells as the evaluator does. -/
theorem loadCells_ok {c : List Value} {e : TypeId} {ro g : Bool} {i : Img} (ho : ORel P μ (.cells c e ro g) i w) {off n : Nat} {xs : List Value} (hl : loadRow c off n = some xs) :
    ∃ ys : List Value, ys.length = n ∧ VsRel μ xs ys ∧ (∀ j v, ys[j]? = some v → w.cell? ((⟨i.blk, off + i.d, none⟩ : Addr).add j) = some v) ∧
      (loadCells ⟨i.blk, off + i.d, none⟩ n).run P w = .ok ys.toArray w := by
  obtain ⟨hx, hlen, hget⟩ := loadRow_get hl
  have hex : ∃ ys : List Value, ys.length = n ∧ ∀ j v, xs[j]? = some v → ∃ v', ys[j]? = some v' ∧ w.cell? ⟨i.blk, off + j + i.d, none⟩ = some v' ∧ VRel μ v v' := by
    clear hlen hl
    induction xs generalizing n off with
    | nil => exact ⟨[], by simpa using hx, by simp⟩
    | cons x xs ih =>
      obtain ⟨v', a, b⟩ := ho.cell (hget 0 x rfl).1
      obtain ⟨ys, hys, hall⟩ := ih (off := off + 1) (n := n - 1) (by simp at hx; omega) (fun k v hk => by
        have := hget (k + 1) v (by simpa using hk)
        exact ⟨by rw [show off + 1 + k = off + (k + 1) from by omega]; exact this.1, by omega⟩)
      refine ⟨v' :: ys, by simp at hx ⊢; omega, fun j v hj => ?_⟩
      cases j with
      | zero => simp at hj; subst hj; exact ⟨v', rfl, by simpa using a, b⟩
      | succ j =>
        obtain ⟨u, hu, hc, hr⟩ := hall j v (by simpa using hj)
        exact ⟨u, by simpa using hu, by rw [show off + (j + 1) + i.d = off + 1 + j + i.d from by omega]; exact hc, hr⟩
  obtain ⟨ys, hys, hall⟩ := hex
  have hv : VsRel μ xs ys := VsRel.of_get (by omega) fun j v hj => let ⟨v', a, _, b⟩ := hall j v hj; ⟨v', a, b⟩
  have hcell : ∀ j v, ys[j]? = some v → w.cell? ((⟨i.blk, off + i.d, none⟩ : Addr).add j) = some v := fun j v hj => by
    have hjl : j < ys.length := (List.getElem?_eq_some_iff.1 hj).1
    obtain ⟨u, hu⟩ : ∃ u, xs[j]? = some u := ⟨_, List.getElem?_eq_getElem (by omega)⟩
    obtain ⟨v', a, c', _⟩ := hall j u hu
    rw [hj] at a; cases a
    rw [add_off, show off + i.d + j = off + j + i.d from by omega]; exact c'
  refine ⟨ys, hys, hv, hcell, ?_⟩
  have := run_loadCells_list (P := P) w ⟨i.blk, off + i.d, none⟩ ys hcell
  rwa [hys] at this

theorem loadA_ok (hR : Rel P μ h w) {t : TypeId} {a a' x : Value} (ha : VRel μ a a') (hl : loadA P h t a = some x) :
    ∃ x', (Instr.loadAt t a').run P w = .ok x' w ∧ VRel μ x x' := by
  cases ha with
  | @ptr b o i hi =>
    simp only [loadA] at hl
    split at hl
    · rename_i c e ro g d hb hd
      obtain ⟨j, hj, ho⟩ := hR.obj b _ hb
      rw [hi] at hj; cases hj
      split at hl
      · rename_i hagg
        cases hinf : P.info? t with
        | none => rw [hinf] at hl; cases hl
        | some inf =>
          rw [hinf] at hl
          simp only [Option.map_eq_some_iff] at hl
          obtain ⟨xs, hxs, rfl⟩ := hl
          obtain ⟨ys, hys, hv, _, hrun⟩ := loadCells_ok ho hxs
          exact ⟨.agg ys.toArray, by simp [Instr.loadAt, Instr.sureAddr, loadVar, Sem.run_bind, run_isAgg hd, hagg, run_sizeOf hinf, hrun], .agg (by simpa using hv)⟩
      · rename_i hagg
        obtain ⟨v', hc, hv⟩ := ho.cell hl
        exact ⟨v', by simp [Instr.loadAt, Instr.sureAddr, loadVar, Sem.run_bind, run_isAgg hd, hagg, run_load, hc], hv⟩
    · cases hl
  | _ => simp [loadA] at hl

/-! ### A store -/

def setArr (C : Array Value) (off : Nat) (xs : List Value) : Array Value := (C.toList.take off ++ xs ++ C.toList.drop (off + xs.length)).toArray

theorem size_setArr {C : Array Value} {off : Nat} {xs : List Value} (h : off + xs.length ≤ C.size) : (setArr C off xs).size = C.size := by
  simp [setArr]; omega

theorem getElem?_setRow {c xs : List Value} {off : Nat} (h : off + xs.length ≤ c.length) (k : Nat) :
    (setRow c off xs)[k]? = if off ≤ k ∧ k < off + xs.length then xs[k - off]? else c[k]? := by
  unfold setRow
  rw [List.append_assoc]
  by_cases h1 : k < off
  · rw [List.getElem?_append_left (by simp; omega), if_neg (by omega), List.getElem?_take, if_pos h1]
  · rw [List.getElem?_append_right (by simp; omega)]
    have hl : (c.take off).length = off := by simp; omega
    rw [hl]
    by_cases h2 : k < off + xs.length
    · rw [List.getElem?_append_left (by omega), if_pos ⟨by omega, h2⟩]
    · rw [List.getElem?_append_right (by omega), if_neg (by omega), List.getElem?_drop]
      congr 1; omega

theorem length_setRow {c xs : List Value} {off : Nat} (h : off + xs.length ≤ c.length) : (setRow c off xs).length = c.length := by
  unfold setRow; simp; omega

theorem getElem?_setArr {C : Array Value} {xs : List Value} {off : Nat} (h : off + xs.length ≤ C.size) (k : Nat) :
    (setArr C off xs)[k]? = if off ≤ k ∧ k < off + xs.length then xs[k - off]? else C[k]? := by
  have := getElem?_setRow (c := C.toList) (xs := xs) (off := off) (by simpa using h) k
  simpa [setArr, setRow] using this

def World.putRow (w : World) (b : Nat) (C : Array Value) (e : TypeId) : World := { w with heap := w.heap.setIfInBounds b (.cells C e (0, 0)) }

theorem putRow_same {w : World} {b : Nat} (C : Array Value) (e : TypeId) (h : b < w.heap.size) : (World.putRow w b C e).heap[b]? = some (.cells C e (0, 0)) := by
  simp [World.putRow, h]
theorem putRow_other {w : World} {b k : Nat} (C : Array Value) (e : TypeId) (h : k ≠ b) : (World.putRow w b C e).heap[k]? = w.heap[k]? := by
  simp only [World.putRow]
  rw [Array.getElem?_setIfInBounds_ne (fun e => h e.symm)]
theorem putRow_size (w : World) (b : Nat) (C : Array Value) (e : TypeId) : (World.putRow w b C e).heap.size = w.heap.size := by simp [World.putRow]

theorem setCell_row {w : World} {b k : Nat} {C : Array Value} {e : TypeId} (hb : w.heap[b]? = some (.cells C e (0, 0))) (v : Value) :
    w.setCell ⟨b, k, none⟩ v = World.putRow w b (C.setIfInBounds k v) e := by
  obtain ⟨hlt, hbb⟩ := Array.getElem?_eq_some_iff.1 hb
  simp only [World.setCell, World.putRow]
  congr 1
  apply Array.ext_getElem?
  intro j
  rw [Array.getElem?_modify, Array.getElem?_setIfInBounds]
  by_cases hj : b = j
  · subst hj; simp [hlt, hbb]
  · simp [hj]

theorem run_storeCells {b : Nat} {e : TypeId} : ∀ (xs : List Value) (i o : Nat) (C : Array Value) (w : World), w.heap[b]? = some (.cells C e (0, 0)) → o + i + xs.length ≤ C.size →
    xs.all oneCell = true → (storeCells ⟨b, o, none⟩ xs i).run P w = .ok () (if xs = [] then w else World.putRow w b (setArr C (o + i) xs) e)
  | [], i, o, C, w, _, _, _ => by simp [storeCells]
  | x :: xs, i, o, C, w, hb, hl, h1 => by
    simp only [List.all_cons, Bool.and_eq_true] at h1
    simp only [List.length_cons] at hl
    have hlt : b < w.heap.size := (Array.getElem?_eq_some_iff.1 hb).1
    have hx : x.oneCell' = true := by have := h1.1; cases x <;> simp_all [oneCell, Value.oneCell']
    have hc : w.cell? ⟨b, o + i, none⟩ = some (C[o + i]'(by omega)) := by
      rw [cell_of_row w b (o + i) C e (0, 0) hb, Array.getElem?_eq_getElem]
    have hf : w.frozen? ⟨b, o + i, none⟩ = false := frozen_of_row w b (o + i) C e hb
    have hs : (store ((⟨b, o, none⟩ : Addr).add i) x).run P w = .ok () (World.putRow w b (C.setIfInBounds (o + i) x) e) := by
      rw [add_off, run_store P w _ x _ hx, hc]
      simp only [hf, Bool.false_eq_true, if_false]
      rw [setCell_row hb]
    have hb2 : (World.putRow w b (C.setIfInBounds (o + i) x) e).heap[b]? = some (.cells (C.setIfInBounds (o + i) x) e (0, 0)) := putRow_same _ _ hlt
    have ih := run_storeCells xs (i + 1) o (C.setIfInBounds (o + i) x) _ hb2 (by simp; omega) h1.2
    simp only [storeCells, Sem.run_bind, hs, Result.andThen, ih]
    have e1 : (if x :: xs = [] then w else World.putRow w b (setArr C (o + i) (x :: xs)) e) = World.putRow w b (setArr C (o + i) (x :: xs)) e := if_neg (by simp)
    rw [e1]
    congr 1
    have hset : setArr C (o + i) (x :: xs) = if xs = [] then C.setIfInBounds (o + i) x else setArr (C.setIfInBounds (o + i) x) (o + (i + 1)) xs := by
      apply Array.ext_getElem?
      intro k
      rw [getElem?_setArr (by simp; omega)]
      by_cases hn : xs = []
      · subst hn
        rw [if_pos rfl, Array.getElem?_setIfInBounds]
        by_cases hk : k = o + i
        · subst hk; simp; omega
        · rw [if_neg (by simp; omega), if_neg (by omega)]
      · rw [if_neg hn, getElem?_setArr (by simp; omega), Array.getElem?_setIfInBounds]
        simp only [List.length_cons]
        by_cases hk : k = o + i
        · subst hk
          rw [if_pos ⟨by omega, by omega⟩, if_neg (by omega), if_pos rfl, if_pos (by omega)]; simp
        · by_cases hk2 : o + i ≤ k ∧ k < o + i + (xs.length + 1)
          · rw [if_pos hk2, if_pos ⟨by omega, by omega⟩]
            obtain ⟨m, hm⟩ : ∃ m, k - (o + i) = m + 1 := ⟨k - (o + i) - 1, by omega⟩
            rw [hm, List.getElem?_cons_succ]; congr 1; omega
          · rw [if_neg hk2, if_neg (by omega), if_neg (by omega)]
    rw [hset]
    by_cases hn : xs = []
    · simp [hn]
    · simp [hn, World.putRow]

theorem ORel.set {c : List Value} {e : TypeId} {g : Bool} {i : Img} (ho : ORel P μ (.cells c e false g) i w) {off : Nat} {xs ys : List Value} (hv : VsRel μ xs ys) (hl : off + xs.length ≤ c.length) :
    ∃ C, w.heap[i.blk]? = some (.cells C e (0, 0)) ∧ off + i.d + ys.length ≤ C.size ∧
      ORel P μ (.cells (setRow c off xs) e false g) i (World.putRow w i.blk (setArr C (off + i.d) ys) e) := by
  obtain ⟨C, fz, h1, h2, h3, h4, h5, h6, h7⟩ := ho
  obtain rfl := h2 rfl
  have hlen := hv.length
  have hsz : off + i.d + ys.length ≤ C.size := by omega
  refine ⟨C, h1, hsz, setArr C (off + i.d) ys, (0, 0), putRow_same _ _ (Array.getElem?_eq_some_iff.1 h1).1, fun _ => rfl, by rw [size_setArr hsz]; exact h3, by rw [length_setRow hl]; exact h4, fun k v hk => ?_, h6, h7⟩
  rw [getElem?_setRow hl] at hk
  rw [getElem?_setArr hsz]
  by_cases hk2 : off ≤ k ∧ k < off + xs.length
  · rw [if_pos hk2] at hk
    rw [if_pos ⟨by omega, by omega⟩, show i.d + k - (off + i.d) = k - off from by omega]
    exact hv.get _ _ hk
  · rw [if_neg hk2] at hk
    rw [if_neg (by omega)]
    exact h5 k v hk

theorem storeA_ok (hR : Rel P μ h w) {t : TypeId} {a a' x x' : Value} (ha : VRel μ a a') (hx : VRel μ x x') (hl : storeA P h t a x = some h') :
    ∃ w', (Instr.storeAt t a' x').run P w = .ok () w' ∧ Rel P μ h' w' ∧ Ste μ h w μ h' w' := by
  cases ha with
  | @ptr b o i hi =>
    simp only [storeA] at hl
    split at hl
    · rename_i c e g inf hb hinf
      split at hl
      · rename_i hc
        obtain ⟨hs, hlen, hone⟩ := hc
        cases hl
        obtain ⟨j, hj, ho⟩ := hR.obj b _ hb
        rw [hi] at hj; cases hj
        have hcs := hx.cells
        have hsz : x.cells.toList.length = x.cells.size := by simp
        obtain ⟨C, hC, hfit, hnew⟩ := ho.set (off := o) hcs (by omega)
        have hlen' := hcs.length
        have hrun := run_storeCells (P := P) x'.cells.toList 0 (o + i.d) C w hC (by simpa using hfit) (VsRel.all_oneCell hcs hone)
        have hst : (Instr.storeAt t (.pointer (some ⟨i.blk, o + i.d, none⟩)) x').run P w = .ok () (if x'.cells.toList = [] then w else World.putRow w i.blk (setArr C (o + i.d + 0) x'.cells.toList) e) := by
          have hq : ¬ (x'.cells.size ≠ inf.size) := by simp at hlen'; omega
          simp [Instr.storeAt, Instr.sureAddr, storeVar, Sem.run_bind, run_sizeOf hinf, hq, hrun]
        by_cases hnil : x'.cells.toList = []
        · rw [if_pos hnil] at hst
          have hx0 : x.cells.toList = [] := by rw [← List.length_eq_zero_iff] at hnil ⊢; omega
          refine ⟨w, hst, ?_⟩
          have hnew2 : ORel P μ (.cells (setRow c o x.cells.toList) e false g) i w := by rw [hx0]; simpa [setRow] using ho
          exact hR.update hb rfl hi hnew2 rfl rfl rfl rfl (fun _ _ => rfl)
        · rw [if_neg hnil] at hst
          refine ⟨_, hst, ?_⟩
          exact hR.update hb rfl hi (by simpa using hnew) (putRow_size _ _ _ _) rfl rfl rfl (fun k hk => putRow_other _ _ hk)
      · cases hl
    · cases hl
  | _ => simp [storeA] at hl

/-! ### New rows -/

theorem newA_ok (hR : Rel P μ h w) {id : Nat} (hμ : μ id = none) {e : TypeId} {cs ds : List Value} {v : Value} (hv : VsRel μ cs ds) {spare : List Value} {n : Nat}
    (hn : newA P h id e cs false v = some (v, h')) (hsp : spare = []) :
    ∃ inf, P.info? e = some inf ∧
      let i : Img := { blk := w.heap.size, d := 0, lim := ds.length, sz := inf.size, exact := true }
      let w' := ({ w with drawn := n } : World).alloc (.cells (ds ++ spare).toArray e)
      Rel P (μ.add id i) h' w' ∧ Ste μ h w (μ.add id i) h' w' := by
  subst hsp
  unfold newA at hn
  cases hinf : P.info? e with
  | none => rw [hinf] at hn; cases hn
  | some inf =>
    rw [hinf] at hn
    simp only [Option.map_eq_some_iff, Prod.mk.injEq, true_and] at hn
    obtain ⟨h2, hnew, rfl⟩ := hn
    refine ⟨inf, rfl, ?_⟩
    have hlen := hv.length
    have hle := Mu.le_add (μ := μ) (b := id) { blk := w.heap.size, d := 0, lim := ds.length, sz := inf.size, exact := true } hμ
    exact hR.grow hμ (w' := ({ w with drawn := n } : World).alloc (.cells (ds ++ []).toArray e)) (i := { blk := w.heap.size, d := 0, lim := ds.length, sz := inf.size, exact := true }) hnew (Nat.le_refl _)
      ⟨(ds ++ []).toArray, (0, 0), heap_alloc_new { w with drawn := n } _, fun _ => rfl, by simp, by simp; omega, fun k v hk => by
        obtain ⟨v', a, b⟩ := hv.get k v hk
        exact ⟨v', by simpa using a, b.mono hle⟩, fun _ => rfl, fun _ => by rw [hinf]; rfl⟩
      (by simp) rfl rfl rfl (fun k hk => heap_alloc_old { w with drawn := n } _ k hk)

/-- A new row that an append has made: it may have room to spare. -/
theorem newG_ok (hR : Rel P μ h w) {id : Nat} (hμ : μ id = none) {e : TypeId} {cs ds spare : List Value} {v : Value} (hv : VsRel μ cs ds) {n : Nat} (hn : newA P h id e cs true v = some (v, h')) :
    ∃ inf, P.info? e = some inf ∧
      let i : Img := { blk := w.heap.size, d := 0, lim := (ds ++ spare).length, sz := inf.size, exact := false }
      let w' := ({ w with drawn := n } : World).alloc (.cells (ds ++ spare).toArray e)
      Rel P (μ.add id i) h' w' ∧ Ste μ h w (μ.add id i) h' w' := by
  unfold newA at hn
  cases hinf : P.info? e with
  | none => rw [hinf] at hn; cases hn
  | some inf =>
    rw [hinf] at hn
    simp only [Option.map_eq_some_iff, Prod.mk.injEq, true_and] at hn
    obtain ⟨h2, hnew, rfl⟩ := hn
    refine ⟨inf, rfl, ?_⟩
    have hlen := hv.length
    have hle := Mu.le_add (μ := μ) (b := id) { blk := w.heap.size, d := 0, lim := (ds ++ spare).length, sz := inf.size, exact := false } hμ
    exact hR.grow hμ (w' := ({ w with drawn := n } : World).alloc (.cells (ds ++ spare).toArray e)) (i := { blk := w.heap.size, d := 0, lim := (ds ++ spare).length, sz := inf.size, exact := false }) hnew (Nat.le_refl _)
      ⟨(ds ++ spare).toArray, (0, 0), heap_alloc_new { w with drawn := n } _, fun _ => rfl, by simp, by simp; omega, fun k v hk => by
        obtain ⟨v', a, b⟩ := hv.get k v hk
        have hkl : k < ds.length := (List.getElem?_eq_some_iff.1 a).1
        exact ⟨v', by simp [List.getElem?_append_left hkl, a], b.mono hle⟩, fun hf => (by cases hf), fun _ => by rw [hinf]; rfl⟩
      (by simp) rfl rfl rfl (fun k hk => heap_alloc_old { w with drawn := n } _ k hk)

end
end Go.Ev
