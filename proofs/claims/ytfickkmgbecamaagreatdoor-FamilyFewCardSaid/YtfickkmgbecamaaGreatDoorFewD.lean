/- FamilyFew: a state of the first loop, as it is found and as it is kept; what holds of it; what a round makes of that. -/
import Derived.Test.YtfickkmgbecamaaGreatDoorFewA
import Derived.Test.YtfickkmgbecamaaGreatDoorEv6
namespace Go.Ev
open Go.Proofs Tree
set_option maxRecDepth 100000

/-! ### Cells kept -/
def junk : Value := .chan (some 0)
def jk (v : Value) : Value := match pv1 v with | true => v | false => junk
theorem oneCell_pv1 {v : Value} (h : pv1 v = true) : oneCell v = true := by cases v <;> simp [pv1] at h <;> rfl
theorem okR1_pv1 {dom : List Nat} {v : Value} (h : pv1 v = true) : okR1 dom v = true := by
  unfold okR1
  split
  · cases h
  · cases h
  · rfl
  · cases h
  · exact h
theorem ren1_pv1 {ρ : Nat → Nat} {v : Value} (h : pv1 v = true) : ren1 ρ v = v := by
  unfold ren1
  split
  · cases h
  · cases h
  · cases h
  · rfl
theorem jrs_jk {ρ : Nat → Nat} {dom : List Nat} : ∀ {c : List Value}, (∀ v ∈ c, oneCell v = true) → jrs ρ dom (c.map jk) c
  | [], _ => trivial
  | v :: c, h => by
    refine ⟨?_, jrs_jk fun u hu => h u (by simp [hu])⟩
    unfold jk
    cases hp : pv1 v with
    | true => exact .inr ⟨okR1_pv1 hp, (ren1_pv1 hp).symm⟩
    | false => exact .inl ⟨rfl, h v (by simp)⟩
theorem jrs_pv1 {ρ : Nat → Nat} {dom : List Nat} {c : List Value} (h : c.all pv1 = true) : jrs ρ dom c c := by
  have e : c.map jk = c := by
    have : ∀ v ∈ c, jk v = v := fun v hv => by unfold jk; rw [List.all_eq_true.1 h v hv]
    rw [List.map_congr_left this, List.map_id']
  have := jrs_jk (ρ := ρ) (dom := dom) (c := c) fun v hv => oneCell_pv1 (List.all_eq_true.1 h v hv)
  rwa [e] at this
theorem jk_oneCell (v : Value) : oneCell (jk v) = true := by
  unfold jk
  cases hp : pv1 v with
  | true => exact oneCell_pv1 hp
  | false => rfl

/-- A state as it is kept: what a body lies in is forgotten. -/
def Acts.canon : Acts → Acts
  | .nil => .nil
  | .row n l => .row n (l.map jk)
def St.canon (s : St) : St := { s with A := s.A.canon }
def Acts.one : Acts → Prop
  | .nil => True
  | .row _ l => ∀ v ∈ l, oneCell v = true

theorem jrs_map {ρ : Nat → Nat} {dom : List Nat} {c d : List Value} (h : c.all (okR1 dom) = true) (e : c.map (ren1 ρ) = d) : jrs ρ dom c d := e ▸ jrs_same h

theorem red_of_view {P : Program} (hG : P.globals.size = 1) {q : Fix} {a : AAct} {h : AHeap} {s : St} {i : Int} {mc : List Value} {r : Nat} {u : Value} (hdb : q.db.all pv1 = true) (hbs : q.bs.all pv1 = true) (hN : q.N = 2 ∨ q.N = 3 ∨ q.N = 4)
    (hn : a.n = 90) (hm : a.marks = []) (t1 : a.env.get 1 = some (.slice (some ⟨1, 0, none⟩) q.L q.cap)) (t4 : a.env.get 4 = some (.bool false)) (t5 : a.env.get 5 = some (.pointer (some ⟨3, 0, none⟩))) (t6 : a.env.get 6 = some (.pointer (some ⟨5, 0, none⟩))) (t7 : a.env.get 7 = some (.int .i64 i))
    (o0 : h.get 0 = some (.cells q.db q.e0 true false)) (o1 : h.get 1 = some (.cells q.bs q.e1 true false)) (o3 : h.get 3 = some (.cells (cellsC (.ofNat q.N) (.slice (some ⟨4, 0, none⟩) (linkN q.N) (linkN q.N)) q.c) 26 false false)) (o4 : h.get 4 = some (.cells (linksOf q.N) 77 false true))
    (o6 : h.get 6 = some (.cells [.slice (some ⟨7, 0, none⟩) q.N q.N] 75 false false)) (o7 : h.get 7 = some (.cells (nearOf q.N) 33 false false)) (h5 : h.get 5 = some (.cells mc 53 false false))
    (hmk : mc.take 82 = (cellsM (.ofNat q.N) q.c s.D s.Fy s.s0 s.s1 s.s2 s.s3 .nilFunc).take 82) (hrs : mc.drop 83 = []) (hu : nthL mc 82 = some u) (hr8 : 8 ≤ r)
    (hk : okR1 ([0, 1, 3, 4, 5, 6, 7] ++ s.A.objs.map (·.1)) s.A.val = true) (hr : ren1 (fun b => if b = 8 then r else b) s.A.val = u)
    (hob : ∀ p ∈ s.A.objs, p.1 = 8 ∧ ∃ o', h.get r = some o' ∧ objR (fun b => if b = 8 then r else b) ([0, 1, 3, 4, 5, 6, 7] ++ s.A.objs.map (·.1)) p.2 o') :
    Red P a h 90 (eFew q.L q.cap i) 9 (hFew q s) (fun b => if b = 8 then r else b) := by
  have hlinks : (linksOf q.N).all pv1 = true ∧ (nearOf q.N).all pv1 = true := by rcases hN with h | h | h <;> rw [h] <;> exact ⟨by decide, by decide⟩
  have hdom : (hFew q s).map (·.1) = [0, 1, 3, 4, 5, 6, 7] ++ s.A.objs.map (·.1) := rfl
  have hmkr : jrs (fun b => if b = 8 then r else b) ([0, 1, 3, 4, 5, 6, 7] ++ s.A.objs.map (·.1)) (cellsM (.ofNat q.N) q.c s.D s.Fy s.s0 s.s1 s.s2 s.s3 s.A.val) mc := by
    have e2 : mc.drop 82 = [u] := by
      rw [nthL_eq] at hu
      rw [List.getElem?_eq_some_iff] at hu
      obtain ⟨hlt, hu⟩ := hu
      rw [List.drop_eq_getElem_cons hlt, hrs, hu]
    rw [show mc = mc.take 82 ++ mc.drop 82 from (List.take_append_drop 82 mc).symm, hmk, e2]
    refine jrs_map ?_ ?_
    · simp only [cellsM, cellsC, zeros, List.cons_append, List.nil_append, List.all_cons, Bool.true_and, List.all_nil, Bool.and_true] at hk ⊢
      rw [hk]; rfl
    · simp only [cellsM, cellsC, zeros, List.cons_append, List.nil_append, List.map_cons, List.map_nil, hr]
      rfl
  refine ⟨hn, hm, fun p hp => ?_, fun p hp => ?_, fun b hb c hc hbc => ?_, fun g hg => ?_⟩
  · simp only [eFew, List.mem_cons, List.not_mem_nil, or_false] at hp
    rcases hp with rfl | rfl | rfl | rfl | rfl
    · exact ⟨rfl, t1⟩
    · exact ⟨rfl, t4⟩
    · exact ⟨rfl, t5⟩
    · exact ⟨rfl, t6⟩
    · exact ⟨rfl, t7⟩
  · rw [hdom]
    simp only [hFew, List.mem_cons] at hp
    rcases hp with rfl | rfl | rfl | rfl | rfl | rfl | rfl | hp
    · exact ⟨by omega, _, o0, rfl, rfl, rfl, jrs_pv1 hdb⟩
    · exact ⟨by omega, _, o1, rfl, rfl, rfl, jrs_pv1 hbs⟩
    · exact ⟨by omega, _, o3, rfl, rfl, rfl, jrs_map rfl rfl⟩
    · exact ⟨by omega, _, o4, rfl, rfl, rfl, jrs_pv1 hlinks.1⟩
    · exact ⟨by omega, _, h5, rfl, rfl, rfl, hmkr⟩
    · exact ⟨by omega, _, o6, rfl, rfl, rfl, jrs_map rfl rfl⟩
    · exact ⟨by omega, _, o7, rfl, rfl, rfl, jrs_pv1 hlinks.2⟩
    · obtain ⟨h8, o', g, ho⟩ := hob p hp
      rw [h8]
      exact ⟨by omega, o', g, ho⟩
  · rw [hdom] at hb hc
    have h8 : ∀ x ∈ ([0, 1, 3, 4, 5, 6, 7] ++ s.A.objs.map (·.1) : List Nat), x ≤ 8 := fun x hx => by
      rcases List.mem_append.1 hx with h | h
      · simp at h; omega
      · obtain ⟨p, hp, rfl⟩ := List.mem_map.1 h
        have := (hob p hp).1; omega
    have hb8 := h8 b hb
    have hc8 := h8 c hc
    revert hbc
    show (if b = 8 then r else b) = (if c = 8 then r else c) → b = c
    split <;> split <;> omega
  · rw [hG] at hg
    obtain rfl : g = 0 := by omega
    exact ⟨by simp [hFew], rfl⟩

theorem sub_of_view {P : Program} (hG : P.globals.size = 1) {q : Fix} {o out : Out} {a : AAct} {h : AHeap} {s : St} {i : Int} (hdb : q.db.all pv1 = true) (hbs : q.bs.all pv1 = true) (h1 : s.A.one) (hN : q.N = 2 ∨ q.N = 3 ∨ q.N = 4) (hv : viewF (o, a, h) = q.view out s i) :
    o = out ∧ Sub P a h ⟨envOf (eFew q.L q.cap i), 90, []⟩ (heapOf 9 (hFew q s.canon)) := by
  obtain ⟨db, e0, e1, bs, N, c, L, cap⟩ := q
  obtain ⟨D, Fy, s0, s1, s2, s3, A⟩ := s
  unfold viewF Fix.view at hv
  simp only [View.mk.injEq, List.cons.injEq, and_true] at hv
  obtain ⟨ho, hn, hm, ⟨t1, t4, t5, t6, t7⟩, ⟨o0, o1, o3, o4, o6, o7⟩, hmk, hrs, hA⟩ := hv
  refine ⟨ho, ?_⟩
  obtain ⟨mc, h5⟩ : ∃ mc, h.get 5 = some (.cells mc 53 false false) := by
    revert hmk
    split
    · rename_i mc' hg; exact fun _ => ⟨mc', hg⟩
    · intro e; cases e
  rw [h5] at hmk hrs hA
  simp only at hmk hrs hA
  cases A with
  | nil =>
    have hu : nthL mc 82 = some (.slice none 0 0) := by
      revert hA
      simp only [Acts.view]
      split <;> first | (intro _; assumption) | (intro h; cases h)
    exact Sub.red (red_of_view (r := 8) (s := St.canon ⟨D, Fy, s0, s1, s2, s3, .nil⟩) hG hdb hbs hN hn hm t1 t4 t5 t6 t7 o0 o1 o3 o4 o6 o7 h5 hmk hrs hu (Nat.le_refl _) rfl rfl fun p hp => by cases hp)
  | row n l =>
    obtain ⟨r, hu, hr8, hob⟩ : ∃ r, nthL mc 82 = some (.slice (some ⟨r, 0, none⟩) n n) ∧ 8 ≤ r ∧ h.get r = some (.cells l 42 false true) := by
      revert hA
      simp only [Acts.view]
      split
      · intro h; cases h
      · rename_i b l' c' hu
        intro e
        simp only [ActsV.row.injEq] at e
        obtain ⟨e1, rfl, rfl, e4⟩ := e
        exact ⟨b, hu, Nat.le_of_ble_eq_true e1, e4⟩
      · intro h; cases h
    refine Sub.red (red_of_view (r := r) (s := St.canon ⟨D, Fy, s0, s1, s2, s3, .row n l⟩) hG hdb hbs hN hn hm t1 t4 t5 t6 t7 o0 o1 o3 o4 o6 o7 h5 hmk hrs hu hr8 rfl rfl fun p hp => ?_)
    simp only [St.canon, Acts.canon, Acts.objs, List.mem_cons, List.not_mem_nil, or_false] at hp
    subst hp
    exact ⟨rfl, _, hob, rfl, rfl, rfl, jrs_jk h1⟩
end Go.Ev

/- FamilyFew: the plain law of the first loop. -/
namespace Go.Ev
open Go.Proofs Tree
set_option maxRecDepth 100000

/-! ### Acts -/
structure Ac where
  k : Int
  node : Int
  rest : List Value
def Ac.cells (x : Ac) : List Value := .int .i64 x.k :: .int .i64 x.node :: x.rest
structure Ac.Ok (N : Nat) (x : Ac) : Prop where
  len : x.rest.length = 7
  one : ∀ v ∈ x.rest, oneCell v = true
  lo : 0 ≤ x.node
  hi : x.node < N
def calmK (k : Int) : Prop := k ≠ 4 ∧ k ≠ 5 ∧ k ≠ 7
/-- One act, by who is down. -/
def playA (d : Nat) (x : Ac) : Option Nat :=
  if x.k = 4 then (if d.testBit x.node.toNat then none else some (d ||| 2 ^ x.node.toNat))
  else if x.k = 5 then (if d.testBit x.node.toNat then some (d ^^^ 2 ^ x.node.toNat) else none)
  else if x.k = 7 then (if d.testBit x.node.toNat then none else some d)
  else some d
def play : Nat → List Ac → Option Nat
  | d, [] => some d
  | d, x :: xs => (playA d x).bind fun d' => play d' xs
theorem play_append : ∀ (xs ys : List Ac) (d : Nat), play d (xs ++ ys) = (play d xs).bind fun d' => play d' ys
  | [], _, _ => rfl
  | x :: xs, ys, d => by
    simp only [List.cons_append, play]
    cases playA d x with
    | none => rfl
    | some d' => exact play_append xs ys d'
theorem play_calm : ∀ (xs : List Ac) (d : Nat), (∀ x ∈ xs, calmK x.k) → play d xs = some d
  | [], _, _ => rfl
  | x :: xs, d, h => by
    have hx := h x (by simp)
    simp only [play, playA]
    rw [if_neg hx.1, if_neg hx.2.1, if_neg hx.2.2]
    exact play_calm xs d fun y hy => h y (by simp [hy])

def AOf : Acts → List Ac → Prop
  | .nil, al => al = []
  | .row n l, al => n = al.length ∧ l = (al.map Ac.cells).flatten ∧ al ≠ []
theorem AOf.push {A : Acts} {al : List Ac} (x : Ac) (h : AOf A al) : AOf (A.push x.cells) (al ++ [x]) := by
  cases A with
  | nil => simp only [AOf] at h; subst h; exact ⟨rfl, by simp, by simp⟩
  | row n l => obtain ⟨rfl, rfl, _⟩ := h; exact ⟨by simp, by simp, by simp⟩
theorem flat_len {N : Nat} : ∀ {al : List Ac}, (∀ x ∈ al, x.Ok N) → (al.map Ac.cells).flatten.length = al.length * 9
  | [], _ => rfl
  | x :: al, h => by
    have := (h x (by simp)).len
    simp only [List.map_cons, List.flatten_cons, List.length_append, Ac.cells, List.length_cons, this, flat_len (al := al) fun y hy => h y (by simp [hy])]
    omega

theorem sameF_int (k : IntKind) (n : Int) : sameF (.int k n) (.int k n) = true := by
  rw [sameF_eq]; simp [sameV]
theorem calmB_true (k : Nat) : calmB true k = true := by induction k <;> simp_all [calmB]

theorem act_bytes : (Tryz.prog.types[42]!).bytes = 80 := by kernel_rfl
theorem wholeB_true {N : Nat} {al : List Ac} (h : ∀ x ∈ al, x.Ok N) (hm : al.length ≤ 3000) : wholeB al.length (al.map Ac.cells).flatten = true := by
  unfold wholeB
  rw [flat_len h, act_bytes]
  simp only [Bool.and_eq_true, Nat.ble_eq, room]
  refine ⟨⟨⟨?_, ?_⟩, ?_⟩, ?_⟩ <;> first | exact Nat.beq_refl _ | omega

theorem pushT_all {N : Nat} {fk : Bool} {s : St} {x : Ac} {k : St → Tree View} {R : View → Prop} {al : List Ac} (hok : ∀ x ∈ al, x.Ok N) (hA : AOf s.A al) (hf : fk = true → s.A ≠ .nil) (hm : al.length ≤ 3000)
    (hk : (k { s with A := s.A.push x.cells }).All R) : (pushT fk s x.cells k).All R := by
  unfold pushT
  cases fk with
  | false => exact hk
  | true =>
    cases hs : s.A with
    | nil => exact (hf rfl hs).elim
    | row n l =>
      rw [hs] at hA hk
      obtain ⟨rfl, rfl, _⟩ := hA
      exact ⟨fun _ => hk, fun hb => by rw [wholeB_true hok hm] at hb; cases hb⟩

def Acts.pushes : Acts → List Ac → Acts
  | A, [] => A
  | A, x :: xs => (A.push x.cells).pushes xs
theorem push_nil (A : Acts) (l : List Value) : A.push l ≠ .nil := by cases A <;> (intro h; cases h)
theorem AOf.pushes : ∀ {xs : List Ac} {A : Acts} {al : List Ac}, AOf A al → AOf (A.pushes xs) (al ++ xs)
  | [], _, _, h => by simpa [Acts.pushes] using h
  | x :: xs, _, al, h => by
    have := AOf.pushes (xs := xs) (h.push x)
    simpa [Acts.pushes] using this
theorem pushes_nil : ∀ {xs : List Ac} {A : Acts}, A ≠ .nil → A.pushes xs ≠ .nil
  | [], _, h => h
  | _ :: xs, _, _ => pushes_nil (xs := xs) (push_nil _ _)
theorem pushesT_all {N : Nat} {fk : Bool} {k : St → Tree View} {R : View → Prop} : ∀ {xs : List Ac} {s : St} {al : List Ac}, (∀ x ∈ al, x.Ok N) → (∀ x ∈ xs, x.Ok N) → AOf s.A al → (fk = true → s.A ≠ .nil) → al.length + xs.length ≤ 3000 →
    (k { s with A := s.A.pushes xs }).All R → (pushesT fk s (xs.map Ac.cells) k).All R
  | [], s, al, _, _, _, _, _, hk => hk
  | x :: xs, s, al, hok, hxs, hA, hf, hm, hk => by
    simp only [List.length_cons] at hm
    refine pushT_all hok hA hf (by omega) ?_
    refine pushesT_all (xs := xs) (s := { s with A := s.A.push x.cells }) (al := al ++ [x]) (fun y hy => ?_) (fun y hy => hxs y (by simp [hy])) (hA.push x) (fun _ => push_nil _ _) (by simp; omega) hk
    rcases List.mem_append.1 hy with h | h
    · exact hok y h
    · obtain rfl : y = x := by simpa using h
      exact hxs y (by simp)

theorem lift_cells {p : Ac → Prop} : ∀ {L : List (List Value)}, (∀ l ∈ L, ∃ x : Ac, l = x.cells ∧ p x) → ∃ xs : List Ac, L = xs.map Ac.cells ∧ ∀ x ∈ xs, p x
  | [], _ => ⟨[], rfl, by simp⟩
  | l :: L, h => by
    obtain ⟨x, rfl, hx⟩ := h l (by simp)
    obtain ⟨xs, rfl, hxs⟩ := lift_cells (L := L) fun m hm => h m (by simp [hm])
    exact ⟨x :: xs, rfl, by simpa using ⟨hx, hxs⟩⟩

/-! ### Sets of at most four nodes -/
theorem bits_has : ∀ d < 16, ∀ i < 4, hasB (.ofNat d) i = d.testBit i := by decide +kernel
theorem bits_with : ∀ d < 16, ∀ i < 4, withB (.ofNat d) i = .ofNat (d ||| 2 ^ i) := by decide +kernel
theorem bits_less : ∀ d < 16, ∀ i < 4, d.testBit i = true → lessB (.ofNat d) i = .ofNat (d ^^^ 2 ^ i) := by decide +kernel
theorem bits_s1 : ∀ d < 16, ∀ f < 16, ∀ i < 4, d &&& f = d → f.testBit i = false → d.testBit i = false := by decide +kernel
theorem bits_s2 : ∀ d < 16, ∀ f < 16, ∀ i < 4, d &&& f = d → (d ||| 2 ^ i) &&& (f ||| 2 ^ i) = (d ||| 2 ^ i) := by decide +kernel
theorem bits_s3 : ∀ d < 16, ∀ f < 16, ∀ i < 4, d &&& f = d → (d.testBit i = true → (d ^^^ 2 ^ i) &&& f = (d ^^^ 2 ^ i)) := by decide +kernel
theorem bits_s4 : ∀ d < 16, ∀ i < 4, d.testBit i = true → (d ^^^ 2 ^ i).testBit i = false := by decide +kernel
theorem bits_lt : ∀ N, N = 2 ∨ N = 3 ∨ N = 4 → ∀ f < 2 ^ N, ∀ i < N, f ||| 2 ^ i < 2 ^ N := by
  rintro N (rfl | rfl | rfl) <;> decide
theorem cnt_with : ∀ f < 16, ∀ i < 4, f.testBit i = false → cnt (.ofNat (f ||| 2 ^ i)) = cnt (.ofNat f) + 1 := by decide +kernel
theorem cnt_zero : cnt (.ofNat 0) = 0 := by kernel_rfl

/-! ### What holds ahead of round i -/
structure Good (q : Fix) (i : Nat) (s : St) (d f : Nat) (al : List Ac) : Prop where
  hD : s.D = .ofNat d
  hF : s.Fy = .ofNat f
  lt : f < 2 ^ q.N
  sub : d &&& f = d
  cnt : Ev.cnt (.ofNat f) ≤ q.c.F
  acts : AOf s.A al
  ok : ∀ x ∈ al, x.Ok q.N
  play : Ev.play 0 al = some d
  len : al.length ≤ 6 * i

def Ac.canon (x : Ac) : Ac := { x with rest := x.rest.map jk }
theorem Ac.canon_cells (x : Ac) : x.cells.map jk = x.canon.cells := rfl
theorem AOf.canon {A : Acts} {al : List Ac} (h : AOf A al) : AOf A.canon (al.map Ac.canon) := by
  cases A with
  | nil => simp only [AOf] at h; subst h; rfl
  | row n l =>
    obtain ⟨rfl, rfl, hne⟩ := h
    refine ⟨by simp, ?_, by simpa using hne⟩
    simp only [List.map_flatten, List.map_map]
    rfl
theorem play_canon : ∀ (al : List Ac) (d : Nat), Ev.play d (al.map Ac.canon) = Ev.play d al
  | [], _ => rfl
  | x :: al, d => by
    simp only [List.map_cons, Ev.play]
    have : playA d x.canon = playA d x := rfl
    rw [this]
    congr 1
    funext d'
    exact play_canon al d'
theorem Good.canon {q : Fix} {i : Nat} {s : St} {d f : Nat} {al : List Ac} (h : Good q i s d f al) : Good q i s.canon d f (al.map Ac.canon) := by
  refine ⟨h.hD, h.hF, h.lt, h.sub, h.cnt, h.acts.canon, fun x hx => ?_, by rw [play_canon]; exact h.play, by simpa using h.len⟩
  obtain ⟨y, hy, rfl⟩ := List.mem_map.1 hx
  have := h.ok y hy
  refine ⟨by simpa [Ac.canon] using this.len, fun v hv => ?_, this.lo, this.hi⟩
  obtain ⟨u, _, rfl⟩ := List.mem_map.1 hv
  exact jk_oneCell u
theorem Good.one {q : Fix} {i : Nat} {s : St} {d f : Nat} {al : List Ac} (h : Good q i s d f al) : s.A.one := by
  cases hA : s.A with
  | nil => trivial
  | row n l =>
    have := h.acts
    rw [hA] at this
    obtain ⟨_, rfl, _⟩ := this
    intro v hv
    obtain ⟨c, hc, hv⟩ := List.mem_flatten.1 hv
    obtain ⟨x, hx, rfl⟩ := List.mem_map.1 hc
    simp only [Ac.cells, List.mem_cons] at hv
    rcases hv with rfl | rfl | hv
    · rfl
    · rfl
    · exact (h.ok x hx).one v hv

/-- Where a round may lead. -/
def Leads (q : Fix) (i : Nat) (s : St) (v : View) : Prop := (i < 300 ∧ ∃ s' d f al, v = q.view .normal s' (.ofNat (i + 1)) ∧ Good q (i + 1) s' d f al) ∨ v = q.view (.exit 0) s (.ofNat i)

theorem tailT_all {q : Fix} {s0 s : St} {i : Nat} {d f : Nat} {al : List Ac} (hi : i < 300) (h : Good q (i + 1) s d f al) : (tailT q s i).All (Leads q i s0) := by
  unfold tailT
  rw [sameF_int, calmB_true]
  refine ⟨fun _ => ⟨fun hb => ?_, fun _ => .inl ⟨hi, s, d, f, al, ?_, h⟩⟩, fun hb => by cases hb⟩
  · have := h.cnt
    rw [h.hF, ltI_eq, decide_eq_true_eq] at hb
    omega
  · have : wrapF .i64 ((.ofNat i : Int) + 1) = .ofNat (i + 1) := by
      show wrapS 18446744073709551616 9223372036854775808 (.ofNat (i + 1)) = _
      simp only [wrapS]
      have e : (i + 1) % 18446744073709551616 = i + 1 := Nat.mod_eq_of_lt (by omega)
      rw [e, show Nat.blt (i + 1) 9223372036854775808 = true by rw [Nat.blt_eq]; omega]
    rw [this]
end Go.Ev

/- FamilyFew: what a round of the first loop makes of what holds. -/
namespace Go.Ev
open Go.Proofs Tree
set_option maxRecDepth 100000

def actA (k i x : Int) : Ac := ⟨k, i, [.int .i64 x, .int .i64 0, .int .i64 0, .int .i64 0, .int .u32 0, .int .u32 0, .slice none 0 0]⟩
def fateA (k d a : Int) : Ac := ⟨3, 0, [.int .i64 0, .int .i64 k, .int .i64 d, .int .i64 a, .int .u32 0, .int .u32 0, .slice none 0 0]⟩
def sendA (i : Int) (b : Nat) : Ac := ⟨6, i, [.int .i64 0, .int .i64 0, .int .i64 0, .int .i64 0, .int .u32 0, .int .u32 0, .slice (some ⟨b, 0, none⟩) 1 1]⟩
theorem actA_ok {N : Nat} {k i x : Int} (h0 : 0 ≤ i) (h1 : i < N) : (actA k i x).Ok N := ⟨rfl, fun v hv => by simp only [actA, List.mem_cons, List.not_mem_nil, or_false] at hv; rcases hv with rfl | rfl | rfl | rfl | rfl | rfl | rfl <;> rfl, h0, h1⟩
theorem fateA_ok {N : Nat} {k d a : Int} (h : 0 < N) : (fateA k d a).Ok N := ⟨rfl, fun v hv => by simp only [fateA, List.mem_cons, List.not_mem_nil, or_false] at hv; rcases hv with rfl | rfl | rfl | rfl | rfl | rfl | rfl <;> rfl, by simp [fateA], by simp [fateA]; omega⟩
theorem sendA_ok {N : Nat} {i : Int} {b : Nat} (h0 : 0 ≤ i) (h1 : i < N) : (sendA i b).Ok N := ⟨rfl, fun v hv => by simp only [sendA, List.mem_cons, List.not_mem_nil, or_false] at hv; rcases hv with rfl | rfl | rfl | rfl | rfl | rfl | rfl <;> rfl, h0, h1⟩
theorem quicks_are (c : Nums) : ∀ k j, ∃ xs : List Ac, quicks c k j = xs.map Ac.cells ∧ xs.length = k ∧ ∀ N, 0 < N → ∀ x ∈ xs, x.Ok N ∧ calmK x.k
  | 0, _ => ⟨[], rfl, rfl, by simp⟩
  | k + 1, j => by
    obtain ⟨xs, h1, h2, h3⟩ := quicks_are c k (j + 1)
    refine ⟨(if j % 2 = 1 then fateA 2 c.dmin c.dmax else fateA 0 c.dmin 0) :: xs, ?_, by simp [h2], fun N hN x hx => ?_⟩
    · simp only [quicks, h1, List.map_cons]; split <;> rfl
    · rcases List.mem_cons.1 hx with rfl | hx
      · split <;> exact ⟨fateA_ok hN, by simp [fateA, calmK]⟩
      · exact h3 N hN x hx
theorem amids_are (c : Nums) (m : Nat) : ∀ k j, ∃ xs : List Ac, amids c m k j = xs.map Ac.cells ∧ xs.length = k ∧ ∀ N, 0 < N → ∀ x ∈ xs, x.Ok N ∧ calmK x.k
  | 0, _ => ⟨[], rfl, rfl, by simp⟩
  | k + 1, j => by
    obtain ⟨xs, h1, h2, h3⟩ := amids_are c m k (j + 1)
    refine ⟨(if j < (m + 1) / 2 then fateA 1 0 0 else fateA 0 c.dmax 0) :: xs, ?_, by simp [h2], fun N hN x hx => ?_⟩
    · simp only [amids, h1, List.map_cons]; split <;> rfl
    · rcases List.mem_cons.1 hx with rfl | hx
      · split <;> exact ⟨fateA_ok hN, by simp [fateA, calmK]⟩
      · exact h3 N hN x hx

theorem pushes_last : ∀ (xs : List Ac) (x : Ac) (A : Acts), A.pushes (xs ++ [x]) ≠ .nil
  | [], _, _ => push_nil _ _
  | _ :: xs, x, _ => pushes_last xs x _
theorem more_same (s : St) (i0 : Nat) : (s.more i0).D = s.D ∧ (s.more i0).Fy = s.Fy ∧ (s.more i0).A = s.A := by
  unfold St.more; split <;> exact ⟨rfl, rfl, rfl⟩

section
variable {q : Fix} {i : Nat} {s s' : St} {d f : Nat} {al xs : List Ac}

theorem ok_append {N : Nat} (h : ∀ x ∈ al, x.Ok N) (k : ∀ x ∈ xs, x.Ok N) : ∀ x ∈ al ++ xs, x.Ok N := fun x hx => by
  rcases List.mem_append.1 hx with hx | hx
  · exact h x hx
  · exact k x hx

theorem Good.calm (h : Good q i s d f al) (hx : ∀ x ∈ xs, x.Ok q.N ∧ calmK x.k) (hl : xs.length ≤ 6) (e1 : s'.D = s.D) (e2 : s'.Fy = s.Fy) (e3 : s'.A = s.A.pushes xs) : Good q (i + 1) s' d f (al ++ xs) := by
  refine ⟨e1.trans h.hD, e2.trans h.hF, h.lt, h.sub, h.cnt, by rw [e3]; exact h.acts.pushes, ok_append h.ok fun x hx' => (hx x hx').1, ?_, ?_⟩
  · rw [play_append, h.play]
    exact play_calm xs d fun x hx' => (hx x hx').2
  · have := h.len
    simp only [List.length_append]
    omega

theorem pow4 {N : Nat} (hN : N = 2 ∨ N = 3 ∨ N = 4) : 2 ^ N ≤ 16 := by rcases hN with rfl | rfl | rfl <;> decide
theorem Good.small (h : Good q i s d f al) (hN : q.N = 2 ∨ q.N = 3 ∨ q.N = 4) : f < 16 ∧ d < 16 := by
  have h1 := h.lt
  have h2 := pow4 hN
  have h3 := h.sub
  have : d ≤ f := by rw [← h3]; exact Nat.and_le_right
  omega

theorem Good.crash (h : Good q i s d f al) (hN : q.N = 2 ∨ q.N = 3 ∨ q.N = 4) {i0 : Nat} (hi0 : i0 < q.N) (hb : f.testBit i0 = false) (hc : Ev.cnt (.ofNat f) < q.c.F) (hx : ∀ x ∈ xs, x.Ok q.N ∧ calmK x.k) (hl : xs.length ≤ 5)
    (e1 : s'.D = withB s.D i0) (e2 : s'.Fy = withB s.Fy i0) (e3 : s'.A = (s.A.pushes xs).push (actA 4 (.ofNat i0) 0).cells) : Good q (i + 1) s' (d ||| 2 ^ i0) (f ||| 2 ^ i0) (al ++ xs ++ [actA 4 (.ofNat i0) 0]) := by
  obtain ⟨hf, hd⟩ := h.small hN
  have hi4 : i0 < 4 := by omega
  refine ⟨by rw [e1, h.hD, bits_with d hd i0 hi4], by rw [e2, h.hF, bits_with f hf i0 hi4], bits_lt q.N hN f h.lt i0 hi0, bits_s2 d hd f hf i0 hi4 h.sub, ?_, by rw [e3]; exact h.acts.pushes.push _, ok_append (ok_append h.ok fun x hx' => (hx x hx').1) fun x hx' => ?_, ?_, ?_⟩
  · rw [cnt_with f hf i0 hi4 hb]; omega
  · obtain rfl := List.mem_singleton.1 hx'
    exact actA_ok (by simp) (by simp; omega)
  · rw [play_append, play_append, h.play]
    simp only [Option.bind_some, play_calm xs d fun x hx' => (hx x hx').2, Ev.play, playA, actA]
    have : (d.testBit i0) = false := bits_s1 d hd f hf i0 hi4 h.sub hb
    simp [this]
  · have := h.len
    simp only [List.length_append, List.length_cons, List.length_nil]
    omega

theorem Good.rise (h : Good q i s d f al) (hN : q.N = 2 ∨ q.N = 3 ∨ q.N = 4) {i0 : Nat} (hi0 : i0 < q.N) (hb : d.testBit i0 = true) (e1 : s'.D = lessB s.D i0) (e2 : s'.Fy = s.Fy)
    (e3 : s'.A = s.A.pushes [actA 5 (.ofNat i0) 0, actA 7 (.ofNat i0) 0]) : Good q (i + 1) s' (d ^^^ 2 ^ i0) f (al ++ [actA 5 (.ofNat i0) 0, actA 7 (.ofNat i0) 0]) := by
  obtain ⟨hf, hd⟩ := h.small hN
  have hi4 : i0 < 4 := by omega
  refine ⟨by rw [e1, h.hD, bits_less d hd i0 hi4 hb], e2.trans h.hF, h.lt, bits_s3 d hd f hf i0 hi4 h.sub hb, h.cnt, by rw [e3]; exact h.acts.pushes, ok_append h.ok fun x hx' => ?_, ?_, ?_⟩
  · simp only [List.mem_cons, List.not_mem_nil, or_false] at hx'
    rcases hx' with rfl | rfl <;> exact actA_ok (by simp) (by simp; omega)
  · rw [play_append, h.play]
    simp only [Option.bind_some, Ev.play, playA, actA]
    simp [hb, bits_s4 d hd i0 hi4 hb]
  · have := h.len
    simp only [List.length_append, List.length_cons, List.length_nil]
    omega

theorem sureT_all {R : View → Prop} {i0 : Nat} {t u : Tree View} (ht : hasB s.Fy i0 = false → t.All R) (hu : u.All R) : (sureT s i0 t u).All R := by
  unfold sureT
  rw [sameF_int, calmB_true]
  exact ⟨fun _ => ⟨fun _ => hu, fun h => by cases h⟩, fun hb => ⟨fun _ => ⟨fun _ => ht hb, fun _ => hu⟩, fun h => by cases h⟩⟩
theorem moreT_all {R : View → Prop} {Fy : Int} {t u : Tree View} (ht : Ev.cnt Fy < q.c.F → t.All R) (hu : u.All R) : (moreT q Fy t u).All R := by
  unfold moreT
  rw [sameF_int, calmB_true]
  refine ⟨fun _ => ⟨fun hb => ht ?_, fun _ => hu⟩, fun h => by cases h⟩
  rwa [ltI_eq, decide_eq_true_eq] at hb

theorem kindT_all {R : View → Prop} {xn kd : Nat} {t : Tree View} (hk : xn % 8 = kd) (ht : t.All R) : (kindT (.ofNat xn) kd t).All R := by
  unfold kindT
  have : eqI ((Int.ofNat xn).tmod 8) (.ofNat kd) = true := by
    rw [show (Int.ofNat xn).tmod 8 = Int.ofNat (xn % 8) from rfl, eqI_eq, hk]; exact beq_self_eq_true _
  rw [this]
  exact ⟨fun _ => ht, fun h => by cases h⟩

theorem crashT_all {R : View → Prop} {fk : Bool} {i0 : Nat} {k : St → Tree View} {N : Nat} (hok : ∀ x ∈ al, x.Ok N) (hA : AOf s.A al) (hf : fk = true → s.A ≠ .nil) (hm : al.length ≤ 3000)
    (hk : (k { s with A := s.A.push (actA 4 (.ofNat i0) 0).cells, D := withB s.D i0, Fy := withB s.Fy i0 }).All R) : (crashT fk i0 s k).All R := by
  unfold crashT
  refine pushT_all (x := actA 4 (.ofNat i0) 0) hok hA hf hm ?_
  simp only [sameF_int, calmB_true]
  exact ⟨fun _ => hk, fun h => by cases h⟩

theorem bodyT_all {fk : Bool} {i0 xn kd : Nat} {down : Bool} (h : Good q i s d f al) (hN : q.N = 2 ∨ q.N = 3 ∨ q.N = 4) (hi : i < 300) (hi0 : i0 < q.N) (hfk : fk = true → s.A ≠ .nil) (hk : xn % 8 = kd) (hd : hasB s.D i0 = down) :
    (bodyT fk q s i (.ofNat xn) i0 kd down).All (Leads q i s) := by
  obtain ⟨hf16, hd16⟩ := h.small hN
  have hi4 : i0 < 4 := by omega
  have hlen := h.len
  have hm : al.length ≤ 3000 := by omega
  have hNp : 0 < q.N := by omega
  have one : ∀ (k n x : Int), 0 ≤ n → n < q.N → calmK k → (pushT fk s (actOf k n x) fun s => tailT q s i).All (Leads q i s) := fun k n x h0 h1 hc =>
    pushT_all (x := actA k n x) h.ok h.acts hfk hm (tailT_all hi (h.calm (xs := [actA k n x]) (fun y hy => by obtain rfl := List.mem_singleton.1 hy; exact ⟨actA_ok h0 h1, hc⟩) (by simp) rfl rfl rfl))
  have hhas : hasB s.Fy i0 = f.testBit i0 := by rw [h.hF]; exact bits_has f hf16 i0 hi4
  have hasD : hasB s.D i0 = d.testBit i0 := by rw [h.hD]; exact bits_has d hd16 i0 hi4
  have hi0' : (Int.ofNat i0) < (q.N : Int) := by simp; omega
  have calm6 : calmK 6 := by simp [calmK]
  have calm1 : calmK 1 := by simp [calmK]
  have calm2 : calmK 2 := by simp [calmK]
  unfold bodyT
  split
  · -- a send
    refine kindT_all hk (sureT_all (fun _ => ?_) ?_)
    · obtain ⟨xs, h1, h2, h3⟩ := quicks_are q.c (q.N - 1) 0
      have h3' := h3 q.N hNp
      have hall : ∀ x ∈ xs ++ [sendA (.ofNat i0) (body3 q.N)], x.Ok q.N ∧ calmK x.k := fun x hx => by
        rcases List.mem_append.1 hx with hx | hx
        · exact h3' x hx
        · obtain rfl := List.mem_singleton.1 hx; exact ⟨sendA_ok (by simp) hi0', calm6⟩
      have e : quicks q.c (q.N - 1) 0 ++ [sendOf (.ofNat i0) (body3 q.N)] = (xs ++ [sendA (.ofNat i0) (body3 q.N)]).map Ac.cells := by rw [h1]; simp; rfl
      rw [e]
      refine pushesT_all h.ok (fun x hx => (hall x hx).1) h.acts hfk (by simp [h2]; omega) ?_
      obtain ⟨m1, m2, m3⟩ := more_same { s with A := s.A.pushes (xs ++ [sendA (.ofNat i0) (body3 q.N)]) } i0
      exact tailT_all hi (h.calm hall (by simp [h2]; omega) m1 m2 m3)
    · refine pushT_all (x := sendA (.ofNat i0) 127) h.ok h.acts hfk hm ?_
      obtain ⟨m1, m2, m3⟩ := more_same { s with A := s.A.push (sendA (.ofNat i0) 127).cells } i0
      exact tailT_all hi (h.calm (xs := [sendA (.ofNat i0) 127]) (fun y hy => by obtain rfl := List.mem_singleton.1 hy; exact ⟨sendA_ok (by simp) hi0', calm6⟩) (by simp) m1 m2 m3)
  · refine kindT_all hk ⟨fun _ => one _ _ _ (by simp) hi0' calm2, fun _ => one _ _ _ (by simp) hi0' calm2⟩
  · refine kindT_all hk ?_
    split
    · exact one _ _ _ (by simp) (by omega) calm1
    · refine pushesT_all (xs := [actA 5 (.ofNat i0) 0, actA 7 (.ofNat i0) 0]) (s := { s with D := lessB s.D i0 }) h.ok (fun x hx => ?_) h.acts hfk (by simp; omega) (tailT_all hi (h.rise hN hi0 (by rw [← hasD]; exact hd) rfl rfl rfl))
      simp only [List.mem_cons, List.not_mem_nil, or_false] at hx
      rcases hx with rfl | rfl <;> exact actA_ok (by simp) hi0'
  · refine kindT_all hk ⟨fun _ => one _ _ _ (by simp) (by omega) calm1, fun hb => ?_⟩
    rw [hhas] at hb
    refine moreT_all (fun hc => ?_) (one _ _ _ (by simp) (by omega) calm1)
    rw [h.hF] at hc
    exact crashT_all h.ok h.acts hfk hm (tailT_all hi (h.crash (xs := []) hN hi0 hb hc (by simp) (by simp) rfl rfl rfl))
  · refine kindT_all hk (sureT_all (fun hb => ?_) (one _ _ _ (by simp) (by omega) calm1))
    rw [hhas] at hb
    refine moreT_all (fun hc => ?_) (one _ _ _ (by simp) (by omega) calm1)
    rw [h.hF] at hc
    obtain ⟨xs, h1, h2, h3⟩ := amids_are q.c (q.N - 1) (q.N - 1) 0
    have h3' := h3 q.N hNp
    have hall : ∀ x ∈ xs ++ [sendA (.ofNat i0) (body7 q.N)], x.Ok q.N ∧ calmK x.k := fun x hx => by
      rcases List.mem_append.1 hx with hx | hx
      · exact h3' x hx
      · obtain rfl := List.mem_singleton.1 hx; exact ⟨sendA_ok (by simp) hi0', calm6⟩
    have e : amids q.c (q.N - 1) (q.N - 1) 0 ++ [sendOf (.ofNat i0) (body7 q.N)] = (xs ++ [sendA (.ofNat i0) (body7 q.N)]).map Ac.cells := by rw [h1]; simp; rfl
    rw [e]
    refine pushesT_all h.ok (fun x hx => (hall x hx).1) h.acts hfk (by simp [h2]; omega) ?_
    obtain ⟨m1, m2, m3⟩ := more_same { s with A := s.A.pushes (xs ++ [sendA (.ofNat i0) (body7 q.N)]) } i0
    refine crashT_all (al := al ++ (xs ++ [sendA (.ofNat i0) (body7 q.N)])) (ok_append h.ok fun x hx => (hall x hx).1) (by rw [m3]; exact h.acts.pushes) (fun _ => by rw [m3]; exact pushes_last xs _ _) (by simp [h2]; omega) ?_
    exact tailT_all hi (h.crash hN hi0 hb hc hall (by simp [h2]; omega) (by simp only [m1]) (by simp only [m2]) (by simp only [m3]))
  · refine kindT_all hk (kindT_all hk (one _ _ _ (by simp) (by omega) calm1))
end
end Go.Ev
