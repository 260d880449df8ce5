/- FamilyFew: its first loop. -/
import Derived.Test.YtfickkmgbecamaaGreatDoorFewE
import Derived.Test.YtfickkmgbecamaaGreatDoorFewD
import Derived.Test.YtfickkmgbecamaaGreatDoorOrB
import Derived.Test.YtfickkmgbecamaaGreatDoorEv6
namespace Go.Ev
open Go.Proofs Tree
set_option maxRecDepth 100000

theorem All_map {α β : Type} {g : α → β} {p : β → Prop} : ∀ t : Tree α, (t.map g).All p → t.All fun x => p (g x)
  | .no, h => h
  | .leaf _, h => h
  | .fork _ t f, h => ⟨fun hb => All_map t (h.1 hb), fun hb => All_map f (h.2 hb)⟩

theorem oNone_okM {P : Program} : OracleOk P (otO (toT oNone)) := by rw [otO_toT]; exact oNone_ok
theorem zglobals_one : Tryz.prog.globals.size = 1 := by kernel_rfl

theorem bytes_elem : Tryz.prog.underlying 23 = some (.slice 5) := by kernel_rfl
theorem byte_size : (Tryz.prog.info? 5).map (·.size) = some 1 := by kernel_rfl
theorem byte_addr {L cap i : Nat} (h : i < L) : (indexAddrC Tryz.prog 23).run (.slice (some ⟨1, 0, none⟩) L cap) (.int .i64 (.ofNat i)) = some (.pointer (some ⟨1, i, none⟩)) := by
  rw [indexAddrC_run]
  unfold indexAddrA
  obtain ⟨j, hj, hs⟩ := Option.map_eq_some_iff.1 byte_size
  simp only [bytes_elem, hj]
  rw [if_pos ⟨by simp, by simp; omega⟩, hs]
  simp

section
variable {q : Fix} {i : Nat} {s : St} {d f : Nat} {al : List Ac}

theorem roundT_all {xn i0 kd : Nat} (h : Good q i s d f al) (hN : q.N = 2 ∨ q.N = 3 ∨ q.N = 4) (hi0 : i0 < q.N) (hx : i < q.L → q.bs[i]? = some (.int .u8 (.ofNat xn)) ∧ xn < 256 ∧ (xn / 8) % q.N = i0 ∧ xn % 8 = kd) :
    (roundT s.A.isRow q s i (.ofNat xn) i0 kd).All (Leads q i s) := by
  have stay : (Tree.leaf (q.view (.exit 0) s i)).All (Leads q i s) := .inr rfl
  unfold roundT headT
  refine ⟨fun hL => ?_, fun _ => stay⟩
  have hL' : i < q.L := by rw [ltI_eq, decide_eq_true_eq] at hL; simpa using hL
  obtain ⟨h1, h2, h3, h4⟩ := hx hL'
  refine ⟨fun hi => ?_, fun _ => stay⟩
  have hi' : i < 300 := by
    rw [ltI_eq, decide_eq_true_eq] at hi
    have : (i : Int) < 300 := hi
    omega
  refine ⟨fun _ => ⟨fun _ => ⟨fun _ => ?_, fun hb => ?_⟩, fun hb => ?_⟩, fun hb => ?_⟩
  · have hfk : s.A.isRow = true → s.A ≠ .nil := fun he hn => by rw [hn] at he; cases he
    exact ⟨fun hb => bodyT_all h hN hi' hi0 hfk h4 hb, fun hb => bodyT_all h hN hi' hi0 hfk h4 hb⟩
  · exfalso
    have e : (IntKind.i64.wrap (wrapF .u8 ((Int.ofNat xn).tdiv 8))).tmod (Int.ofNat q.N) = .ofNat i0 := by
      have e1 : (Int.ofNat xn).tdiv 8 = Int.ofNat (xn / 8) := rfl
      have e2 : wrapF .u8 (Int.ofNat (xn / 8)) = Int.ofNat (xn / 8) := by
        show Int.ofNat ((xn / 8) % 256) = _
        rw [Nat.mod_eq_of_lt (by omega)]
      have e3 : IntKind.i64.wrap (Int.ofNat (xn / 8)) = Int.ofNat (xn / 8) := by
        rw [← wrapF_eq]
        show wrapS 18446744073709551616 9223372036854775808 (.ofNat (xn / 8)) = _
        simp only [wrapS]
        have e : (xn / 8) % 18446744073709551616 = xn / 8 := Nat.mod_eq_of_lt (by omega)
        rw [e, show Nat.blt (xn / 8) 9223372036854775808 = true by rw [Nat.blt_eq]; omega]
      rw [e1, e2, e3, ← h3]
      rfl
    rw [e, eqI_eq] at hb
    simp at hb
  · exfalso
    rw [nthL_eq, h1] at hb
    simp [sameO, sameV] at hb
  · exfalso
    rw [byte_addr hL'] at hb
    simp [sameO, sameV] at hb

theorem jk_jk (v : Value) : jk (jk v) = jk v := by
  cases hp : pv1 v with
  | true => unfold jk; rw [hp]; simp only [hp]
  | false => unfold jk; rw [hp]; rfl
theorem canon_canon (A : Acts) : A.canon.canon = A.canon := by
  cases A with
  | nil => rfl
  | row n l =>
    simp only [Acts.canon, List.map_map]
    congr 1
    exact List.map_congr_left fun v _ => jk_jk v

/-- A state of the loop. -/
def envF (q : Fix) (i : Nat) : AAct := ⟨envOf (eFew q.L q.cap (.ofNat i)), 90, []⟩
def heapF (q : Fix) (s : St) : AHeap := heapOf 9 (hFew q s)

theorem tri_round (hdb : q.db.all pv1 = true) (hbs : q.bs.all pv1 = true) (hL : ∀ i, i < q.L → ∃ xn, q.bs[i]? = some (.int .u8 (.ofNat xn)) ∧ xn < 256) (hN : q.N = 2 ∨ q.N = 3 ∨ q.N = 4) (h : Good q i s d f al) :
    Tri Tryz.prog round1 (envF q i) (heapF q s) fun o a' h' =>
      (o = .normal ∧ i < 300 ∧ ∃ s' d' f' al', Good q (i + 1) s' d' f' al' ∧ Sub Tryz.prog a' h' (envF q (i + 1)) (heapF q s')) ∨
      (o = .exit 0 ∧ ∃ al', Good q i s.canon d f al' ∧ Sub Tryz.prog a' h' (envF q i) (heapF q s.canon)) := by
  obtain ⟨xn, i0, kd, hi0, hk, hx⟩ : ∃ xn i0 kd, i0 < q.N ∧ kd < 8 ∧ (i < q.L → q.bs[i]? = some (.int .u8 (.ofNat xn)) ∧ xn < 256 ∧ (xn / 8) % q.N = i0 ∧ xn % 8 = kd) := by
    by_cases hl : i < q.L
    · obtain ⟨xn, h1, h2⟩ := hL i hl
      exact ⟨xn, (xn / 8) % q.N, xn % 8, Nat.mod_lt _ (by omega), Nat.mod_lt _ (by omega), fun _ => ⟨h1, h2, rfl, rfl⟩⟩
    · exact ⟨0, 0, 0, by omega, by omega, fun h => (hl h).elim⟩
  have hall := roundT_all h hN hi0 hx
  rw [← few_all q s i _ i0 kd hN hi0 hk] at hall
  refine Tri.run oNone_okM (f := 3) (k := 300) (K := kFew s.A.isRow i (.ofNat xn) i0 kd) (t := treeFew s.A.isRow q s i (.ofNat xn) i0 kd) rfl (Tree.All.mono (fun x hv => ?_) _ (All_map _ hall))
  obtain ⟨o, a', h'⟩ := x
  rcases hv with ⟨hi, s', d', f', al', hv, hg⟩ | hv
  · obtain ⟨ho, hs⟩ := sub_of_view zglobals_one hdb hbs hg.one hN hv
    exact .inl ⟨ho, hi, s'.canon, d', f', _, hg.canon, hs⟩
  · obtain ⟨ho, hs⟩ := sub_of_view zglobals_one hdb hbs h.one hN hv
    exact .inr ⟨ho, _, h.canon, hs⟩

theorem tri_loop (hdb : q.db.all pv1 = true) (hbs : q.bs.all pv1 = true) (hL : ∀ i, i < q.L → ∃ xn, q.bs[i]? = some (.int .u8 (.ofNat xn)) ∧ xn < 256) (hN : q.N = 2 ∨ q.N = 3 ∨ q.N = 4) (h : Good q 0 s d f al) :
    Tri Tryz.prog (.block 0 (.loop round1)) (envF q 0) (heapF q s) fun o a' h' => o = .normal ∧ ∃ i s' d' f' al', i ≤ 300 ∧ s'.A.canon = s'.A ∧ Good q i s' d' f' al' ∧ Sub Tryz.prog a' h' (envF q i) (heapF q s') := by
  refine Tri.block ?_
  refine Tri.conseq (Tri.loop (P := Tryz.prog) (St := Nat) (fun i => 301 - i) (fun i a h => i ≤ 300 ∧ ∃ s d f al, Good q i s d f al ∧ a = envF q i ∧ h = heapF q s)
    (Q := fun o a' h' => o = .exit 0 ∧ ∃ i s' d' f' al', i ≤ 300 ∧ s'.A.canon = s'.A ∧ Good q i s' d' f' al' ∧ Sub Tryz.prog a' h' (envF q i) (heapF q s')) (fun i a h ⟨hi, s, d, f, al, hg, ha, hh⟩ => ?_) 0 _ _ ⟨by omega, s, d, f, al, h, rfl, rfl⟩) (fun o a h ⟨ho, hq⟩ => ?_)
  · subst ha hh
    refine Tri.conseq (tri_round hdb hbs hL hN hg) fun o a' h' hq => ?_
    rcases hq with ⟨rfl, hi3, s', d', f', al', hg', hs⟩ | ⟨rfl, al', hg', hs⟩
    · exact ⟨i + 1, _, _, by omega, ⟨by omega, s', d', f', al', hg', rfl, rfl⟩, hs⟩
    · exact ⟨rfl, i, s.canon, d, f, al', hi, canon_canon _, hg', hs⟩
  · subst ho
    simp only [if_true]
    exact ⟨trivial, hq⟩
end
end Go.Ev

/- FamilyFew: its second loop: the states, and a round as a tree. -/
namespace Go.Ev
open Go.Proofs Tree
set_option maxRecDepth 1000000

/-- What stands behind the first loop. -/
noncomputable def rest1 : Code := sq2 (sq2 (sq2 (sq2 few)))
noncomputable def reg9 : Code := sq1 rest1
noncomputable def reg10 : Code := sq1 (sq1 (sq2 rest1))
noncomputable def round2 : Code := inLp (inBlk (sq2 (sq1 (sq2 rest1))))
noncomputable def reg28 : Code := sq2 (sq2 rest1)

def junks : Nat → List Value → List Value
  | 0, l => l
  | k + 1, l => .chan (some 0) :: junks k l
def falses : Nat → List Value
  | 0 => []
  | k + 1 => .bool false :: falses k

/-- Behind the first loop. -/
def eMid : List (Nat × Value) := [(5, .pointer (some ⟨3, 0, none⟩)), (6, .pointer (some ⟨5, 0, none⟩))]
def hMid (db : List Value) (e0 : TypeId) (N : Int) (A : Acts) : List (Nat × AObj) :=
  (0, .cells db e0 true false) :: (3, .cells (.int .i64 N :: junks 14 []) 26 false false) :: (5, .cells (junks 82 [A.val]) 53 false false) :: A.objs
def leafOf {α : Type} : Tree α → α → α
  | .leaf a, _ => a
  | _, d => d
noncomputable def kMid (A : Acts) : Spl := fun f d => match f with | 29 => (match d with | 7 => (match A with | .nil => none | .row _ _ => some .clone) | _ => none) | _ => none
noncomputable def tree9 (db : List Value) (e0 : TypeId) (N : Int) (A : Acts) : Tree (Out × AAct × AHeap) :=
  (evM Tryz.prog (toT oNone) (kMid A) 300).code 3 none reg9 ⟨envOf eMid, 90, []⟩ (heapOf 9 (hMid db e0 N A))
noncomputable def m9 (db : List Value) (e0 : TypeId) (N : Int) (A : Acts) : Out × AAct × AHeap := leafOf (tree9 db e0 N A) (.ret, ⟨.leaf, 0, []⟩, ⟨.leaf, 0⟩)
noncomputable def tree10 (db : List Value) (e0 : TypeId) (N : Int) (A : Acts) : Tree (Out × AAct × AHeap) :=
  (evM Tryz.prog (toT oNone) (kMid A) 300).code 3 none reg10 (m9 db e0 N A).2.1 (m9 db e0 N A).2.2

/-- The second loop. -/
def Acts.val2 : Acts → Value
  | .nil => .slice none 0 0
  | .row n _ => .slice (some ⟨11, 0, none⟩) n n
def Acts.objs2 : Acts → List (Nat × AObj)
  | .nil => []
  | .row _ l => [(11, .cells l 42 false true)]
def Acts.num : Acts → Nat
  | .nil => 0
  | .row n _ => n
def eTwo (A : Acts) (k : Int) : List (Nat × Value) :=
  [(5, .pointer (some ⟨3, 0, none⟩)), (8, .pointer (some ⟨10, 0, none⟩)), (45, A.val2), (46, .int .i64 (.ofNat A.num)), (47, .int .i64 k)]
def hTwo (db : List Value) (e0 : TypeId) (N : Int) (A : Acts) (b0 b1 b2 b3 : Bool) : List (Nat × AObj) :=
  (0, .cells db e0 true false) :: (3, .cells (.int .i64 N :: junks 14 []) 26 false false) :: (10, .cells (.bool b0 :: .bool b1 :: .bool b2 :: .bool b3 :: falses 60) 35 false false) :: A.objs2

noncomputable def kTwo (k : Nat) (v : Value) : Spl := fun f d =>
  match f with
  | 3 => (match d with
    | 48 => some .bool
    | 49 => some (.told (.pointer (some ⟨11, k * 9, none⟩)))
    | 50 => some (.told v)
    | 59 => some .bool
    | 64 => some .bool
    | 73 => some .bool
    | 83 => some .bool
    | 68 => some .bool
    | 77 => some .bool
    | 87 => some .bool
    | _ => none)
  | _ => none

noncomputable def treeTwo (db : List Value) (e0 : TypeId) (N : Int) (n : Nat) (l : List Value) (b0 b1 b2 b3 : Bool) (k : Nat) (i1 : Nat) (kd : Int) : Tree (Out × AAct × AHeap) :=
  (evM Tryz.prog (toT oNone) (kTwo k (.agg #[.int .i64 kd, .int .i64 (.ofNat i1), .chan (some 0), .chan (some 0), .chan (some 0), .chan (some 0), .chan (some 0), .chan (some 0), .chan (some 0)])) 300).code 3 none round2 ⟨envOf (eTwo (.row n l) (.ofNat k)), 90, []⟩ (heapOf 12 (hTwo db e0 N (.row n l) b0 b1 b2 b3))
noncomputable def treeTwo0 (db : List Value) (e0 : TypeId) (N : Int) (b0 b1 b2 b3 : Bool) : Tree (Out × AAct × AHeap) :=
  (evM Tryz.prog (toT oNone) (fun _ _ => none) 300).code 3 none round2 ⟨envOf (eTwo .nil 0), 90, []⟩ (heapOf 12 (hTwo db e0 N .nil b0 b1 b2 b3))

structure View2 where
  out : Out
  n : Nat
  marks : List Nat
  slots : List (Option Value)
  objs : List (Option AObj)
def view2 (x : Out × AAct × AHeap) : View2 :=
  match x with
  | (o, a, h) => { out := o, n := a.n, marks := a.marks, slots := [a.env.get 5, a.env.get 8, a.env.get 45, a.env.get 46, a.env.get 47], objs := [h.get 0, h.get 3, h.get 10, h.get 11] }
def viewTwo (out : Out) (db : List Value) (e0 : TypeId) (N : Int) (A : Acts) (b0 b1 b2 b3 : Bool) (k : Int) : View2 :=
  { out := out, n := 90, marks := [], slots := [some (.pointer (some ⟨3, 0, none⟩)), some (.pointer (some ⟨10, 0, none⟩)), some A.val2, some (.int .i64 (.ofNat A.num)), some (.int .i64 k)],
    objs := [some (.cells db e0 true false), some (.cells (.int .i64 N :: junks 14 []) 26 false false), some (.cells (.bool b0 :: .bool b1 :: .bool b2 :: .bool b3 :: falses 60) 35 false false), match A with | .nil => none | .row _ l => some (.cells l 42 false true)] }
def setB (b : Bool) (i1 : Nat) (b0 b1 b2 b3 : Bool) : Bool × Bool × Bool × Bool :=
  match i1 with
  | 0 => (b, b1, b2, b3)
  | 1 => (b0, b, b2, b3)
  | 2 => (b0, b1, b, b3)
  | _ => (b0, b1, b2, b)
def getB (i1 : Nat) (b0 b1 b2 b3 : Bool) : Bool :=
  match i1 with
  | 0 => b0
  | 1 => b1
  | 2 => b2
  | _ => b3

noncomputable def round2T (db : List Value) (e0 : TypeId) (N : Int) (n : Nat) (l : List Value) (b0 b1 b2 b3 : Bool) (k : Nat) (i1 : Nat) (kd : Int) : Tree View2 :=
  let ret := Tree.leaf (viewTwo .ret db e0 N (.row n l) b0 b1 b2 b3 (.ofNat k))
  let go := fun (b : Bool × Bool × Bool × Bool) => Tree.leaf (viewTwo .normal db e0 N (.row n l) b.1 b.2.1 b.2.2.1 b.2.2.2 (wrapF .i64 (.ofNat k + 1)))
  let b := getB i1 b0 b1 b2 b3
  .fork (ltI (.ofNat k) (.ofNat n))
    (.fork (isB ((indexAddrC Tryz.prog 36).run (.slice (some ⟨11, 0, none⟩) n n) (.int .i64 (.ofNat k)) = some (.pointer (some ⟨11, k * 9, none⟩))))
      (.fork (isB ((loadC Tryz.prog 42).run (heapOf 12 (hTwo db e0 N (.row n l) b0 b1 b2 b3)) (.pointer (some ⟨11, k * 9, none⟩)) = some (.agg #[.int .i64 kd, .int .i64 (.ofNat i1), .chan (some 0), .chan (some 0), .chan (some 0), .chan (some 0), .chan (some 0), .chan (some 0), .chan (some 0)])))
        (.fork (leI N (.ofNat i1)) ret
          (.fork (eqI kd 4) (.fork b ret (go (setB true i1 b0 b1 b2 b3)))
            (.fork (eqI kd 5) (.fork b (go (setB false i1 b0 b1 b2 b3)) ret)
              (.fork (eqI kd 7) (.fork b ret (go (b0, b1, b2, b3))) (go (b0, b1, b2, b3))))))
        .no) .no)
    (.leaf (viewTwo (.exit 2) db e0 N (.row n l) b0 b1 b2 b3 (.ofNat k)))

end Go.Ev

/- FamilyFew: rounds of its second loop, as trees. -/
namespace Go.Ev
open Go.Proofs Tree
set_option maxRecDepth 1000000

theorem two_0 (db : List Value) (e0 : TypeId) (N : Int) (n : Nat) (l : List Value) (b0 b1 b2 b3 : Bool) (k : Nat) (kd : Int) : (treeTwo db e0 N n l b0 b1 b2 b3 k 0 kd).map view2 = round2T db e0 N n l b0 b1 b2 b3 k 0 kd := by kernel_rfl
theorem two_1 (db : List Value) (e0 : TypeId) (N : Int) (n : Nat) (l : List Value) (b0 b1 b2 b3 : Bool) (k : Nat) (kd : Int) : (treeTwo db e0 N n l b0 b1 b2 b3 k 1 kd).map view2 = round2T db e0 N n l b0 b1 b2 b3 k 1 kd := by kernel_rfl
theorem two_2 (db : List Value) (e0 : TypeId) (N : Int) (n : Nat) (l : List Value) (b0 b1 b2 b3 : Bool) (k : Nat) (kd : Int) : (treeTwo db e0 N n l b0 b1 b2 b3 k 2 kd).map view2 = round2T db e0 N n l b0 b1 b2 b3 k 2 kd := by kernel_rfl
theorem two_3 (db : List Value) (e0 : TypeId) (N : Int) (n : Nat) (l : List Value) (b0 b1 b2 b3 : Bool) (k : Nat) (kd : Int) : (treeTwo db e0 N n l b0 b1 b2 b3 k 3 kd).map view2 = round2T db e0 N n l b0 b1 b2 b3 k 3 kd := by kernel_rfl
theorem two_nil (db : List Value) (e0 : TypeId) (N : Int) (b0 b1 b2 b3 : Bool) : (treeTwo0 db e0 N b0 b1 b2 b3).map view2 = .leaf (viewTwo (.exit 2) db e0 N .nil b0 b1 b2 b3 0) := by kernel_rfl
end Go.Ev

/- FamilyFew: its second loop. -/
namespace Go.Ev
open Go.Proofs Tree
set_option maxRecDepth 100000

/-! ### What is kept of an act -/
def Ac.bare (x : Ac) : List Value := [.int .i64 x.k, .int .i64 x.node, .chan (some 0), .chan (some 0), .chan (some 0), .chan (some 0), .chan (some 0), .chan (some 0), .chan (some 0)]
def bares (al : List Ac) : List Value := (al.map Ac.bare).flatten
theorem jrs_junks {ρ : Nat → Nat} {dom : List Nat} : ∀ (n : Nat) {c : List Value}, c.length = n → (∀ v ∈ c, oneCell v = true) → jrs ρ dom (junks n []) c
  | 0, c, h, _ => by cases c <;> simp at h; trivial
  | n + 1, [], h, _ => by simp at h
  | n + 1, v :: c, h, k => ⟨.inl ⟨rfl, k v (by simp)⟩, jrs_junks n (by simpa using h) fun u hu => k u (by simp [hu])⟩
theorem jrs_bares {ρ : Nat → Nat} {dom : List Nat} {N : Nat} : ∀ {al : List Ac}, (∀ x ∈ al, x.Ok N) → jrs ρ dom (bares al) (al.map Ac.cells).flatten
  | [], _ => trivial
  | x :: al, h => by
    have hx := h x (by simp)
    have h1 : jrs ρ dom x.bare x.cells := ⟨.inr ⟨rfl, rfl⟩, .inr ⟨rfl, rfl⟩, jrs_junks 7 hx.len hx.one⟩
    exact jrs_append h1 (jrs_bares (al := al) fun y hy => h y (by simp [hy]))
theorem bares_len : ∀ (al : List Ac), (bares al).length = al.length * 9
  | [] => rfl
  | x :: al => by
    have := bares_len al
    unfold bares at this ⊢
    simp only [List.map_cons, List.flatten_cons, List.length_append, Ac.bare, List.length_cons, List.length_nil, this]
    omega
theorem bares_get : ∀ (al : List Ac) (k : Nat) (x : Ac), al[k]? = some x → ((bares al).drop (k * 9)).take 9 = x.bare
  | [], _, _, h => by simp at h
  | y :: al, 0, x, h => by
    obtain rfl : y = x := by simpa using h
    rfl
  | y :: al, k + 1, x, h => by
    have e : (bares (y :: al)).drop ((k + 1) * 9) = (bares al).drop (k * 9) := by
      show (y.bare ++ bares al).drop ((k + 1) * 9) = _
      rw [show (k + 1) * 9 = y.bare.length + k * 9 by simp [Ac.bare]; omega, ← List.drop_drop, List.drop_left]
    rw [e]
    exact bares_get al k x (by simpa using h)

theorem act_elem : Tryz.prog.underlying 36 = some (.slice 42) := by kernel_rfl
theorem act_size : (Tryz.prog.info? 42).map (·.size) = some 9 := by kernel_rfl
theorem act_struct : (Tryz.prog.underlying 42).map isAggD = some true := by kernel_rfl
theorem act_addr {n k : Nat} (h : k < n) : (indexAddrC Tryz.prog 36).run (.slice (some ⟨11, 0, none⟩) n n) (.int .i64 (.ofNat k)) = some (.pointer (some ⟨11, k * 9, none⟩)) := by
  rw [indexAddrC_run]
  unfold indexAddrA
  obtain ⟨j, hj, hs⟩ := Option.map_eq_some_iff.1 act_size
  simp only [act_elem, hj]
  rw [if_pos ⟨by simp, by simp; omega⟩, hs]
  simp
theorem act_load {h : AHeap} {al : List Ac} {k : Nat} {x : Ac} {e : TypeId} {ro g : Bool} (hb : h.get 11 = some (.cells (bares al) e ro g)) (hx : al[k]? = some x) : (loadC Tryz.prog 42).run h (.pointer (some ⟨11, k * 9, none⟩)) = some (.agg #[.int .i64 x.k, .int .i64 x.node, .chan (some 0), .chan (some 0), .chan (some 0), .chan (some 0), .chan (some 0), .chan (some 0), .chan (some 0)]) := by
  rw [loadC_run]
  obtain ⟨j, hj, hs⟩ := Option.map_eq_some_iff.1 act_size
  obtain ⟨d, hd, ha⟩ := Option.map_eq_some_iff.1 act_struct
  have hk : k < al.length := (List.getElem?_eq_some_iff.1 hx).1
  simp only [loadA, hb, hd, ha, hj, if_true, hs, loadRow]
  rw [if_pos (by rw [bares_len]; omega), bares_get al k x hx]
  rfl

/-! ### The loop -/
def heapTwo (db : List Value) (e0 : TypeId) (N : Nat) (A : Acts) (b0 b1 b2 b3 : Bool) : AHeap := heapOf 12 (hTwo db e0 (.ofNat N) A b0 b1 b2 b3)
def envTwo (A : Acts) (k : Nat) : AAct := ⟨envOf (eTwo A (.ofNat k)), 90, []⟩

theorem sub_of_view2 {P : Program} (hG : P.globals.size = 1) {db : List Value} (hdb : db.all pv1 = true) {e0 : TypeId} {N : Nat} {n : Nat} {l : List Value} {b0 b1 b2 b3 : Bool} {k : Nat} {o out : Out} {a : AAct} {h : AHeap}
    (hl : ∀ v ∈ l, v = .chan (some 0) ∨ pv1 v = true) (hv : view2 (o, a, h) = viewTwo out db e0 (.ofNat N) (.row n l) b0 b1 b2 b3 (.ofNat k)) : o = out ∧ Sub P a h (envTwo (.row n l) k) (heapTwo db e0 N (.row n l) b0 b1 b2 b3) := by
  unfold view2 viewTwo at hv
  simp only [View2.mk.injEq, List.cons.injEq, and_true] at hv
  obtain ⟨ho, hn, hm, ⟨t5, t8, t45, t46, t47⟩, o0, o3, o10, o11⟩ := hv
  refine ⟨ho, Sub.red (ρ := id) ⟨hn, hm, fun p hp => ?_, fun p hp => ?_, fun b _ c _ h => h, fun g hg => ?_⟩⟩
  · simp only [eTwo, List.mem_cons, List.not_mem_nil, or_false] at hp
    rcases hp with rfl | rfl | rfl | rfl | rfl
    · exact ⟨rfl, t5⟩
    · exact ⟨rfl, t8⟩
    · exact ⟨rfl, t45⟩
    · exact ⟨rfl, t46⟩
    · exact ⟨rfl, t47⟩
  · simp only [hTwo, Acts.objs2, List.mem_cons, List.not_mem_nil, or_false] at hp
    rcases hp with rfl | rfl | rfl | rfl
    · exact ⟨by omega, _, o0, rfl, rfl, rfl, jrs_pv1 hdb⟩
    · exact ⟨by omega, _, o3, rfl, rfl, rfl, .inr ⟨rfl, rfl⟩, jrs_junks 14 rfl (by decide)⟩
    · exact ⟨by omega, _, o10, rfl, rfl, rfl, jrs_pv1 (by simp only [List.all_cons, pv1, Bool.true_and]; decide)⟩
    · refine ⟨by omega, _, o11, rfl, rfl, rfl, ?_⟩
      have : l.map jk = l := by
        have : ∀ v ∈ l, jk v = v := fun v hv => by
          rcases hl v hv with rfl | hp
          · rfl
          · unfold jk; rw [hp]
        rw [List.map_congr_left this, List.map_id']
      have h2 := jrs_jk (ρ := id) (dom := List.map (fun x => x.1) (hTwo db e0 (.ofNat N) (.row n l) b0 b1 b2 b3)) (c := l) fun v hv => by
        rcases hl v hv with rfl | hp
        · rfl
        · exact oneCell_pv1 hp
      rwa [this] at h2
  · rw [hG] at hg
    obtain rfl : g = 0 := by omega
    exact ⟨by simp [hTwo], rfl⟩

theorem bares_kept (al : List Ac) : ∀ v ∈ bares al, v = .chan (some 0) ∨ pv1 v = true := fun v hv => by
  obtain ⟨c, hc, hv⟩ := List.mem_flatten.1 hv
  obtain ⟨x, _, rfl⟩ := List.mem_map.1 hc
  simp only [Ac.bare, List.mem_cons, List.not_mem_nil, or_false] at hv
  rcases hv with rfl | rfl | rfl | rfl | rfl | rfl | rfl | rfl | rfl <;> first | exact .inl rfl | exact .inr rfl

theorem two_all (db : List Value) (e0 : TypeId) (N : Int) (n : Nat) (l : List Value) (b0 b1 b2 b3 : Bool) (k i1 : Nat) (kd : Int) (hi : i1 < 4) : (treeTwo db e0 N n l b0 b1 b2 b3 k i1 kd).map view2 = round2T db e0 N n l b0 b1 b2 b3 k i1 kd := by
  rcases (by omega : i1 = 0 ∨ i1 = 1 ∨ i1 = 2 ∨ i1 = 3) with rfl | rfl | rfl | rfl
  · exact two_0 ..
  · exact two_1 ..
  · exact two_2 ..
  · exact two_3 ..

theorem bits_or : ∀ d < 16, ∀ i < 4, ∀ j < 4, (d ||| 2 ^ i).testBit j = (decide (j = i) || d.testBit j) ∧ (d ||| 2 ^ i) < 16 := by decide +kernel
theorem bits_xor : ∀ d < 16, ∀ i < 4, d.testBit i = true → (d ^^^ 2 ^ i) < 16 ∧ ∀ j < 4, (d ^^^ 2 ^ i).testBit j = (!decide (j = i) && d.testBit j) := by decide +kernel

/-- Where a round of the second loop may lead. -/
def Leads2 (db : List Value) (e0 : TypeId) (N : Nat) (al : List Ac) (d : Nat) (k : Nat) (v : View2) : Prop :=
  (k < al.length ∧ ∃ d', d' < 16 ∧ play 0 (al.take (k + 1)) = some d' ∧ v = viewTwo .normal db e0 (.ofNat N) (.row al.length (bares al)) (d'.testBit 0) (d'.testBit 1) (d'.testBit 2) (d'.testBit 3) (.ofNat (k + 1))) ∨
  v = viewTwo (.exit 2) db e0 (.ofNat N) (.row al.length (bares al)) (d.testBit 0) (d.testBit 1) (d.testBit 2) (d.testBit 3) (.ofNat k)

theorem wrap_next {k : Nat} (h : k < 100000) : wrapF .i64 ((.ofNat k : Int) + 1) = .ofNat (k + 1) := by
  show wrapS 18446744073709551616 9223372036854775808 (.ofNat (k + 1)) = _
  simp only [wrapS]
  have e : (k + 1) % 18446744073709551616 = k + 1 := Nat.mod_eq_of_lt (by omega)
  rw [e, show Nat.blt (k + 1) 9223372036854775808 = true by rw [Nat.blt_eq]; omega]

theorem get_bit {d i : Nat} (hi : i < 4) : getB i (d.testBit 0) (d.testBit 1) (d.testBit 2) (d.testBit 3) = d.testBit i := by
  rcases (by omega : i = 0 ∨ i = 1 ∨ i = 2 ∨ i = 3) with rfl | rfl | rfl | rfl <;> rfl
theorem set_bit {d d' i : Nat} {b : Bool} (hi : i < 4) (h : ∀ j < 4, d'.testBit j = if j = i then b else d.testBit j) : setB b i (d.testBit 0) (d.testBit 1) (d.testBit 2) (d.testBit 3) = (d'.testBit 0, d'.testBit 1, d'.testBit 2, d'.testBit 3) := by
  rw [h 0 (by omega), h 1 (by omega), h 2 (by omega), h 3 (by omega)]
  rcases (by omega : i = 0 ∨ i = 1 ∨ i = 2 ∨ i = 3) with rfl | rfl | rfl | rfl <;> rfl

theorem round2T_all {db : List Value} {e0 : TypeId} {N : Nat} {al : List Ac} {d k i1 : Nat} {kd : Int} (hok : ∀ x ∈ al, x.Ok N) (hp : (play 0 al).isSome = true) (hlen : al.length < 100000) (hd : d < 16) (hpl : play 0 (al.take k) = some d) (hN : N ≤ 4)
    (hx : k < al.length → ∃ x : Ac, al[k]? = some x ∧ x.k = kd ∧ x.node = .ofNat i1) :
    (round2T db e0 (.ofNat N) al.length (bares al) (d.testBit 0) (d.testBit 1) (d.testBit 2) (d.testBit 3) k i1 kd).All (Leads2 db e0 N al d k) := by
  unfold round2T
  refine ⟨fun hlt => ?_, fun _ => .inr rfl⟩
  have hlt' : k < al.length := by
    rw [ltI_eq, decide_eq_true_eq] at hlt
    have : (k : Int) < al.length := hlt
    omega
  obtain ⟨x, hx1, rfl, hx3⟩ := hx hlt'
  have hxm : x ∈ al := List.mem_of_getElem? hx1
  have hxok := hok x hxm
  have hi1 : i1 < N := by have := hxok.hi; rw [hx3] at this; simpa using this
  have hi4 : i1 < 4 := by omega
  have htake : al.take (k + 1) = al.take k ++ [x] := by
    rw [List.take_add_one, hx1]; rfl
  have hstep : ∃ d', playA d x = some d' ∧ play 0 (al.take (k + 1)) = some d' := by
    have h1 : play 0 al = (play 0 (al.take (k + 1))).bind fun d' => play d' (al.drop (k + 1)) := by
      rw [← play_append, List.take_append_drop]
    rw [h1, htake, play_append, hpl] at hp
    simp only [Option.bind_some, play] at hp
    cases hpa : playA d x with
    | none => rw [hpa] at hp; simp at hp
    | some d' => exact ⟨d', rfl, by rw [htake, play_append, hpl]; simp [play, hpa]⟩
  obtain ⟨d', hpa, hpl'⟩ := hstep
  have go : ∀ d'', d'' < 16 → playA d x = some d'' → ∀ bs : Bool × Bool × Bool × Bool, bs = (d''.testBit 0, d''.testBit 1, d''.testBit 2, d''.testBit 3) →
      (Tree.leaf (viewTwo .normal db e0 (.ofNat N) (.row al.length (bares al)) bs.1 bs.2.1 bs.2.2.1 bs.2.2.2 (wrapF .i64 (.ofNat k + 1)))).All (Leads2 db e0 N al d k) := fun d'' h16 he bs hbs => by
    rw [hpa] at he; cases he
    subst hbs
    rw [wrap_next (by omega)]
    exact .inl ⟨hlt', d', h16, hpl', rfl⟩
  have hnode : x.node.toNat = i1 := by rw [hx3]; rfl
  rw [get_bit hi4]
  have hN' : leI (.ofNat N) (.ofNat i1) = false := by
    rw [leI_eq, decide_eq_false_iff_not]
    intro h
    have : (N : Int) ≤ i1 := h
    omega
  have h1 : isB ((indexAddrC Tryz.prog 36).run (.slice (some ⟨11, 0, none⟩) al.length al.length) (.int .i64 (.ofNat k)) = some (.pointer (some ⟨11, k * 9, none⟩))) = true := isB_true.2 (act_addr hlt')
  refine ⟨fun _ => ⟨fun _ => ⟨fun hb => (by rw [hN'] at hb; cases hb), fun _ => ⟨fun hk4 => ?_, fun hk4 => ⟨fun hk5 => ?_, fun hk5 => ⟨fun hk7 => ?_, fun hk7 => ?_⟩⟩⟩⟩, fun hb => ?_⟩, fun hb => by rw [h1] at hb; cases hb⟩
  · refine ⟨fun hb => ?_, fun hb => ?_⟩
    · rw [eqI_eq, beq_iff_eq] at hk4
      rw [playA, if_pos hk4, hnode, if_pos hb] at hpa; cases hpa
    · rw [eqI_eq, beq_iff_eq] at hk4
      have := bits_or d hd i1 hi4
      refine go (d ||| 2 ^ i1) (this 0 (by omega)).2 (by rw [playA, if_pos hk4, hnode, if_neg (by rw [hb]; decide)]) _ (set_bit hi4 fun j hj => ?_)
      rw [(this j hj).1]
      by_cases e : j = i1 <;> simp [e]
  · refine ⟨fun hb => ?_, fun hb => ?_⟩
    · rw [eqI_eq, beq_iff_eq] at hk5
      have hk4' : ¬ x.k = 4 := by rw [hk5]; decide
      have := bits_xor d hd i1 hi4 hb
      refine go (d ^^^ 2 ^ i1) this.1 (by rw [playA, if_neg hk4', if_pos hk5, hnode, if_pos hb]) _ (set_bit hi4 fun j hj => ?_)
      rw [this.2 j hj]
      by_cases e : j = i1 <;> simp [e]
    · rw [eqI_eq, beq_iff_eq] at hk5
      have hk4' : ¬ x.k = 4 := by rw [hk5]; decide
      rw [playA, if_neg hk4', if_pos hk5, hnode, if_neg (by rw [hb]; decide)] at hpa; cases hpa
  · refine ⟨fun hb => ?_, fun hb => ?_⟩
    · rw [eqI_eq, beq_iff_eq] at hk7
      have hk4' : ¬ x.k = 4 := by rw [hk7]; decide
      have hk5' : ¬ x.k = 5 := by rw [hk7]; decide
      rw [playA, if_neg hk4', if_neg hk5', if_pos hk7, hnode, if_pos hb] at hpa; cases hpa
    · rw [eqI_eq, beq_iff_eq] at hk7
      have hk4' : ¬ x.k = 4 := by rw [hk7]; decide
      have hk5' : ¬ x.k = 5 := by rw [hk7]; decide
      exact go d hd (by rw [playA, if_neg hk4', if_neg hk5', if_pos hk7, hnode, if_neg (by rw [hb]; decide)]) (d.testBit 0, d.testBit 1, d.testBit 2, d.testBit 3) rfl
  · rw [eqI_eq, beq_eq_false_iff_ne] at hk4 hk5 hk7
    exact go d hd (by rw [playA, if_neg hk4, if_neg hk5, if_neg hk7]) (d.testBit 0, d.testBit 1, d.testBit 2, d.testBit 3) rfl
  · rw [isB_false] at hb
    refine (hb ?_).elim
    rw [← hx3]
    exact act_load (e := 42) (ro := false) (g := true) (by rfl) hx1
end Go.Ev

/- FamilyFew: from its first loop to its end. -/
namespace Go.Ev
open Go.Proofs Tree
set_option maxRecDepth 1000000

theorem t9_row (db : List Value) (e0 : TypeId) (N : Int) (n : Nat) (l : List Value) : tree9 db e0 N (.row n l) = .leaf (m9 db e0 N (.row n l)) := by kernel_rfl
theorem t9_nil (db : List Value) (e0 : TypeId) (N : Int) : tree9 db e0 N .nil = .leaf (m9 db e0 N .nil) := by kernel_rfl
theorem o9_row (db : List Value) (e0 : TypeId) (N : Int) (n : Nat) (l : List Value) : (m9 db e0 N (.row n l)).1 = .normal := by kernel_rfl
theorem o9_nil (db : List Value) (e0 : TypeId) (N : Int) : (m9 db e0 N .nil).1 = .normal := by kernel_rfl
theorem t10_row (db : List Value) (e0 : TypeId) (N : Int) (n : Nat) (l : List Value) : (tree10 db e0 N (.row n l)).map (viewG [5, 8, 45, 46, 47] [0, 3, 9, 28]) =
    .fork (Nat.beq l.length (n * (Tryz.prog.types[42]!).size) && Nat.ble 1 n && Nat.ble (n * (Tryz.prog.types[42]!).bytes) room && Nat.ble n room && l.all oneCell)
      (.leaf ⟨.normal, 90, [], [.pointer (some ⟨3, 0, none⟩), .pointer (some ⟨9, 0, none⟩), .slice (some ⟨28, 0, none⟩) n n, .int .i64 (.ofNat n), .int .i64 0].map some,
        [.cells db e0 true false, .cells (.int .i64 N :: junks 14 []) 26 false false, .cells (falses 64) 35 false false, .cells l 42 false true].map some⟩) .no := by kernel_rfl
theorem t10_nil (db : List Value) (e0 : TypeId) (N : Int) : (tree10 db e0 N .nil).map (viewG [5, 8, 45, 46, 47] [0, 3, 9]) =
    .leaf ⟨.normal, 90, [], [.pointer (some ⟨3, 0, none⟩), .pointer (some ⟨9, 0, none⟩), .slice none 0 0, .int .i64 0, .int .i64 0].map some,
        [.cells db e0 true false, .cells (.int .i64 N :: junks 14 []) 26 false false, .cells (falses 64) 35 false false].map some⟩ := by kernel_rfl
theorem act_size2 : (Tryz.prog.types[42]!).size = 9 := by kernel_rfl

/-- What is kept behind the second loop. -/
def heapEnd (db : List Value) (e0 : TypeId) : AHeap := heapOf 1 [(0, .cells db e0 true false)]
def envEnd : AAct := ⟨envOf [], 90, []⟩

def rho9 : Nat → Nat := fun b => match b with | 10 => 9 | 11 => 28 | b => b

theorem falses_pv1 : ∀ n, (falses n).all pv1 = true
  | 0 => rfl
  | n + 1 => by simp [falses, pv1, falses_pv1 n]

theorem jrs_same' {ρ : Nat → Nat} {dom : List Nat} : jrs ρ dom (junks 14 []) (junks 14 []) := jrs_junks 14 rfl (by decide)
theorem jrs_drop {ρ : Nat → Nat} {dom : List Nat} : ∀ (n : Nat) {r c : List Value}, (c.take n).length = n → (c.take n).all oneCell = true → jrs ρ dom r (c.drop n) → jrs ρ dom (junks n r) c
  | 0, r, c, _, _, h => h
  | n + 1, r, [], h, _, _ => by simp at h
  | n + 1, r, v :: c, h, k, g => by
    simp only [List.take_succ_cons, List.all_cons, Bool.and_eq_true] at k
    exact ⟨.inl ⟨rfl, k.1⟩, jrs_drop n (by simpa using h) k.2 (by simpa using g)⟩

def fourFalse (db : List Value) (e0 : TypeId) (N : Nat) (A : Acts) : AHeap := heapTwo db e0 N A false false false false

section
variable {db : List Value} {e0 : TypeId} {N : Nat}

theorem globs {H : List (Nat × AObj)} {ρ : Nat → Nat} (h0 : 0 ∈ H.map (·.1)) (hr : ρ 0 = 0) : ∀ g, g < Tryz.prog.globals.size → g ∈ H.map (·.1) ∧ ρ g = g := fun g hg => by
  rw [zglobals_one] at hg
  obtain rfl : g = 0 := by omega
  exact ⟨h0, hr⟩

theorem go_row (hdb : db.all pv1 = true) {al : List Ac} (hok : ∀ x ∈ al, x.Ok N) (hlen : al.length < 100000) (h1 : 1 ≤ al.length) :
    Tri Tryz.prog reg10 (m9 db e0 (.ofNat N) (.row al.length (al.map Ac.cells).flatten)).2.1 (m9 db e0 (.ofNat N) (.row al.length (al.map Ac.cells).flatten)).2.2
      fun o a h => o = .normal ∧ Sub Tryz.prog a h (envTwo (.row al.length (bares al)) 0) (fourFalse db e0 N (.row al.length (bares al))) := by
  have hall : ((tree10 db e0 (.ofNat N) (.row al.length (al.map Ac.cells).flatten)).map (viewG [5, 8, 45, 46, 47] [0, 3, 9, 28])).All fun v => v = ⟨.normal, 90, [], [Value.pointer (some ⟨3, 0, none⟩), .pointer (some ⟨9, 0, none⟩), .slice (some ⟨28, 0, none⟩) al.length al.length, .int .i64 (.ofNat al.length), .int .i64 0].map some,
        [AObj.cells db e0 true false, .cells (.int .i64 (.ofNat N) :: junks 14 []) 26 false false, .cells (falses 64) 35 false false, .cells (al.map Ac.cells).flatten 42 false true].map some⟩ := by
    rw [t10_row]
    refine ⟨fun _ => rfl, fun hb => ?_⟩
    exfalso
    have hc : (Nat.beq (al.map Ac.cells).flatten.length (al.length * (Tryz.prog.types[42]!).size) && Nat.ble 1 al.length && Nat.ble (al.length * (Tryz.prog.types[42]!).bytes) room && Nat.ble al.length room && (al.map Ac.cells).flatten.all oneCell) = true := by
      rw [act_size2, act_bytes, flat_len hok]
      simp only [Bool.and_eq_true, Nat.ble_eq, room, Nat.beq_eq]
      refine ⟨⟨⟨⟨trivial, h1⟩, by omega⟩, by omega⟩, ?_⟩
      rw [List.all_eq_true]
      intro v hv
      obtain ⟨c, hc, hv⟩ := List.mem_flatten.1 hv
      obtain ⟨x, hx, rfl⟩ := List.mem_map.1 hc
      simp only [Ac.cells, List.mem_cons] at hv
      rcases hv with rfl | rfl | hv
      · rfl
      · rfl
      · exact (hok x hx).one v hv
    rw [hc] at hb; cases hb
  refine Tri.run oNone_okM (f := 3) (k := 300) (K := kMid _) rfl (Tree.All.mono (fun x hv => ?_) _ (All_map _ hall))
  obtain ⟨o, a, h⟩ := x
  obtain ⟨ho, hr⟩ := Red.ofH (P := Tryz.prog) (n := 90) (next := 12) (E := eTwo (.row al.length (bares al)) 0) (H := hTwo db e0 (.ofNat N) (.row al.length (bares al)) false false false false) (ρ := rho9) hv
    ⟨⟨rfl, rfl⟩, ⟨rfl, rfl⟩, ⟨rfl, rfl⟩, ⟨rfl, rfl⟩, ⟨rfl, rfl⟩, trivial⟩
    ⟨⟨Nat.le_of_ble_eq_true rfl, rfl, rfl, rfl, jrs_pv1 hdb⟩, ⟨Nat.le_of_ble_eq_true rfl, rfl, rfl, rfl, .inr ⟨rfl, rfl⟩, jrs_same' ⟩, ⟨Nat.le_of_ble_eq_true rfl, rfl, rfl, rfl, jrs_pv1 (by decide)⟩, ⟨Nat.le_of_ble_eq_true rfl, rfl, rfl, rfl, jrs_bares hok⟩, trivial⟩
    rfl (globs (by simp [hTwo]) rfl)
  exact ⟨ho, Sub.red hr⟩

theorem go_nil (hdb : db.all pv1 = true) :
    Tri Tryz.prog reg10 (m9 db e0 (.ofNat N) .nil).2.1 (m9 db e0 (.ofNat N) .nil).2.2 fun o a h => o = .normal ∧ Sub Tryz.prog a h (envTwo .nil 0) (fourFalse db e0 N .nil) := by
  have hall : ((tree10 db e0 (.ofNat N) .nil).map (viewG [5, 8, 45, 46, 47] [0, 3, 9])).All fun v => v = ⟨.normal, 90, [], [Value.pointer (some ⟨3, 0, none⟩), .pointer (some ⟨9, 0, none⟩), .slice none 0 0, .int .i64 0, .int .i64 0].map some,
        [AObj.cells db e0 true false, .cells (.int .i64 (.ofNat N) :: junks 14 []) 26 false false, .cells (falses 64) 35 false false].map some⟩ := by
    rw [t10_nil]; rfl
  refine Tri.run oNone_okM (f := 3) (k := 300) (K := kMid _) rfl (Tree.All.mono (fun x hv => ?_) _ (All_map _ hall))
  obtain ⟨o, a, h⟩ := x
  obtain ⟨ho, hr⟩ := Red.ofH (P := Tryz.prog) (n := 90) (next := 12) (E := eTwo .nil 0) (H := hTwo db e0 (.ofNat N) .nil false false false false) (ρ := rho9) hv
    ⟨⟨rfl, rfl⟩, ⟨rfl, rfl⟩, ⟨rfl, rfl⟩, ⟨rfl, rfl⟩, ⟨rfl, rfl⟩, trivial⟩
    ⟨⟨Nat.le_of_ble_eq_true rfl, rfl, rfl, rfl, jrs_pv1 hdb⟩, ⟨Nat.le_of_ble_eq_true rfl, rfl, rfl, rfl, .inr ⟨rfl, rfl⟩, jrs_same'⟩, ⟨Nat.le_of_ble_eq_true rfl, rfl, rfl, rfl, jrs_pv1 (by decide)⟩, trivial⟩
    rfl (globs (by simp [hTwo]) rfl)
  exact ⟨ho, Sub.red hr⟩

theorem bits0 (j : Nat) : (0 : Nat).testBit j = false := Nat.zero_testBit j

theorem sub_end (hdb : db.all pv1 = true) (A : Acts) (k : Nat) (b0 b1 b2 b3 : Bool) : Sub Tryz.prog (envTwo A k) (heapTwo db e0 N A b0 b1 b2 b3) envEnd (heapEnd db e0) := by
  have hv : viewG [] [0] (.normal, envTwo A k, heapTwo db e0 N A b0 b1 b2 b3) = ⟨.normal, 90, [], ([] : List Value).map some, [AObj.cells db e0 true false].map some⟩ := by
    cases A <;> rfl
  exact Sub.red (Red.ofH (P := Tryz.prog) (n := 90) (next := 1) (E := []) (H := [(0, .cells db e0 true false)]) (ρ := id) hv trivial ⟨⟨Nat.le_of_ble_eq_true rfl, rfl, rfl, rfl, jrs_pv1 hdb⟩, trivial⟩ rfl (globs (by simp) rfl)).2

theorem loop_row (hdb : db.all pv1 = true) {al : List Ac} (hok : ∀ x ∈ al, x.Ok N) (hp : (play 0 al).isSome = true) (hlen : al.length < 100000) (hN : N ≤ 4) :
    Tri Tryz.prog (.block 2 (.loop round2)) (envTwo (.row al.length (bares al)) 0) (fourFalse db e0 N (.row al.length (bares al))) fun o a h => o = .normal ∧ Sub Tryz.prog a h envEnd (heapEnd db e0) := by
  refine Tri.block ?_
  refine Tri.conseq (Tri.loop (P := Tryz.prog) (St := Nat) (fun k => al.length + 1 - k) (fun k a h => k ≤ al.length ∧ ∃ d, d < 16 ∧ play 0 (al.take k) = some d ∧ a = envTwo (.row al.length (bares al)) k ∧ h = heapTwo db e0 N (.row al.length (bares al)) (d.testBit 0) (d.testBit 1) (d.testBit 2) (d.testBit 3))
    (Q := fun o a' h' => o = .exit 2 ∧ Sub Tryz.prog a' h' envEnd (heapEnd db e0)) (fun k a h ⟨hk, d, hd, hpl, ha, hh⟩ => ?_) 0 _ _ ⟨by omega, 0, by omega, rfl, rfl, by simp only [bits0]; rfl⟩) (fun o a h ⟨ho, hq⟩ => ?_)
  · subst ha hh
    obtain ⟨i1, kd, hi4, hx⟩ : ∃ i1 kd, i1 < 4 ∧ (k < al.length → ∃ x : Ac, al[k]? = some x ∧ x.k = kd ∧ x.node = .ofNat i1) := by
      by_cases hl : k < al.length
      · have hm := hok al[k] (List.getElem_mem hl)
        obtain ⟨m, hm2⟩ := Int.eq_ofNat_of_zero_le hm.lo
        refine ⟨m, al[k].k, ?_, fun _ => ⟨al[k], List.getElem?_eq_getElem hl, rfl, hm2⟩⟩
        have := hm.hi
        rw [hm2] at this
        omega
      · exact ⟨0, 0, by omega, fun h => (hl h).elim⟩
    have hall := round2T_all (db := db) (e0 := e0) (d := d) hok hp hlen hd hpl hN hx
    rw [← two_all _ _ _ _ _ _ _ _ _ _ _ _ hi4] at hall
    refine Tri.run oNone_okM (f := 3) (k := 300) (K := kTwo k _) (t := treeTwo db e0 (.ofNat N) al.length (bares al) (d.testBit 0) (d.testBit 1) (d.testBit 2) (d.testBit 3) k i1 kd) rfl (Tree.All.mono (fun x hv => ?_) _ (All_map _ hall))
    obtain ⟨o, a', h'⟩ := x
    rcases hv with ⟨hlt, d', hd', hpl', hv⟩ | hv
    · obtain ⟨ho, hs⟩ := sub_of_view2 zglobals_one hdb (bares_kept al) hv
      subst ho
      exact ⟨k + 1, _, _, by omega, ⟨by omega, d', hd', hpl', rfl, rfl⟩, hs⟩
    · obtain ⟨ho, hs⟩ := sub_of_view2 zglobals_one hdb (bares_kept al) hv
      subst ho
      exact ⟨rfl, hs.trans (sub_end hdb _ _ _ _ _ _)⟩
  · subst ho
    simp only [if_true]
    exact ⟨trivial, hq⟩

theorem loop_nil (hdb : db.all pv1 = true) :
    Tri Tryz.prog (.block 2 (.loop round2)) (envTwo .nil 0) (fourFalse db e0 N .nil) fun o a h => o = .normal ∧ Sub Tryz.prog a h envEnd (heapEnd db e0) := by
  refine Tri.block ?_
  refine Tri.conseq (Tri.loop (P := Tryz.prog) (St := Nat) (fun k => k) (fun _ a h => a = envTwo .nil 0 ∧ h = heapTwo db e0 N .nil false false false false)
    (Q := fun o a' h' => o = .exit 2 ∧ Sub Tryz.prog a' h' envEnd (heapEnd db e0)) (fun k a h ⟨ha, hh⟩ => ?_) 0 _ _ ⟨rfl, rfl⟩) (fun o a h ⟨ho, hq⟩ => ?_)
  · subst ha hh
    have hall : ((treeTwo0 db e0 (.ofNat N) false false false false).map view2).All fun v => v = viewTwo (.exit 2) db e0 (.ofNat N) .nil false false false false 0 := by
      rw [two_nil]; rfl
    refine Tri.run oNone_okM (f := 3) (k := 300) (K := fun _ _ => none) rfl (Tree.All.mono (fun x hv => ?_) _ (All_map _ hall))
    obtain ⟨o, a', h'⟩ := x
    have hv' := hv
    unfold view2 viewTwo at hv'
    simp only [View2.mk.injEq, List.cons.injEq, and_true] at hv'
    obtain ⟨ho, hn, hm, _, o0, _⟩ := hv'
    subst ho
    refine ⟨rfl, Sub.red (Red.ofH (P := Tryz.prog) (o := .exit 2) (out := .exit 2) (n := 90) (next := 1) (E := []) (H := [(0, .cells db e0 true false)]) (ρ := id) (vs := []) (os := [AObj.cells db e0 true false]) ?_ trivial ⟨⟨Nat.le_of_ble_eq_true rfl, rfl, rfl, rfl, jrs_pv1 hdb⟩, trivial⟩ rfl (globs (by simp) rfl)).2⟩
    simp [viewG, hn, hm, o0]
  · subst ho
    simp only [if_true]
    exact ⟨trivial, hq⟩
end
end Go.Ev

/- FamilyFew: its first loop and all behind it. -/
namespace Go.Ev
open Go.Proofs Tree
set_option maxRecDepth 1000000

/-! ### works, and the answer -/
theorem otO_works : OracleOk Tryz.prog (otO (toT oWorks)) := by rw [otO_toT]; exact oWorks_ok
theorem t28 (e0 : TypeId) : ((evM Tryz.prog (toT oWorks) (fun _ _ => none) 300).code 3 none reg28 envEnd (heapEnd db e0)).map (viewG [4] []) = .leaf ⟨.ret, 90, [], [Value.bool true].map some, []⟩ := by kernel_rfl

/-- The function has answered true. -/
def Done (o : Out) (a : AAct) : Prop := (o = .normal ∨ o = .ret) ∧ a.marks = [] ∧ a.env.get 4 = some (.bool true)

theorem tri_28 (e0 : TypeId) : Tri Tryz.prog reg28 envEnd (heapEnd db e0) fun o a _ => Done o a := by
  have hall : (((evM Tryz.prog (toT oWorks) (fun _ _ => none) 300).code 3 none reg28 envEnd (heapEnd db e0)).map (viewG [4] [])).All fun v => v = ⟨.ret, 90, [], [Value.bool true].map some, []⟩ := by rw [t28]; rfl
  refine Tri.run otO_works (f := 3) (k := 300) (K := fun _ _ => none) rfl (Tree.All.mono (fun x hv => ?_) _ (All_map _ hall))
  obtain ⟨o, a, h⟩ := x
  unfold viewG at hv
  simp only [ViewG.mk.injEq, List.map_cons, List.map_nil, List.cons.injEq, and_true] at hv
  exact ⟨.inr hv.1, hv.2.2.1, hv.2.2.2⟩

theorem leaf_normal {P : Program} {c2 : Code} {Q : Out → AAct → AHeap → Prop} {m : Out × AAct × AHeap} (h : m.1 = .normal) (k : Tri P c2 m.2.1 m.2.2 Q) : (Tree.leaf m).All fun x => match x.1 with | .normal => Tri P c2 x.2.1 x.2.2 Q | o => Q o x.2.1 x.2.2 := by
  obtain ⟨o, a, h'⟩ := m
  simp only at h
  subst h
  exact k

theorem rest_eq : rest1 = .seq reg9 (.seq (.seq reg10 (.block 2 (.loop round2))) reg28) := by kernel_rfl

theorem tri_rest {e0 : TypeId} {N : Nat} {A : Acts} {al : List Ac} (hA : AOf A al) (hok : ∀ x ∈ al, x.Ok N) (hp : (play 0 al).isSome = true) (hlen : al.length < 100000) (hN : N ≤ 4) :
    Tri Tryz.prog rest1 ⟨envOf eMid, 90, []⟩ (heapOf 9 (hMid db e0 (.ofNat N) A)) fun o a _ => Done o a := by
  rw [rest_eq]
  cases A with
  | nil =>
    refine Tri.seq (Tri.run oNone_okM (f := 3) (k := 300) (K := kMid .nil) (t9_nil db e0 (.ofNat N)) (leaf_normal (o9_nil ..) ?_))
    refine Tri.seq (Tri.seq (Tri.conseq (go_nil db_plain) fun o a h ⟨ho, hs⟩ => ?_))
    subst ho
    refine Tri.sub hs (Tri.conseq (loop_nil db_plain) fun o a h ⟨ho, hs⟩ => ?_)
    subst ho
    exact Tri.sub hs (tri_28 e0)
  | row n l =>
    obtain ⟨rfl, rfl, hne⟩ := hA
    refine Tri.seq (Tri.run oNone_okM (f := 3) (k := 300) (K := kMid (.row al.length (al.map Ac.cells).flatten)) (t9_row db e0 (.ofNat N) _ _) (leaf_normal (o9_row ..) ?_))
    refine Tri.seq (Tri.seq (Tri.conseq (go_row db_plain hok hlen (List.length_pos_iff.2 hne)) fun o a h ⟨ho, hs⟩ => ?_))
    subst ho
    refine Tri.sub hs (Tri.conseq (loop_row db_plain hok hp hlen hN) fun o a h ⟨ho, hs⟩ => ?_)
    subst ho
    exact Tri.sub hs (tri_28 e0)

/-! ### From the first loop -/
theorem one_cells {A : Acts} {al : List Ac} {N : Nat} (hA : AOf A al) (hok : ∀ x ∈ al, x.Ok N) (hc : A.canon = A) {ρ : Nat → Nat} {dom : List Nat} : ∀ n l, A = .row n l → jrs ρ dom l l := by
  rintro n l rfl
  simp only [Acts.canon, Acts.row.injEq, true_and] at hc
  have : jrs ρ dom (l.map jk) l := jrs_jk fun v hv => by
    obtain ⟨_, rfl, _⟩ := hA
    obtain ⟨c, hc, hv⟩ := List.mem_flatten.1 hv
    obtain ⟨x, hx, rfl⟩ := List.mem_map.1 hc
    simp only [Ac.cells, List.mem_cons] at hv
    rcases hv with rfl | rfl | hv
    · rfl
    · rfl
    · exact (hok x hx).one v hv
  rwa [hc] at this

theorem sub_mid {q : Fix} {s : St} {i : Nat} {d f : Nat} {al : List Ac} (hq : q.db = db) (h : Good q i s d f al) (hc : s.A.canon = s.A) : Sub Tryz.prog (envF q i) (heapF q s) ⟨envOf eMid, 90, []⟩ (heapOf 9 (hMid db q.e0 (.ofNat q.N) s.A)) := by
  obtain ⟨qdb, e0, e1, bs, N, c, L, cap⟩ := q
  obtain ⟨D, Fy, s0, s1, s2, s3, A⟩ := s
  simp only at hq
  subst hq
  have hmk : ∀ dom : List Nat, okR1 dom A.val = true → ren1 id A.val = A.val → jrs id dom (junks 82 [A.val]) (cellsM (.ofNat N) c D Fy s0 s1 s2 s3 A.val) := fun dom h1 h2 =>
    jrs_drop 82 rfl rfl ⟨.inr ⟨h1, h2.symm⟩, trivial⟩
  cases hA : A with
  | nil =>
    subst hA
    have hv : viewG (eMid.map (·.1)) ((hMid db e0 (.ofNat N) .nil).map fun p => id p.1) (.normal, envF ⟨db, e0, e1, bs, N, c, L, cap⟩ i, heapF ⟨db, e0, e1, bs, N, c, L, cap⟩ ⟨D, Fy, s0, s1, s2, s3, .nil⟩) =
      ⟨.normal, 90, [], [Value.pointer (some ⟨3, 0, none⟩), .pointer (some ⟨5, 0, none⟩)].map some, [AObj.cells db e0 true false, .cells (cellsC (.ofNat N) (.slice (some ⟨4, 0, none⟩) (linkN N) (linkN N)) c) 26 false false, .cells (cellsM (.ofNat N) c D Fy s0 s1 s2 s3 (.slice none 0 0)) 53 false false].map some⟩ := rfl
    exact Sub.red (Red.ofH (P := Tryz.prog) (next := 9) hv ⟨⟨rfl, rfl⟩, ⟨rfl, rfl⟩, trivial⟩
      ⟨⟨Nat.le_of_ble_eq_true rfl, rfl, rfl, rfl, jrs_pv1 db_plain⟩, ⟨Nat.le_of_ble_eq_true rfl, rfl, rfl, rfl, .inr ⟨rfl, rfl⟩, jrs_junks 14 rfl (by simp [cellsC, oneCell])⟩, ⟨Nat.le_of_ble_eq_true rfl, rfl, rfl, rfl, hmk _ rfl rfl⟩, trivial⟩
      rfl (globs (by simp [hMid]) rfl)).2
  | row n l =>
    subst hA
    have hv : viewG (eMid.map (·.1)) ((hMid db e0 (.ofNat N) (.row n l)).map fun p => id p.1) (.normal, envF ⟨db, e0, e1, bs, N, c, L, cap⟩ i, heapF ⟨db, e0, e1, bs, N, c, L, cap⟩ ⟨D, Fy, s0, s1, s2, s3, .row n l⟩) =
      ⟨.normal, 90, [], [Value.pointer (some ⟨3, 0, none⟩), .pointer (some ⟨5, 0, none⟩)].map some, [AObj.cells db e0 true false, .cells (cellsC (.ofNat N) (.slice (some ⟨4, 0, none⟩) (linkN N) (linkN N)) c) 26 false false, .cells (cellsM (.ofNat N) c D Fy s0 s1 s2 s3 (.slice (some ⟨8, 0, none⟩) n n)) 53 false false, .cells l 42 false true].map some⟩ := rfl
    exact Sub.red (Red.ofH (P := Tryz.prog) (next := 9) hv ⟨⟨rfl, rfl⟩, ⟨rfl, rfl⟩, trivial⟩
      ⟨⟨Nat.le_of_ble_eq_true rfl, rfl, rfl, rfl, jrs_pv1 db_plain⟩, ⟨Nat.le_of_ble_eq_true rfl, rfl, rfl, rfl, .inr ⟨rfl, rfl⟩, jrs_junks 14 rfl (by simp [cellsC, oneCell])⟩, ⟨Nat.le_of_ble_eq_true rfl, rfl, rfl, rfl, hmk _ rfl rfl⟩,
        ⟨Nat.le_of_ble_eq_true rfl, rfl, rfl, rfl, one_cells h.acts h.ok hc n l rfl⟩, trivial⟩
      rfl (globs (by simp [hMid]) rfl)).2
end Go.Ev
