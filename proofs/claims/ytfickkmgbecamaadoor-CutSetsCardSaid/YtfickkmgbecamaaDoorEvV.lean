/- The evaluator's run in its own order, seen from some place in it. -/
import Derived.Test.YtfickkmgbecamaaDoorEvU
namespace Go.Ev

/-! ### Equal values -/

theorem zip_same {n : Nat} (ih : ∀ u v, sameV n u v = true → u = v) : ∀ {a b : List Value}, a.length = b.length → (a.zip b).all (fun (x, y) => sameV n x y) = true → a = b
  | [], [], _, _ => rfl
  | [], _ :: _, h, _ => by simp at h
  | _ :: _, [], h, _ => by simp at h
  | x :: xs, y :: ys, hl, h => by
    simp only [List.zip_cons_cons, List.all_cons, Bool.and_eq_true] at h
    rw [ih x y h.1, zip_same ih (by simpa using hl) h.2]

theorem arr_same {n : Nat} (ih : ∀ u v, sameV n u v = true → u = v) {a b : Array Value} (hs : (a.size == b.size) = true) (h : (a.toList.zip b.toList).all (fun (x, y) => sameV n x y) = true) : a = b := by
  apply Array.toList_inj.1
  exact zip_same ih (by simpa using hs) h

theorem sameV_eq : ∀ (n : Nat) (u v : Value), sameV n u v = true → u = v := by
  intro n
  induction n with
  | zero =>
    intro u v h
    unfold sameV at h
    split at h <;> simp_all [ByteArray.ext_iff]
  | succ n ih =>
    intro u v h
    cases u <;> cases v <;> simp only [sameV, Bool.false_eq_true, Bool.and_eq_true] at h
    case func.func f a c g b d =>
      obtain ⟨⟨⟨⟨h1, h2⟩, h3⟩, h4⟩, h5⟩ := h
      rw [arr_same ih h2 h4, arr_same ih h3 h5]
      simp_all
    case agg.agg a b => rw [arr_same ih h.1 h.2]
    case tuple.tuple a b => rw [arr_same ih h.1 h.2]
    all_goals simp_all [ByteArray.ext_iff]

end Go.Ev
