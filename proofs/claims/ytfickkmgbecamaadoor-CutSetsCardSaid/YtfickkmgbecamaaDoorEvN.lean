/- An operation amid a region; rounds of loops over functions; regions in one order. -/
import Derived.Test.YtfickkmgbecamaaDoorEvM
namespace Go.Ev

section next
variable {P : Program} {h h' : AHeap} {v : Value}

theorem new_next {b : Nat} {o : AObj} (hn : h.new b o = some h') : h'.next = h.next := by
  unfold AHeap.new at hn
  split at hn <;> cases hn
  rfl

theorem newA_next {id : Nat} {e : TypeId} {cs : List Value} {g : Bool} {u : Value} (hn : newA P h id e cs g u = some (v, h')) : h'.next = h.next := by
  unfold newA at hn
  split at hn
  · simp only [Option.map_eq_some_iff, Prod.mk.injEq] at hn
    obtain ⟨a, ha, _, rfl⟩ := hn
    exact new_next ha
  · cases hn

theorem storeA_next {t : TypeId} {a x : Value} (hn : storeA P h t a x = some h') : h'.next = h.next := by
  unfold storeA at hn
  repeat' split at hn
  all_goals first | (cases hn; done) | (cases hn; rfl)

theorem mapUpdateA_next {m k x : Value} {t : TypeId} (hn : mapUpdateA P h t m k x = some h') : h'.next = h.next := by
  unfold mapUpdateA at hn
  repeat' split at hn
  all_goals first | (cases hn; done) | (cases hn; rfl)

theorem mapEntryA_next {m k : Value} {t : TypeId} (hn : mapEntryA P h t m k = some (v, h')) : h'.next = h.next := by
  unfold mapEntryA at hn
  repeat' split at hn
  all_goals first | (cases hn; done) | (cases hn; rfl)

theorem entryStoreA_next {m k x : Value} (hn : entryStoreA h m k x = some h') : h'.next = h.next := by
  unfold entryStoreA at hn
  repeat' split at hn
  all_goals first | (cases hn; done) | (cases hn; rfl)

theorem deleteA_next {m k : Value} {t : TypeId} (hn : deleteA P h t m k = some h') : h'.next = h.next := by
  unfold deleteA at hn
  repeat' split at hn
  all_goals first | (cases hn; done) | (cases hn; rfl)

theorem appendA_next {id : Nat} {ts : Array TypeId} {args : Array Value} (hn : appendA P h id ts args = some (v, h')) : h'.next = h.next := by
  unfold appendA at hn
  repeat' split at hn
  all_goals first | (cases hn; done) | (cases hn; rfl) | exact newA_next hn | exact (newA_next hn).trans rfl

theorem copyA_next {ts : Array TypeId} {args : Array Value} (hn : copyA P h ts args = some (v, h')) : h'.next = h.next := by
  unfold copyA at hn
  repeat' split at hn
  all_goals first | (cases hn; done) | (cases hn; rfl)

theorem buildSliceA_next {id : Nat} {t : TypeId} {len : Nat} {ps : List (Nat × Value)} (hn : buildSliceA P h id t len ps = some (v, h')) : h'.next = h.next := by
  unfold buildSliceA at hn
  repeat' split at hn
  all_goals first | (cases hn; done) | exact newA_next hn

theorem makeSliceA_next {id : Nat} {t : TypeId} {l c : Value} (hn : makeSliceA P h id t l c = some (v, h')) : h'.next = h.next := by
  unfold makeSliceA at hn
  repeat' split at hn
  all_goals first | (cases hn; done) | exact newA_next hn

theorem builtinA_next {id : Nat} {b : Builtin} {ts : Array TypeId} {args : Array Value} (hn : builtinA P h id b ts args = some (v, h')) : h'.next = h.next := by
  unfold builtinA at hn
  repeat' split at hn
  all_goals first | (cases hn; done) | exact appendA_next hn | exact copyA_next hn | skip
  all_goals (simp only [Option.map_eq_some_iff, Prod.mk.injEq] at hn; obtain ⟨r, hr, _, rfl⟩ := hn; first | rfl | exact deleteA_next hr)

theorem opA_next {id : Nat} {e : Tr Value} {o : Oper} (hn : opA P h id e o = some (v, h')) : h'.next = h.next := by
  unfold opA at hn
  repeat' split at hn
  all_goals (try simp only [Option.map_eq_some_iff, Option.bind_eq_some_iff, Prod.mk.injEq, Option.some.injEq] at hn)
  all_goals first
    | (cases hn; done)
    | (obtain ⟨_, _, _, rfl⟩ := hn; rfl)
    | (obtain ⟨_, rfl⟩ := hn; rfl)
    | exact newA_next hn
    | (obtain ⟨_, _, hn⟩ := hn; exact newA_next hn)
    | (obtain ⟨_, _, _, _, _, rfl⟩ := hn; rfl)
    | (obtain ⟨_, _, hn⟩ := hn; exact buildSliceA_next hn)
    | (obtain ⟨_, _, _, _, _, hn, _, rfl⟩ := hn; exact storeA_next hn)
    | (obtain ⟨_, _, _, _, _, _, _, rfl⟩ := hn; rfl)
    | (obtain ⟨_, hn, _, rfl⟩ := hn; exact new_next hn)
    | (obtain ⟨_, _, _, _, hn⟩ := hn; exact makeSliceA_next hn)
    | (obtain ⟨_, _, _, _, _, _, _, _, _, _, _, rfl⟩ := hn; rfl)
    | (obtain ⟨_, _, _, _, _, _, _, hn, _, rfl⟩ := hn; exact mapUpdateA_next hn)
    | (obtain ⟨_, _, _, _, hn⟩ := hn; exact mapEntryA_next hn)
    | (obtain ⟨_, _, _, _, _, _, _, hn, _, rfl⟩ := hn; exact entryStoreA_next hn)
    | (obtain ⟨_, _, hn⟩ := hn; exact builtinA_next hn)
end next
end Go.Ev
