/- angeluslaw53.FamilyNil by the evaluator: true, whatever the configuration. -/
import Derived.Test.YtfickkmgbecamaaGreatDoorWorks
namespace Go.Ev
open Go.Proofs
set_option maxRecDepth 1000000

/-- A configuration: its fifteen cells. -/
def cfg (N : Int) (L : Value) (F a b c d e f g s hi fl q bo : Int) : Value :=
  .agg #[.int .i64 N, L, .int .i64 F, .int .i64 a, .int .i64 b, .int .i64 c, .int .i64 d, .int .i64 e, .int .i64 f, .int .i64 g, .int .i64 s, .int .i64 hi, .int .i64 fl, .int .i64 q, .int .i64 bo]

/-- The start without links. -/
def hN (e : TypeId) : AHeap := { tr := .node .leaf (some (.cells db e true false)) .leaf, next := 2 }
/-- The start: the table, and the first link. -/
def hL (e : TypeId) (c : List Value) (e' : TypeId) : AHeap := { tr := .node (.node .leaf (some (.cells c e' true false)) .leaf) (some (.cells db e true false)) .leaf, next := 2 }

theorem nil_none (e : TypeId) (N F a b c d f g i s hi fl q bo x : Int) :
    ((evC Tryz.prog oWorks 60).call 4 #[cfg N (.slice none 0 0) F a b c d f g i s hi fl q bo, .int .u8 x] (hN e)).map (·.1) = some (.bool true) := by kernel_rfl

theorem nil_empty (e : TypeId) (N F a b c d f g i s hi fl q bo x : Int) :
    ((evC Tryz.prog oWorks 60).call 4 #[cfg N (.slice (some ⟨1, 0, some 0⟩) 0 0) F a b c d f g i s hi fl q bo, .int .u8 x] (hN e)).map (·.1) = some (.bool true) := by kernel_rfl

theorem nil_link (e e' : TypeId) (l m : Nat) (y z : Int) (N F a b c d f g i s hi fl q bo x : Int) :
    ((evC Tryz.prog oWorks 60).call 4 #[cfg N (.slice (some ⟨1, 0, none⟩) (l + 1) m) F a b c d f g i s hi fl q bo, .int .u8 x] (hL e [.int .i64 y, .int .i64 z] e')).map (·.1) = some (.bool true) := by
  rcases y with (_ | y) | y <;> rcases z with (_ | z) | z <;> kernel_rfl
end Go.Ev
