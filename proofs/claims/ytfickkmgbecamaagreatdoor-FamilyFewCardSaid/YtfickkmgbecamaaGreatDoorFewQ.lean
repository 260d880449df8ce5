/- Answers laid by hand, of small full graphs: does a set cut it; is it safe. -/
import Derived.Test.YtfickkmgbecamaaGreatDoorFewO
namespace Go.Ev
open Go.Proofs Tree
set_option maxRecDepth 1000000

/-! ### Cuts, of four nodes -/
def cuArgs (b s : Nat) : Array Value := #[gV 4 b, .int .u64 (.ofNat s)]
theorem cu_0 (e : TypeId) (g : Bool) : ((evC Tryz.prog oLk 3000).call 69 (cuArgs 1 0) (rowHeap (linksOf 4) e g)).map (·.1) = some (.bool false) := by kernel_rfl
theorem cu_1 (e : TypeId) (g : Bool) : ((evC Tryz.prog oLk 3000).call 69 (cuArgs 1 1) (rowHeap (linksOf 4) e g)).map (·.1) = some (.bool false) := by kernel_rfl
theorem cu_2 (e : TypeId) (g : Bool) : ((evC Tryz.prog oLk 3000).call 69 (cuArgs 1 2) (rowHeap (linksOf 4) e g)).map (·.1) = some (.bool false) := by kernel_rfl
theorem cu_4 (e : TypeId) (g : Bool) : ((evC Tryz.prog oLk 3000).call 69 (cuArgs 1 4) (rowHeap (linksOf 4) e g)).map (·.1) = some (.bool false) := by kernel_rfl
theorem cu_8 (e : TypeId) (g : Bool) : ((evC Tryz.prog oLk 3000).call 69 (cuArgs 1 8) (rowHeap (linksOf 4) e g)).map (·.1) = some (.bool false) := by kernel_rfl
theorem cu_3 (e : TypeId) (g : Bool) : ((evC Tryz.prog oLk 3000).call 69 (cuArgs 1 3) (rowHeap (linksOf 4) e g)).map (·.1) = some (.bool false) := by kernel_rfl
theorem cu_5 (e : TypeId) (g : Bool) : ((evC Tryz.prog oLk 3000).call 69 (cuArgs 1 5) (rowHeap (linksOf 4) e g)).map (·.1) = some (.bool false) := by kernel_rfl
theorem cu_6 (e : TypeId) (g : Bool) : ((evC Tryz.prog oLk 3000).call 69 (cuArgs 1 6) (rowHeap (linksOf 4) e g)).map (·.1) = some (.bool false) := by kernel_rfl
theorem cu_9 (e : TypeId) (g : Bool) : ((evC Tryz.prog oLk 3000).call 69 (cuArgs 1 9) (rowHeap (linksOf 4) e g)).map (·.1) = some (.bool false) := by kernel_rfl
theorem cu_10 (e : TypeId) (g : Bool) : ((evC Tryz.prog oLk 3000).call 69 (cuArgs 1 10) (rowHeap (linksOf 4) e g)).map (·.1) = some (.bool false) := by kernel_rfl
theorem cu_12 (e : TypeId) (g : Bool) : ((evC Tryz.prog oLk 3000).call 69 (cuArgs 1 12) (rowHeap (linksOf 4) e g)).map (·.1) = some (.bool false) := by kernel_rfl
end Go.Ev
