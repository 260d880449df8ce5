/- What is suggested of the small clusters. -/
import Derived.Test.YtfickkmgbecamaaGreatDoorFewTd
namespace Go.Ev
open Go.Proofs Tree
set_option maxRecDepth 1000000

theorem sg_210 (e : TypeId) (g : Bool) (F : Int) : ((evC Tryz.prog oSf 3000).call 32 (sgArgs 2 1 F 1 0) (rowHeap (linksOf 2) e g)).map (·.1) = some (sgAns 2 1 F 1 0) := by kernel_rfl
theorem sg_211 (e : TypeId) (g : Bool) (F : Int) : ((evC Tryz.prog oSf 3000).call 32 (sgArgs 2 1 F 1 1) (rowHeap (linksOf 2) e g)).map (·.1) = some (sgAns 2 1 F 1 1) := by kernel_rfl
theorem sg_220 (e : TypeId) (g : Bool) (F : Int) : ((evC Tryz.prog oSf 3000).call 32 (sgArgs 2 1 F 2 0) (rowHeap (linksOf 2) e g)).map (·.1) = some (sgAns 2 1 F 2 0) := by kernel_rfl
theorem sg_221 (e : TypeId) (g : Bool) (F : Int) : ((evC Tryz.prog oSf 3000).call 32 (sgArgs 2 1 F 2 1) (rowHeap (linksOf 2) e g)).map (·.1) = some (sgAns 2 1 F 2 1) := by kernel_rfl
theorem sg_310 (e : TypeId) (g : Bool) (F : Int) : ((evC Tryz.prog oSf 3000).call 32 (sgArgs 3 1 F 1 0) (rowHeap (linksOf 3) e g)).map (·.1) = some (sgAns 3 1 F 1 0) := by kernel_rfl
theorem sg_311 (e : TypeId) (g : Bool) (F : Int) : ((evC Tryz.prog oSf 3000).call 32 (sgArgs 3 1 F 1 1) (rowHeap (linksOf 3) e g)).map (·.1) = some (sgAns 3 1 F 1 1) := by kernel_rfl
end Go.Ev
