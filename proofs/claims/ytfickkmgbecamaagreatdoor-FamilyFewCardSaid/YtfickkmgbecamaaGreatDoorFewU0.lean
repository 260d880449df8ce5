/- FamilyFew: what stands ahead of its first loop. -/
import Derived.Test.YtfickkmgbecamaaGreatDoorFewP
namespace Go.Ev
open Go.Proofs Tree
set_option maxRecDepth 1000000

theorem pre0000 (e e1 : TypeId) (bs : List Value) (a b c d : Int) (bv : Value) : (treePre e e1 bs a b c d bv 0 0 0 0).map (viewG [1, 4, 5, 6, 7] [0, 1, 13, 80, 866, 2983, 2981]) = preT a b c d 0 2 0 0 0 (preV e e1 bs bv 2 (numsOf 2 0 0 0) 13 80 866 2983 2981) := by kernel_rfl
theorem pre1000 (e e1 : TypeId) (bs : List Value) (a b c d : Int) (bv : Value) : (treePre e e1 bs a b c d bv 1 0 0 0).map (viewG [1, 4, 5, 6, 7] [0, 1, 13, 122, 1198, 3767, 3765]) = preT a b c d 1 3 0 0 0 (preV e e1 bs bv 3 (numsOf 3 0 0 0) 13 122 1198 3767 3765) := by kernel_rfl
theorem pre1200 (e e1 : TypeId) (bs : List Value) (a b c d : Int) (bv : Value) : (treePre e e1 bs a b c d bv 1 2 0 0).map (viewG [1, 4, 5, 6, 7] [0, 1, 13, 122, 1198, 6237, 6235]) = preT a b c d 1 3 2 0 0 (preV e e1 bs bv 3 (numsOf 3 2 0 0) 13 122 1198 6237 6235) := by kernel_rfl
theorem pre2100 (e e1 : TypeId) (bs : List Value) (a b c d : Int) (bv : Value) : (treePre e e1 bs a b c d bv 2 1 0 0).map (viewG [1, 4, 5, 6, 7] [0, 1, 13, 177, 2033, 7383, 7381]) = preT a b c d 2 3 1 0 0 (preV e e1 bs bv 4 (numsOf 4 1 0 0) 13 177 2033 7383 7381) := by kernel_rfl
end Go.Ev
