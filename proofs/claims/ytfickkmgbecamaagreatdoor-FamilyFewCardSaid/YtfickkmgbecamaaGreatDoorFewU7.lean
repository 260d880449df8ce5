/- FamilyFew: what stands ahead of its first loop. -/
import Derived.Test.YtfickkmgbecamaaGreatDoorFewP
namespace Go.Ev
open Go.Proofs Tree
set_option maxRecDepth 1000000

theorem pre0111 (e e1 : TypeId) (bs : List Value) (a b c d : Int) (bv : Value) : (treePre e e1 bs a b c d bv 0 1 1 1).map (viewG [1, 4, 5, 6, 7] [0, 1, 13, 80, 866, 3708, 3706]) = preT a b c d 0 2 1 1 1 (preV e e1 bs bv 2 (numsOf 2 1 1 1) 13 80 866 3708 3706) := by kernel_rfl
theorem pre1111 (e e1 : TypeId) (bs : List Value) (a b c d : Int) (bv : Value) : (treePre e e1 bs a b c d bv 1 1 1 1).map (viewG [1, 4, 5, 6, 7] [0, 1, 13, 122, 1198, 5182, 5180]) = preT a b c d 1 3 1 1 1 (preV e e1 bs bv 3 (numsOf 3 1 1 1) 13 122 1198 5182 5180) := by kernel_rfl
theorem pre2011 (e e1 : TypeId) (bs : List Value) (a b c d : Int) (bv : Value) : (treePre e e1 bs a b c d bv 2 0 1 1).map (viewG [1, 4, 5, 6, 7] [0, 1, 13, 177, 2033, 5246, 5244]) = preT a b c d 2 3 0 1 1 (preV e e1 bs bv 4 (numsOf 4 0 1 1) 13 177 2033 5246 5244) := by kernel_rfl
theorem pre2211 (e e1 : TypeId) (bs : List Value) (a b c d : Int) (bv : Value) : (treePre e e1 bs a b c d bv 2 2 1 1).map (viewG [1, 4, 5, 6, 7] [0, 1, 13, 177, 2033, 10148, 10146]) = preT a b c d 2 3 2 1 1 (preV e e1 bs bv 4 (numsOf 4 2 1 1) 13 177 2033 10148 10146) := by kernel_rfl
end Go.Ev
