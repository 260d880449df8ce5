/- CutSets, at seven and eight nodes. -/
import Derived.Test.YtfickkmgbecamaaDoorSetsC
namespace Go.Ev
open Go.Proofs
set_option maxRecDepth 1000000

theorem t70 (e : TypeId) (a b x : Int) : ((evN Tryd.prog oWorks (kSets 7 0) 400).call 5 #[.int .u8 a, .int .u8 b, .int .u16 x] (hD e)).map (·.1) = wholeT a b x 7 0 1 := by kernel_rfl
theorem t71 (e : TypeId) (a b x : Int) : ((evN Tryd.prog oWorks (kSets 7 1) 400).call 5 #[.int .u8 a, .int .u8 b, .int .u16 x] (hD e)).map (·.1) = wholeT a b x 7 1 8 := by kernel_rfl
theorem t72 (e : TypeId) (a b x : Int) : ((evN Tryd.prog oWorks (kSets 7 2) 400).call 5 #[.int .u8 a, .int .u8 b, .int .u16 x] (hD e)).map (·.1) = wholeT a b x 7 2 29 := by kernel_rfl
theorem t73 (e : TypeId) (a b x : Int) : ((evN Tryd.prog oWorks (kSets 7 3) 400).call 5 #[.int .u8 a, .int .u8 b, .int .u16 x] (hD e)).map (·.1) = wholeT a b x 7 3 64 := by kernel_rfl
theorem t74 (e : TypeId) (a b x : Int) : ((evN Tryd.prog oWorks (kSets 7 4) 400).call 5 #[.int .u8 a, .int .u8 b, .int .u16 x] (hD e)).map (·.1) = wholeT a b x 7 4 99 := by kernel_rfl
theorem t80 (e : TypeId) (a b x : Int) : ((evN Tryd.prog oWorks (kSets 8 0) 400).call 5 #[.int .u8 a, .int .u8 b, .int .u16 x] (hD e)).map (·.1) = wholeT a b x 8 0 1 := by kernel_rfl
theorem t81 (e : TypeId) (a b x : Int) : ((evN Tryd.prog oWorks (kSets 8 1) 400).call 5 #[.int .u8 a, .int .u8 b, .int .u16 x] (hD e)).map (·.1) = wholeT a b x 8 1 9 := by kernel_rfl
theorem t82 (e : TypeId) (a b x : Int) : ((evN Tryd.prog oWorks (kSets 8 2) 400).call 5 #[.int .u8 a, .int .u8 b, .int .u16 x] (hD e)).map (·.1) = wholeT a b x 8 2 37 := by kernel_rfl
theorem t83 (e : TypeId) (a b x : Int) : ((evN Tryd.prog oWorks (kSets 8 3) 400).call 5 #[.int .u8 a, .int .u8 b, .int .u16 x] (hD e)).map (·.1) = wholeT a b x 8 3 93 := by kernel_rfl
theorem t84 (e : TypeId) (a b x : Int) : ((evN Tryd.prog oWorks (kSets 8 4) 400).call 5 #[.int .u8 a, .int .u8 b, .int .u16 x] (hD e)).map (·.1) = wholeT a b x 8 4 163 := by kernel_rfl
end Go.Ev
