/- CutSets, at up to six nodes. -/
import Derived.Test.YtfickkmgbecamaaDoorSetsC
namespace Go.Ev
open Go.Proofs
set_option maxRecDepth 1000000

theorem t00 (e : TypeId) (a b x : Int) : ((evN Tryd.prog oWorks (kSets 0 0) 400).call 5 #[.int .u8 a, .int .u8 b, .int .u16 x] (hD e)).map (·.1) = wholeT a b x 0 0 1 := by kernel_rfl
theorem t01 (e : TypeId) (a b x : Int) : ((evN Tryd.prog oWorks (kSets 0 1) 400).call 5 #[.int .u8 a, .int .u8 b, .int .u16 x] (hD e)).map (·.1) = wholeT a b x 0 1 1 := by kernel_rfl
theorem t02 (e : TypeId) (a b x : Int) : ((evN Tryd.prog oWorks (kSets 0 2) 400).call 5 #[.int .u8 a, .int .u8 b, .int .u16 x] (hD e)).map (·.1) = wholeT a b x 0 2 1 := by kernel_rfl
theorem t03 (e : TypeId) (a b x : Int) : ((evN Tryd.prog oWorks (kSets 0 3) 400).call 5 #[.int .u8 a, .int .u8 b, .int .u16 x] (hD e)).map (·.1) = wholeT a b x 0 3 1 := by kernel_rfl
theorem t04 (e : TypeId) (a b x : Int) : ((evN Tryd.prog oWorks (kSets 0 4) 400).call 5 #[.int .u8 a, .int .u8 b, .int .u16 x] (hD e)).map (·.1) = wholeT a b x 0 4 1 := by kernel_rfl
theorem t10 (e : TypeId) (a b x : Int) : ((evN Tryd.prog oWorks (kSets 1 0) 400).call 5 #[.int .u8 a, .int .u8 b, .int .u16 x] (hD e)).map (·.1) = wholeT a b x 1 0 1 := by kernel_rfl
theorem t11 (e : TypeId) (a b x : Int) : ((evN Tryd.prog oWorks (kSets 1 1) 400).call 5 #[.int .u8 a, .int .u8 b, .int .u16 x] (hD e)).map (·.1) = wholeT a b x 1 1 2 := by kernel_rfl
theorem t12 (e : TypeId) (a b x : Int) : ((evN Tryd.prog oWorks (kSets 1 2) 400).call 5 #[.int .u8 a, .int .u8 b, .int .u16 x] (hD e)).map (·.1) = wholeT a b x 1 2 2 := by kernel_rfl
theorem t13 (e : TypeId) (a b x : Int) : ((evN Tryd.prog oWorks (kSets 1 3) 400).call 5 #[.int .u8 a, .int .u8 b, .int .u16 x] (hD e)).map (·.1) = wholeT a b x 1 3 2 := by kernel_rfl
theorem t14 (e : TypeId) (a b x : Int) : ((evN Tryd.prog oWorks (kSets 1 4) 400).call 5 #[.int .u8 a, .int .u8 b, .int .u16 x] (hD e)).map (·.1) = wholeT a b x 1 4 2 := by kernel_rfl
theorem t20 (e : TypeId) (a b x : Int) : ((evN Tryd.prog oWorks (kSets 2 0) 400).call 5 #[.int .u8 a, .int .u8 b, .int .u16 x] (hD e)).map (·.1) = wholeT a b x 2 0 1 := by kernel_rfl
theorem t21 (e : TypeId) (a b x : Int) : ((evN Tryd.prog oWorks (kSets 2 1) 400).call 5 #[.int .u8 a, .int .u8 b, .int .u16 x] (hD e)).map (·.1) = wholeT a b x 2 1 3 := by kernel_rfl
theorem t22 (e : TypeId) (a b x : Int) : ((evN Tryd.prog oWorks (kSets 2 2) 400).call 5 #[.int .u8 a, .int .u8 b, .int .u16 x] (hD e)).map (·.1) = wholeT a b x 2 2 4 := by kernel_rfl
theorem t23 (e : TypeId) (a b x : Int) : ((evN Tryd.prog oWorks (kSets 2 3) 400).call 5 #[.int .u8 a, .int .u8 b, .int .u16 x] (hD e)).map (·.1) = wholeT a b x 2 3 4 := by kernel_rfl
theorem t24 (e : TypeId) (a b x : Int) : ((evN Tryd.prog oWorks (kSets 2 4) 400).call 5 #[.int .u8 a, .int .u8 b, .int .u16 x] (hD e)).map (·.1) = wholeT a b x 2 4 4 := by kernel_rfl
theorem t30 (e : TypeId) (a b x : Int) : ((evN Tryd.prog oWorks (kSets 3 0) 400).call 5 #[.int .u8 a, .int .u8 b, .int .u16 x] (hD e)).map (·.1) = wholeT a b x 3 0 1 := by kernel_rfl
theorem t31 (e : TypeId) (a b x : Int) : ((evN Tryd.prog oWorks (kSets 3 1) 400).call 5 #[.int .u8 a, .int .u8 b, .int .u16 x] (hD e)).map (·.1) = wholeT a b x 3 1 4 := by kernel_rfl
theorem t32 (e : TypeId) (a b x : Int) : ((evN Tryd.prog oWorks (kSets 3 2) 400).call 5 #[.int .u8 a, .int .u8 b, .int .u16 x] (hD e)).map (·.1) = wholeT a b x 3 2 7 := by kernel_rfl
theorem t33 (e : TypeId) (a b x : Int) : ((evN Tryd.prog oWorks (kSets 3 3) 400).call 5 #[.int .u8 a, .int .u8 b, .int .u16 x] (hD e)).map (·.1) = wholeT a b x 3 3 8 := by kernel_rfl
theorem t34 (e : TypeId) (a b x : Int) : ((evN Tryd.prog oWorks (kSets 3 4) 400).call 5 #[.int .u8 a, .int .u8 b, .int .u16 x] (hD e)).map (·.1) = wholeT a b x 3 4 8 := by kernel_rfl
theorem t40 (e : TypeId) (a b x : Int) : ((evN Tryd.prog oWorks (kSets 4 0) 400).call 5 #[.int .u8 a, .int .u8 b, .int .u16 x] (hD e)).map (·.1) = wholeT a b x 4 0 1 := by kernel_rfl
theorem t41 (e : TypeId) (a b x : Int) : ((evN Tryd.prog oWorks (kSets 4 1) 400).call 5 #[.int .u8 a, .int .u8 b, .int .u16 x] (hD e)).map (·.1) = wholeT a b x 4 1 5 := by kernel_rfl
theorem t42 (e : TypeId) (a b x : Int) : ((evN Tryd.prog oWorks (kSets 4 2) 400).call 5 #[.int .u8 a, .int .u8 b, .int .u16 x] (hD e)).map (·.1) = wholeT a b x 4 2 11 := by kernel_rfl
theorem t43 (e : TypeId) (a b x : Int) : ((evN Tryd.prog oWorks (kSets 4 3) 400).call 5 #[.int .u8 a, .int .u8 b, .int .u16 x] (hD e)).map (·.1) = wholeT a b x 4 3 15 := by kernel_rfl
theorem t44 (e : TypeId) (a b x : Int) : ((evN Tryd.prog oWorks (kSets 4 4) 400).call 5 #[.int .u8 a, .int .u8 b, .int .u16 x] (hD e)).map (·.1) = wholeT a b x 4 4 16 := by kernel_rfl
theorem t50 (e : TypeId) (a b x : Int) : ((evN Tryd.prog oWorks (kSets 5 0) 400).call 5 #[.int .u8 a, .int .u8 b, .int .u16 x] (hD e)).map (·.1) = wholeT a b x 5 0 1 := by kernel_rfl
theorem t51 (e : TypeId) (a b x : Int) : ((evN Tryd.prog oWorks (kSets 5 1) 400).call 5 #[.int .u8 a, .int .u8 b, .int .u16 x] (hD e)).map (·.1) = wholeT a b x 5 1 6 := by kernel_rfl
theorem t52 (e : TypeId) (a b x : Int) : ((evN Tryd.prog oWorks (kSets 5 2) 400).call 5 #[.int .u8 a, .int .u8 b, .int .u16 x] (hD e)).map (·.1) = wholeT a b x 5 2 16 := by kernel_rfl
theorem t53 (e : TypeId) (a b x : Int) : ((evN Tryd.prog oWorks (kSets 5 3) 400).call 5 #[.int .u8 a, .int .u8 b, .int .u16 x] (hD e)).map (·.1) = wholeT a b x 5 3 26 := by kernel_rfl
theorem t54 (e : TypeId) (a b x : Int) : ((evN Tryd.prog oWorks (kSets 5 4) 400).call 5 #[.int .u8 a, .int .u8 b, .int .u16 x] (hD e)).map (·.1) = wholeT a b x 5 4 31 := by kernel_rfl
theorem t60 (e : TypeId) (a b x : Int) : ((evN Tryd.prog oWorks (kSets 6 0) 400).call 5 #[.int .u8 a, .int .u8 b, .int .u16 x] (hD e)).map (·.1) = wholeT a b x 6 0 1 := by kernel_rfl
theorem t61 (e : TypeId) (a b x : Int) : ((evN Tryd.prog oWorks (kSets 6 1) 400).call 5 #[.int .u8 a, .int .u8 b, .int .u16 x] (hD e)).map (·.1) = wholeT a b x 6 1 7 := by kernel_rfl
theorem t62 (e : TypeId) (a b x : Int) : ((evN Tryd.prog oWorks (kSets 6 2) 400).call 5 #[.int .u8 a, .int .u8 b, .int .u16 x] (hD e)).map (·.1) = wholeT a b x 6 2 22 := by kernel_rfl
theorem t63 (e : TypeId) (a b x : Int) : ((evN Tryd.prog oWorks (kSets 6 3) 400).call 5 #[.int .u8 a, .int .u8 b, .int .u16 x] (hD e)).map (·.1) = wholeT a b x 6 3 42 := by kernel_rfl
theorem t64 (e : TypeId) (a b x : Int) : ((evN Tryd.prog oWorks (kSets 6 4) 400).call 5 #[.int .u8 a, .int .u8 b, .int .u16 x] (hD e)).map (·.1) = wholeT a b x 6 4 57 := by kernel_rfl
end Go.Ev
