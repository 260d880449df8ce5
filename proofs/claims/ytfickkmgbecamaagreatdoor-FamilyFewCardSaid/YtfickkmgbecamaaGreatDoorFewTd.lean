/- An answer laid by hand: what is suggested of the small clusters. -/
import Derived.Test.YtfickkmgbecamaaGreatDoorFewS
namespace Go.Ev
open Go.Proofs Tree
set_option maxRecDepth 1000000

/-- A configuration's cells. -/
def cfgV (N : Nat) (b : Nat) (F dmax rho rnd win att : Int) : Value :=
  .agg #[.int .i64 (.ofNat N), .slice (some ⟨b, 0, none⟩) (linkN N) (linkN N), .int .i64 F, .int .i64 1, .int .i64 dmax, .int .i64 rho, .int .i64 64, .int .i64 rnd, .int .i64 win, .int .i64 att, .int .i64 4096, .int .i64 4096, .int .i64 65536, .int .i64 64, .int .i64 64]
def spanOf : Nat → Nat → Nat → Int × Int × Int
  | 2, 1, 0 => (131072, 32768, 10888)
  | 2, 1, 1 => (131072, 32768, 14226)
  | 2, 2, 0 => (131072, 32768, 17160)
  | 2, 2, 1 => (262144, 65536, 23780)
  | 3, 1, 0 => (131072, 32768, 17424)
  | 3, 1, 1 => (131072, 32768, 24112)
  | 3, 2, 0 => (262144, 65536, 38160)
  | 3, 2, 1 => (262144, 65536, 51428)
  | 4, 1, 0 => (131072, 32768, 23960)
  | 4, 1, 1 => (131072, 32768, 34014)
  | 4, 2, 0 => (262144, 65536, 67352)
  | 4, 2, 1 => (524288, 131072, 107004)
  | _, _, _ => (0, 0, 0)
def sgArgs (N b : Nat) (F : Int) (d r : Nat) : Array Value := #[cfgV N b F (.ofNat d) (.ofNat r) 0 0 0]
def sgAns (N b : Nat) (F : Int) (d r : Nat) : Value := .tuple #[cfgV N b F (.ofNat d) (.ofNat r) (spanOf N d r).1 (spanOf N d r).2.1 (spanOf N d r).2.2, .bool true]
end Go.Ev
