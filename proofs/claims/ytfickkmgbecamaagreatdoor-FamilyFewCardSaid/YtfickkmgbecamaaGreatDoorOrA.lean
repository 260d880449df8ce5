/- Answers laid by hand: power, Has. -/
import Derived.Test.YtfickkmgbecamaaGreatDoorEv6
import Derived.Test.YtfickkmgbecamaaGreatDoorProg
import Derived.KernelRfl
namespace Go.Ev
open Go.Proofs
set_option maxRecDepth 1000000

theorem globals_one : Tryz.prog.globals.size = 1 := by kernel_rfl

theorem pow_table : (List.range 64).map (fun i => ((evC Tryz.prog oNone 400).call 101 #[.int .i64 (i : Nat)] (bare 1)).map (·.1)) = (List.range 64).map fun i => some (.int .u64 (2 ^ i : Nat)) := by kernel_rfl

theorem pow_ok (i : Nat) (hi : i < 64) (h : AHeap) : CallOk Tryz.prog 101 #[.int .i64 (i : Nat)] h (.int .u64 (2 ^ i : Nat)) h :=
  CallOk.numbers oNone_ok (k := 400) rfl rfl (by rw [globals_one]; exact List.map_inj_left.1 pow_table i (List.mem_range.2 hi))

noncomputable def oPow : Oracle := fun f args h =>
  if f = 101 then
    match args.toList with
    | [.int .i64 (.ofNat i)] => (match Nat.blt i 64 with | true => some (.int .u64 (2 ^ i : Nat), h) | false => none)
    | _ => none
  else none

theorem oPow_ok : OracleOk Tryz.prog oPow := fun f args h v h' hv => by
  unfold oPow at hv
  split at hv
  case isFalse => cases hv
  rename_i hf
  subst hf
  split at hv
  case h_2 => cases hv
  rename_i i ha
  split at hv
  case h_2 => cases hv
  rename_i hi
  cases hv
  obtain rfl : args = #[.int .i64 (i : Nat)] := by rw [← Array.toList_inj, ha]; rfl
  exact pow_ok i (by simpa using hi) h

def hasV (s : Int) (i : Nat) : Bool := eqI ((wrapF .u64 (s.tdiv ((2 ^ i : Nat) : Int))).tmod 2) 1

theorem has_table (s : Int) : (List.range 64).map (fun i => ((evC Tryz.prog oPow 40).call 92 #[.int .u64 s, .int .i64 (i : Nat)] (bare 1)).map (·.1)) = (List.range 64).map fun i => some (.bool (hasV s i)) := by kernel_rfl

theorem has_ok (s : Int) (i : Nat) (hi : i < 64) (h : AHeap) : CallOk Tryz.prog 92 #[.int .u64 s, .int .i64 (i : Nat)] h (.bool (hasV s i)) h :=
  CallOk.numbers oPow_ok (k := 40) rfl rfl (by rw [globals_one]; exact List.map_inj_left.1 (has_table s) i (List.mem_range.2 hi))

noncomputable def oHas : Oracle := fun f args h =>
  if f = 92 then
    match args.toList with
    | [.int .u64 s, .int .i64 (.ofNat i)] => (match Nat.blt i 64 with | true => some (.bool (hasV s i), h) | false => none)
    | _ => none
  else oPow f args h

theorem oHas_ok : OracleOk Tryz.prog oHas := fun f args h v h' hv => by
  unfold oHas at hv
  split at hv
  case isFalse => exact oPow_ok f args h v h' hv
  rename_i hf
  subst hf
  split at hv
  case h_2 => cases hv
  rename_i s i ha
  split at hv
  case h_2 => cases hv
  rename_i hi
  cases hv
  obtain rfl : args = #[.int .u64 s, .int .i64 (i : Nat)] := by rw [← Array.toList_inj, ha]; rfl
  exact has_ok s i (by simpa using hi) h

end Go.Ev
