/- angelusref03.power and Has, as answers laid by hand. -/
import Derived.Test.YtfickkmgbecamaaGreatDoorEvZd
import Derived.Test.YtfickkmgbecamaaGreatDoorProg
import Derived.KernelRfl
namespace Go.Ev
open Go.Proofs
set_option maxRecDepth 1000000

/-- The small heap of a call that takes numbers alone. -/
def bare (G : Nat) : AHeap := { tr := .leaf, next := G }

theorem bare_start {P : Program} {args : Array Value} {h : AHeap} (hp : args.toList.all pv1 = true) : ∀ μ w (args' : Array Value), Rel P μ h w → Top μ h → VsRel μ args.toList args'.toList →
    ∃ μ0, Rel P μ0 (bare P.globals.size) w ∧ Top μ0 (bare P.globals.size) ∧ VsRel μ0 args.toList args'.toList := fun μ w args' hR _ hA => by
  refine ⟨fun b => if b < P.globals.size then μ b else none, ⟨fun b o hb => ?_, fun b c o o' i j hb => ?_, fun g hg => ?_⟩, fun b hb => ?_, ?_⟩
  · simp [bare, AHeap.get, Tr.get_leaf] at hb
  · simp [bare, AHeap.get, Tr.get_leaf] at hb
  · obtain ⟨i, hi, h2⟩ := hR.glob g hg
    exact ⟨i, by simp [hg, hi], h2⟩
  · have : ¬ b < P.globals.size := by simp [bare] at hb; omega
    simp [this]
  · rw [hA.eq_of_pv1 hp]
    exact .of_pv1 hp

theorem bare_ro (G : Nat) : ∀ b o, (bare G).get b = some o → mutO o = false := fun b o hb => by simp [bare, AHeap.get, Tr.get_leaf] at hb

/-- An answer of numbers to numbers, in whatever heap. -/
theorem CallOk.numbers {P : Program} {O : Oracle} (hO : OracleOk P O) {k : Nat} {f : FuncId} {args : Array Value} {v : Value} {h : AHeap} (hp : args.toList.all pv1 = true) (hv : pv v = true)
    (hc : ((evO P O k).call f args (bare P.globals.size)).map (·.1) = some v) : CallOk P f args h v h := by
  obtain ⟨⟨v', h'⟩, hx, rfl⟩ := Option.map_eq_some_iff.1 hc
  exact (evO_call hO hx).pure hv (bare_ro _) (bare_start hp)

noncomputable def oNone : Oracle := fun _ _ _ => none
theorem oNone_ok {P : Program} : OracleOk P oNone := fun _ _ _ _ _ h => by cases h

theorem globals_one : Tryz.prog.globals.size = 1 := by kernel_rfl

theorem pow_table : (List.range 64).map (fun i => ((evO Tryz.prog oNone 400).call 101 #[.int .i64 (i : Nat)] (bare 1)).map (·.1)) = (List.range 64).map fun i => some (.int .u64 (2 ^ i : Nat)) := by kernel_rfl

theorem pow_ok (i : Nat) (hi : i < 64) (h : AHeap) : CallOk Tryz.prog 101 #[.int .i64 (i : Nat)] h (.int .u64 (2 ^ i : Nat)) h :=
  CallOk.numbers oNone_ok (k := 400) rfl rfl (by rw [globals_one]; exact List.map_inj_left.1 pow_table i (List.mem_range.2 hi))

noncomputable def oPow : Oracle := fun f args h =>
  if f = 101 then
    match args.toList with
    | [.int .i64 (.ofNat i)] => if Nat.blt i 64 = true then some (.int .u64 (2 ^ i : Nat), h) else none
    | _ => none
  else none

theorem oPow_ok : OracleOk Tryz.prog oPow := fun f args h v h' hv => by
  unfold oPow at hv
  split at hv
  case isFalse => cases hv
  rename_i hf
  subst hf
  split at hv
  case h_2 => cases hv
  rename_i i ha
  split at hv
  case isFalse => cases hv
  rename_i hi
  cases hv
  obtain rfl : args = #[.int .i64 (i : Nat)] := by rw [← Array.toList_inj, ha]; rfl
  exact pow_ok i (by simpa using hi) h

def hasV (s : Int) (i : Nat) : Bool := (IntKind.u64.wrap (s.tdiv ((2 ^ i : Nat) : Int))).tmod 2 == 1

theorem has_table (s : Int) : (List.range 64).map (fun i => ((evO Tryz.prog oPow 40).call 92 #[.int .u64 s, .int .i64 (i : Nat)] (bare 1)).map (·.1)) = (List.range 64).map fun i => some (.bool (hasV s i)) := by kernel_rfl

theorem has_ok (s : Int) (i : Nat) (hi : i < 64) (h : AHeap) : CallOk Tryz.prog 92 #[.int .u64 s, .int .i64 (i : Nat)] h (.bool (hasV s i)) h :=
  CallOk.numbers oPow_ok (k := 40) rfl rfl (by rw [globals_one]; exact List.map_inj_left.1 (has_table s) i (List.mem_range.2 hi))

noncomputable def oHas : Oracle := fun f args h =>
  if f = 92 then
    match args.toList with
    | [.int .u64 s, .int .i64 (.ofNat i)] => if Nat.blt i 64 = true then some (.bool (hasV s i), h) else none
    | _ => none
  else oPow f args h

theorem oHas_ok : OracleOk Tryz.prog oHas := fun f args h v h' hv => by
  unfold oHas at hv
  split at hv
  case isFalse => exact oPow_ok f args h v h' hv
  rename_i hf
  subst hf
  split at hv
  case h_2 => cases hv
  rename_i s i ha
  split at hv
  case isFalse => cases hv
  rename_i hi
  cases hv
  obtain rfl : args = #[.int .u64 s, .int .i64 (i : Nat)] := by rw [← Array.toList_inj, ha]; rfl
  exact has_ok s i (by simpa using hi) h

end Go.Ev
