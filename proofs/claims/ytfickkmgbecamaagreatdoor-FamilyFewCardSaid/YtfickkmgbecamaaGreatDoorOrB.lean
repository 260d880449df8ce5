/- angeluslaw53.works as an oracle. -/
import Derived.Test.YtfickkmgbecamaaGreatDoorOrA
namespace Go.Ev
open Go.Proofs
set_option maxRecDepth 1000000

/-- math/bits' table. -/
def dbN : List Nat := [0, 1, 56, 2, 57, 49, 28, 3, 61, 58, 42, 50, 38, 29, 17, 4, 62, 47, 59, 36, 45, 43, 51, 22, 53, 39, 33, 30, 24, 18, 12, 5, 63, 55, 48, 27, 60, 41, 37, 16, 46, 35, 44, 21, 52, 32, 23, 11, 54, 26, 40, 15, 34, 20, 31, 10, 25, 14, 19, 9, 13, 8, 7, 6]
def db : List Value := dbN.map fun n => .int .u8 (.ofNat n)
/-- The start: the table alone. -/
def hD (e : TypeId) : AHeap := { tr := .node .leaf (some (.cells db e true false)) .leaf, next := 1 }

theorem db_plain : db.all pv1 = true := by kernel_rfl

theorem hD_get (e : TypeId) (b : Nat) : (hD e).get b = if b = 0 then some (.cells db e true false) else none := by
  rcases b with _ | b
  · rfl
  · rw [if_neg (by omega)]; simp only [hD, AHeap.get, Tr.get, ite_self]
theorem hD_ro (e : TypeId) : ∀ b o, (hD e).get b = some o → mutO o = false := fun b o h => by
  rw [hD_get] at h; split at h <;> cases h; rfl

theorem table_start {e : TypeId} {args : Array Value} {h : AHeap} (hp : args.toList.all pv1 = true) (h0 : h.get 0 = some (.cells db e true false)) : ∀ μ w (args' : Array Value), Rel Tryz.prog μ h w → Top μ h → VsRel μ args.toList args'.toList →
    ∃ μ0, Rel Tryz.prog μ0 (hD e) w ∧ Top μ0 (hD e) ∧ VsRel μ0 args.toList args'.toList := fun μ w args' hR _ hA => by
  obtain ⟨i, hi, ho⟩ := hR.obj 0 _ h0
  refine ⟨fun b => if b = 0 then μ 0 else none, Rel.ro (fun b o hb => ?_) (fun g hg => ?_), fun b hb => ?_, ?_⟩
  · rw [hD_get] at hb
    split at hb <;> cases hb
    rename_i hb0; subst hb0
    exact ⟨rfl, i, by simpa using hi, ho.plain db_plain⟩
  · have hg0 : g = 0 := by rw [globals_one] at hg; omega
    subst hg0
    obtain ⟨j, hj, h2⟩ := hR.glob 0 hg
    exact ⟨j, by simpa using hj, h2⟩
  · have : 1 ≤ b := hb
    simp; omega
  · rw [hA.eq_of_pv1 hp]
    exact .of_pv1 hp

theorem works_ev (e : TypeId) : ((evC Tryz.prog oHas 3000).call 11 #[] (hD e)).map (·.1) = some (.bool true) := by kernel_rfl

theorem works_ok {e : TypeId} {h : AHeap} (h0 : h.get 0 = some (.cells db e true false)) : CallOk Tryz.prog 11 #[] h (.bool true) h := by
  obtain ⟨⟨v', h'⟩, hx, hv⟩ := Option.map_eq_some_iff.1 (works_ev e)
  simp only at hv
  subst hv
  exact (evC_call oHas_ok hx).pure rfl (hD_ro e) (table_start rfl h0)

noncomputable def oWorks : Oracle := fun f args h =>
  if f = 11 then
    match args.toList with
    | [] => (match getQ h.tr 0 with
      | some (.cells c _ true false) => (match rowEq c db with | true => some (.bool true, h) | false => none)
      | _ => none)
    | _ => none
  else oHas f args h

theorem oWorks_ok : OracleOk Tryz.prog oWorks := fun f args h v h' hv => by
  unfold oWorks at hv
  split at hv
  case isFalse => exact oHas_ok f args h v h' hv
  rename_i hf
  subst hf
  split at hv
  case h_2 => cases hv
  rename_i ha
  split at hv
  case h_2 => cases hv
  rename_i c e hg
  split at hv
  case h_2 => cases hv
  rename_i hr
  cases hv
  obtain rfl : args = #[] := by rw [← Array.toList_inj, ha]
  rw [getQ_eq, rowEq_eq hr] at hg
  exact works_ok hg

end Go.Ev
