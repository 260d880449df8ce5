/- From the evaluator's answer to a contract of the model's, where nothing that was there may be written. -/
import Derived.Test.YtfickkmgbecamaaDoorEvZb
import Derived.Below
namespace Go.Ev
open Go.RowKit

section
variable {P : Program} {μ : Mu} {h h' : AHeap} {w : World}

/-- A start whose rows may only be read. -/
theorem Rel.ro (hobj : ∀ b o, h.get b = some o → mutO o = false ∧ ∃ i, μ b = some i ∧ ORel P μ o i w) (hg : ∀ g, g < P.globals.size → ∃ i, μ g = some i ∧ i.blk = g ∧ i.d = 0) : Rel P μ h w :=
  ⟨fun b o hb => (hobj b o hb).2, fun b c o o' i j hb hc hm => (by rw [(hobj b o hb).1] at hm; cases hm), hg⟩

theorem Ste.below {μ' : Mu} {w' : World} (s : Ste μ h w μ' h' w') (hro : ∀ b o, h.get b = some o → mutO o = false) : Below w.heap.size w w' :=
  ⟨s.os, s.tape, s.output, s.size, fun k hk => s.kept k hk fun b o i hb hm => by rw [hro b o hb] at hm; cases hm⟩

theorem CallOk.calls {f : FuncId} {args args' : Array Value} {v : Value} (hc : CallOk P f args h v h') (hR : Rel P μ h w) (hT : Top μ h) (hA : VsRel μ args.toList args'.toList) (hro : ∀ b o, h.get b = some o → mutO o = false) :
    Calls P f args' w fun e w' => ∃ μ' v', e = .returned v' ∧ VRel μ' v v' ∧ Below w.heap.size w w' :=
  callsIn_wide.1 (hc.2 μ w args' _ hR hT hA fun μ' _ v' fi hv => ⟨μ', v', rfl, hv, fi.ste.below hro⟩)

theorem evO_call {O : Oracle} (hO : OracleOk P O) {k : Nat} {f : FuncId} {args : Array Value} {v : Value} (hv : (evO P O k).call f args h = some (v, h')) : CallOk P f args h v h' :=
  (evO_ok hO k).call f args h v h' hv

end
end Go.Ev
