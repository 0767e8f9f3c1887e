/- alive() is true. -/
import Derived.Test.YtgkchcbnbbgdpaaGreatDoorAbAlive0
namespace Go.Ab
open Go.Proofs Go.RowKit
theorem H.get_empty (n b : Nat) : (⟨n, .leaf⟩ : H).get b = none := rfl
theorem HR.none (n : Nat) (w : World) : HR (fun _ => Option.none) ⟨n, .leaf⟩ w :=
  ⟨fun b L h => (by cases h), fun b x L h => (by rw [H.get_empty] at h; cases h), fun b b' L L' _ _ h => (by rw [H.get_empty] at h; cases h), fun b h => (by rw [H.get_empty] at h; cases h)⟩
theorem Ext.below {σ' : Ren} {n : Nat} {h' : H} {w w' : World} (x : Ext (fun _ => Option.none) σ' ⟨n, .leaf⟩ h' w w') : Below w.heap.size w w' := by
  refine ⟨x.os, x.tape, x.output, x.size, fun k hk => x.keep k hk fun b L ho hs => ?_⟩
  cases hs
theorem alive_calls (w : World) : Calls Tryz.prog 14 #[] w fun e w' => e = .returned (.bool true) ∧ Below w.heap.size w w' := by
  obtain ⟨h', hr⟩ := isTrue_inv alive_run
  refine (calls_ok mixedT cxT_ok hr (HR.none 0 w) (LR.nil _) (fun _ _ _ => rfl)).mono ?_
  rintro e w' ⟨v', σ', rfl, hv, _, hx⟩
  cases hv
  exact ⟨rfl, hx.below⟩
end Go.Ab
