/- From the machine to a law's walk. Nothing of one program. -/
import Derived.Test.YtncmdbpoceilgaaTG
set_option linter.unusedVariables false
set_option linter.unusedSimpArgs false
namespace Go.Proofs.Ytncmdbpoceilgaa.T
open Go Go.RowKit

theorem law_plain {P : Program} (hm : P.follows .mixedOrders = true) (kp : Nat → Keep) (hx : OrcsOk P kp) {n f : Nat} {args : List AV} {xs : List Value} (hr : RelL (fun _ => none) args xs) {h' : AHeap} {nx' : Nat} (w : World)
    (hc : callP P kp n Y0 f args (fun _ => none) 0 = some (.bool true, h', nx')) : Calls P f ⟨xs⟩ w fun e w' => e = .returned (.bool true) ∧ Go.RowKit.Below w.heap.size w w' := by
  obtain ⟨_, _, hcalls⟩ := callP_ok hm kp hx n w.heap.size (fun _ => none) w f args xs (fun _ => none) 0 (fun _ => False) _ _ _ (fun _ q => q.elim) hc (EnvIn.nil _ _) hr ⟨Nat.le_refl _, fun _ _ q => (by cases q), fun _ _ => ⟨rfl, rfl⟩, fun _ _ _ _ _ _ _ q => (by cases q), fun _ _ q => (by cases q)⟩
  refine hcalls.mono ?_
  rintro e w' ⟨m', x, rfl, hx, ha⟩
  simp only [Rel] at hx
  exact ⟨by rw [hx], ha.below.old⟩

end Go.Proofs.Ytncmdbpoceilgaa.T
