/-
  THE ROWS, part 0: from a contract to what a row asks of a walk.
-/
import Derived.Test.YtpanhnkcgmcghaaE34
import Derived.Below
import Derived.ProofKit
import Derived.OpenShut
import Derived.ShutString
import Derived.ChangeOld
set_option linter.unusedSimpArgs false
set_option linter.unusedVariables false
set_option linter.unusedSectionVars false

namespace Go.J
open Go.RowKit

/-- The world as a call finds it: nothing that is there is written. -/
def cxOf (w : World) : Cx := ⟨fun _ => none, fun b => b < w.heap.size, w⟩
theorem mdl_start (w : World) (n : Nat) : Mdl w ⟨fun _ => False, fun b => b < w.heap.size⟩ (cxOf w) [] n :=
  ⟨rfl, rfl, rfl, Nat.le_refl _, fun _ _ _ => rfl, fun _ h => h, fun _ _ => rfl, fun _ _ h => (nomatch h), (by simp), fun _ _ _ _ _ _ h => (nomatch h), fun _ _ _ h => (nomatch h), fun _ h => .inl h⟩
theorem Mdl.below {w : World} {im : Nat → Prop} {G : Cx} {hp : Hp} {nx : Nat} (h : Mdl w ⟨fun _ => False, im⟩ G hp nx) : RowKit.Below w.heap.size w G.w :=
  ⟨h.os, h.tape, h.output, h.size, fun k hk => h.keep k hk (fun hf => hf)⟩

/-- A law's walk. -/
theorem law_walk {P : Program} {f : FuncId} {g : List T → Hp → Nat → (T → Hp → Nat → Prop) → Prop} (h : CallOk P f g) (w : World) (args : List T) (vs : List Value) (n : Nat) (hv : frOk (cxOf w) args ⟨vs⟩)
    (hg : ∀ k : T → Hp → Nat → Prop, (∀ hp nx, k (.v (.bool true)) hp nx) → g args [] n k) : Calls P f ⟨vs⟩ w fun e w' => e = .returned (.bool true) ∧ RowKit.Below w.heap.size w w' := by
  refine Calls.mono (h w _ (cxOf w) [] n args vs (fun x _ _ => x = .v (.bool true)) (mdl_start w n) hv (hg _ fun _ _ => rfl)) ?_
  rintro e w' ⟨G', x, v, hp', nx', rfl, rfl, _, hm, hv, rfl⟩
  have hv : v = .bool true := hv
  subst hv
  exact ⟨rfl, hm.below⟩

end Go.J
