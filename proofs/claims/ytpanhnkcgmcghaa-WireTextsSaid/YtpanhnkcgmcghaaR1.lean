/-
  THE ROWS, part 1: what comes in.
-/
import Derived.Test.YtpanhnkcgmcghaaR0
import Derived.Test.YtpanhnkcgmcghaaT
set_option linter.unusedSimpArgs false
set_option linter.unusedVariables false
namespace Go.J
open Go.RowKit

theorem wf_int {k : IntKind} {n : Int} (h : (Lit.int k n).wf = true) : k.min ≤ n ∧ n ≤ k.max := by simpa [Lit.wf] using h

/-- How great a value that comes in may be. -/
def El.fits : (e : El) → e.ty → Prop
  | .u8, _ => True
  | .int k, n => k.min ≤ n ∧ n ≤ k.max
  | .bool, _ => True
  | .str, s => s.length ≤ maxLen
  | .rd e, xs => xs.length ≤ maxLen ∧ ∀ x ∈ xs, e.fits x
  | .nil, _ => True
  | .cons e es, x => e.fits x.1 ∧ es.fits x.2
  | .ar n e, xs => xs.length = n ∧ ∀ x ∈ xs, e.fits x

end Go.J
