/-
  WIRE: what comes in is within bounds, for the last time.
-/
import Derived.Test.YtpanhnkcgmcghaaW10
import Derived.Test.YtpanhnkcgmcghaaW11
import Derived.Test.YtpanhnkcgmcghaaR1
set_option linter.unusedSimpArgs false
set_option linter.unusedVariables false
set_option linter.unusedSectionVars false
namespace Go.J
open Go.Proofs

theorem wireBack_pre {n u v c : Int} {s : List UInt8} (h1 : IntKind.i64.min ≤ n ∧ n ≤ IntKind.i64.max) (h2 : IntKind.u32.min ≤ u ∧ u ≤ IntKind.u32.max) (h3 : IntKind.u64.min ≤ v ∧ v ≤ IntKind.u64.max) (_ : s.length ≤ maxLen) (h4 : IntKind.i64.min ≤ c ∧ c ≤ IntKind.i64.max) : wireBack_s.pre (n, u, v, s, c, ()) :=
  ⟨i64_b h1, u32_b h2, u64_b h3, i64_b h4⟩
end Go.J
