/-
  WIRE: what comes in is within bounds, on.
-/
import Derived.Test.YtpanhnkcgmcghaaW12
import Derived.Test.YtpanhnkcgmcghaaW13
import Derived.Test.YtpanhnkcgmcghaaR1
set_option linter.unusedSimpArgs false
set_option linter.unusedVariables false
set_option linter.unusedSectionVars false
namespace Go.J
open Go.Proofs

theorem wireWrites_pre {b s : List UInt8} {n u v : Int} (_ : El.fits (.rd .u8) b) (h1 : IntKind.i64.min ≤ n ∧ n ≤ IntKind.i64.max) (h2 : IntKind.u32.min ≤ u ∧ u ≤ IntKind.u32.max) (h3 : IntKind.u64.min ≤ v ∧ v ≤ IntKind.u64.max) (_ : s.length ≤ maxLen) : wireWrites_s.pre (b, n, u, v, s, ()) :=
  ⟨i64_b h1, u32_b h2, u64_b h3⟩
theorem wireBad_pre {b : List UInt8} {l : List ask.ty} (_ : El.fits (.rd .u8) b) (_ : El.fits (.rd ask) l) : wireBad_s.pre (b, l, ()) := trivial
end Go.J
