/-
  WIRE: what comes in is within bounds, once more.
-/
import Derived.Test.YtpanhnkcgmcghaaW14
import Derived.Test.YtpanhnkcgmcghaaR1
set_option linter.unusedSimpArgs false
set_option linter.unusedVariables false
set_option linter.unusedSectionVars false
namespace Go.J
open Go.Proofs

theorem wireReads_pre {b : List UInt8} {l : List ask.ty} (_ : El.fits (.rd .u8) b) (_ : El.fits (.rd ask) l) : wireReads_s.pre (b, l, ()) := trivial
end Go.J
