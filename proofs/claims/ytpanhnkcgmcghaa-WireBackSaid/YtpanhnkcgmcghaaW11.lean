/-
  WIRE: what comes in is within bounds.
-/
import Derived.Test.YtpanhnkcgmcghaaW9
set_option linter.unusedSimpArgs false
set_option linter.unusedVariables false
set_option linter.unusedSectionVars false
namespace Go.J
open Go.Proofs

theorem i64_b {n : Int} (h : IntKind.i64.min ≤ n ∧ n ≤ IntKind.i64.max) : -9223372036854775808 ≤ n ∧ n ≤ 9223372036854775807 := by
  have e1 : IntKind.i64.min = -9223372036854775808 := by decide
  have e2 : IntKind.i64.max = 9223372036854775807 := by decide
  omega
theorem u32_b {n : Int} (h : IntKind.u32.min ≤ n ∧ n ≤ IntKind.u32.max) : 0 ≤ n ∧ n < 4294967296 := by
  have e1 : IntKind.u32.min = 0 := by decide
  have e2 : IntKind.u32.max = 4294967295 := by decide
  omega
theorem u64_b {n : Int} (h : IntKind.u64.min ≤ n ∧ n ≤ IntKind.u64.max) : 0 ≤ n ∧ n < 18446744073709551616 := by
  have e1 : IntKind.u64.min = 0 := by decide
  have e2 : IntKind.u64.max = 18446744073709551615 := by decide
  omega
theorem wireTexts_pre {s : List UInt8} {m : Int} (_ : s.length ≤ maxLen) (h : IntKind.i64.min ≤ m ∧ m ≤ IntKind.i64.max) : wireTexts_s.pre (s, m, ()) := i64_b h
theorem wireOrder_pre {a b c : Int} (h1 : IntKind.u32.min ≤ a ∧ a ≤ IntKind.u32.max) (h2 : IntKind.u32.min ≤ b ∧ b ≤ IntKind.u32.max) (h3 : IntKind.u64.min ≤ c ∧ c ≤ IntKind.u64.max) : wireOrder_s.pre (a, b, c, ()) := ⟨u32_b h1, u32_b h2, u64_b h3⟩
end Go.J
