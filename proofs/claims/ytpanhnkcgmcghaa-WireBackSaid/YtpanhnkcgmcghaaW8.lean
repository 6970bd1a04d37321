/-
  WIRE: chapter 1's runs.
-/
import Derived.Test.YtpanhnkcgmcghaaW7
set_option linter.unusedSimpArgs false
set_option linter.unusedVariables false
set_option linter.unusedSectionVars false
namespace Go.J
open Go.Proofs

@[reducible] def wireRuns_s : Spec := { law_s with }
set_option maxHeartbeats 1000000 in
set_option maxRecDepth 100000 in
theorem wireRuns_d : denF ⟨tys, [(17, read_s.call), (18, rtext_s.call), (20, u32_s.call), (19, same_s.call), (21, text_s.call), (22, rbad_s.call), (23, rat_s.call)]⟩ wireRuns_s ⟨[], []⟩ Try.f3 := by
  repeat' first | refine Is.mk ?_ | refine And.intro ?_ ?_ | (intro _)
  all_goals try dsimp only [maxLen, El.ty] at *
  all_goals try trivial
  all_goals repeat (with_reducible cases ‹_ ∧ _›)
  all_goals try subst_eqs
  all_goals try simp only [IntKind.wrap_i64, IntKind.wrap_u64, IntKind.wrap_u32, IntKind.wrap_u8, decide_eq_true_eq, decide_eq_false_iff_not, Bool.not_eq_true', Bool.not_eq_false', Bool.not_not, Bool.not_true, Bool.not_false, List.length_cons, List.length_nil, Int.toNat_natCast, UInt8.ofNat_toNat] at *
  all_goals try first | omega | (with_reducible rfl) | (with_reducible exact u8lt _)
theorem wireRuns_p : (FnIs Try.prog 3 ∧ FnOk Try.prog 3 wireRuns_s) ∧ (idsOk wireRuns_s.cs && idsOk wireRuns_s.cs' && Nat.ble wireRuns_s.n wireRuns_s.n') = true :=
  fn_of (l := [(17, read_s.call), (18, rtext_s.call), (20, u32_s.call), (19, same_s.call), (21, text_s.call), (22, rbad_s.call), (23, rat_s.call)]) (hi := ⟨[], []⟩) (S := wireRuns_s) (fn := Try.f3) (c := Try.f3.body.get!) tysOk mixOk ⟨read_m, rtext_m, u32_m, same_m, text_m, rbad_m, rat_m, trivial⟩ (by kernel_rfl) (by kernel_rfl) (by kernel_rfl) (by kernel_rfl) (by kernel_rfl) wireRuns_d
theorem wireRuns_m : May Try.prog (3, wireRuns_s.call) := may_call wireRuns_p
theorem wireRuns_n : May Try.prog (3, wireRuns_s.callN) := may_callN wireRuns_p
end Go.J
