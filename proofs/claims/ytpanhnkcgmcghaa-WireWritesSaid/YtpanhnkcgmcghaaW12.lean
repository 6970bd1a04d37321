/-
  WIRE: what is written is the document's own.
-/
import Derived.Test.YtpanhnkcgmcghaaW11
set_option linter.unusedSimpArgs false
set_option linter.unusedVariables false
set_option linter.unusedSectionVars false
namespace Go.J
open Go.Proofs

@[reducible] def wireWrites_s : Spec where
  n := 0
  cs := []
  ar := [.el (.rd .u8), .el (.int .i64), .el (.int .u32), .el (.int .u64), .el .str]
  pre := fun (_, n, u, v, _, _) => (-9223372036854775808 ≤ n ∧ n ≤ 9223372036854775807) ∧ (0 ≤ u ∧ u < 4294967296) ∧ (0 ≤ v ∧ v < 18446744073709551616)
  n' := 0
  cs' := []
  rs := [.el .bool]
  post := .fn fun _ => (true, ())
set_option maxHeartbeats 1000000 in
set_option maxRecDepth 100000 in
theorem wireWrites_d : denF ⟨tys, [(25, roomy_s.call), (26, u8_s.call), (27, fu8_s.call), (19, same_s.call), (20, u32_s.call), (28, fu32_s.call), (29, u64_s.call), (30, fu64_s.call), (21, text_s.call), (31, ftext_s.call), (32, intact_s.call), (3, wireRuns_s.call)]⟩ wireWrites_s ⟨[(1, (tks 0 10 (.last 10 false [7, 8, 9] (.last 11 false [] .done))))], []⟩ Try.f5 := by
  intro b n u v s
  repeat' first | refine Is.mk ?_ | refine And.intro ?_ ?_ | (intro _)
  all_goals try dsimp only [maxLen, El.ty] at *
  all_goals try trivial
  all_goals repeat (with_reducible cases ‹_ ∧ _›)
  all_goals try subst_eqs
  all_goals try simp only [IntKind.wrap_i64, IntKind.wrap_u64, IntKind.wrap_u32, IntKind.wrap_u8, decide_eq_true_eq, decide_eq_false_iff_not, Bool.not_eq_true', Bool.not_eq_false', Bool.not_not, Bool.not_true, Bool.not_false, List.length_cons, List.length_nil, Int.toNat_natCast, UInt8.ofNat_toNat] at *
  all_goals try first | omega | (with_reducible rfl) | (with_reducible exact u8lt _)
  all_goals obtain ⟨t, ht, hl⟩ : ∃ t, List.take ((if 40 < (b.length : Int) then 40 else (b.length : Int)) - 0).toNat (List.drop (Int.toNat 0) b) = t ∧ t.length ≤ 40 := ⟨_, rfl, by rw [List.length_take]; split <;> omega⟩
  all_goals obtain ⟨z, hz, hzl⟩ : ∃ z, List.take ((if 300 < (s.length : Int) then 300 else (s.length : Int)) - 0).toNat (List.drop (Int.toNat 0) s) = z ∧ z.length ≤ 300 := ⟨_, rfl, by rw [List.length_take]; split <;> omega⟩
  all_goals have e2 : List.take ((t.length : Int) - 0).toNat (List.drop (Int.toNat 0) (t ++ List.replicate 80 (UInt8.ofNat (Int.toNat 7)))) = t := by
              rw [show ((t.length : Int) - 0).toNat = t.length by omega, show Int.toNat 0 = 0 from rfl, List.drop_zero, List.take_left]
  all_goals simp only [ht, hz, e2, List.nil_append, List.append_nil, not_true_eq_false] at *
  all_goals try simp only [List.length_append, List.length_replicate] at *
  all_goals try omega
theorem wireWrites_p : (FnIs Try.prog 5 ∧ FnOk Try.prog 5 wireWrites_s) ∧ (idsOk wireWrites_s.cs && idsOk wireWrites_s.cs' && Nat.ble wireWrites_s.n wireWrites_s.n') = true :=
  fn_of (l := [(25, roomy_s.call), (26, u8_s.call), (27, fu8_s.call), (19, same_s.call), (20, u32_s.call), (28, fu32_s.call), (29, u64_s.call), (30, fu64_s.call), (21, text_s.call), (31, ftext_s.call), (32, intact_s.call), (3, wireRuns_s.call)]) (hi := ⟨[(1, (tks 0 10 (.last 10 false [7, 8, 9] (.last 11 false [] .done))))], []⟩) (S := wireWrites_s) (fn := Try.f5) (c := Try.f5.body.get!) tysOk mixOk ⟨roomy_m, u8_m, fu8_m, same_m, u32_m, fu32_m, u64_m, fu64_m, text_m, ftext_m, intact_m, wireRuns_m, trivial⟩ (by kernel_rfl) (by kernel_rfl) (by kernel_rfl) (by kernel_rfl) (by kernel_rfl) wireWrites_d
theorem wireWrites_m : May Try.prog (5, wireWrites_s.call) := may_call wireWrites_p
theorem wireWrites_n : May Try.prog (5, wireWrites_s.callN) := may_callN wireWrites_p
end Go.J
