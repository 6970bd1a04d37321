/-
  WIRE: behind something wrong.
-/
import Derived.Test.YtpanhnkcgmcghaaW11
set_option linter.unusedSimpArgs false
set_option linter.unusedVariables false
set_option linter.unusedSectionVars false
namespace Go.J
open Go.Proofs

@[reducible] def ask : El := .cons (.int .i64) (.cons (.int .i64) .nil)
@[reducible] def wireBad_s : Spec where
  n := 0
  cs := []
  ar := [.el (.rd .u8), .el (.rd ask)]
  pre := fun _ => True
  n' := 0
  cs' := []
  rs := [.el .bool]
  post := .fn fun _ => (true, ())
@[reducible] def wireBad_a : Ann where
  nx := 1
  cs := [(0, .own rdr)]
  ss := [(1, .el (.rd ask)), (5, .ref 0), (6, .el (.int .i64))]
  inv := fun (b0, _, _, l0, _, _) (b, a, d, l, i, _) => b = b0 ∧ a = 0 ∧ d = true ∧ l = l0 ∧ 0 ≤ i ∧ i ≤ 20
  mu := fun (_, _, _, _, i, _) => 20 - i.toNat
set_option maxHeartbeats 1000000 in
set_option maxRecDepth 100000 in
theorem wireBad_d : denF ⟨tys, [(17, read_s.call), (40, rsum_s.call), (22, rbad_s.call), (23, rat_s.call), (33, ru8_s.call), (34, ru32_s.call), (35, ru64_s.call), (18, rtext_s.call), (36, rend_s.call), (3, wireRuns_s.call)]⟩ wireBad_s ⟨[], [(6, wireBad_a)]⟩ Try.f9 := by
  intro b l
  repeat' first | refine Is.mk ?_ | refine And.intro ?_ ?_ | (intro _)
  all_goals try dsimp only [maxLen, El.ty] at *
  all_goals try trivial
  all_goals repeat (with_reducible cases ‹_ ∧ _›)
  all_goals try subst_eqs
  all_goals try simp only [IntKind.wrap_i64, IntKind.wrap_u64, IntKind.wrap_u32, IntKind.wrap_u8, decide_eq_true_eq, decide_eq_false_iff_not, Bool.not_eq_true', Bool.not_eq_false', Bool.not_not, Bool.not_true, Bool.not_false, List.length_cons, List.length_nil, Int.toNat_natCast, UInt8.ofNat_toNat] at *
  all_goals try first | omega | (with_reducible rfl) | (with_reducible exact u8lt _)
  all_goals obtain ⟨t, ht, hl⟩ : ∃ t, List.take ((if 31 < (b.length : Int) then 31 else (b.length : Int)) - 0).toNat (List.drop (Int.toNat 0) b) = t ∧ t.length ≤ 31 := ⟨_, rfl, by rw [List.length_take]; split <;> omega⟩
  all_goals simp only [ht] at *
  all_goals have hr : rdOk t 0 false 32 = false := by simp [rdOk]; omega
  all_goals have ha : adv t 0 false 32 = 0 := adv_no hr
  all_goals have hs : sumv t 0 false = List.replicate 32 0 := by unfold sumv; rw [hr]; rfl
  all_goals simp only [hr, ha, hs, adv_bad, tk_bad, rd_bad, fb_nil, show ∀ m, tv t 0 true m = [] from fun _ => rfl, show ∀ m, tadv t 0 true m = 0 from fun _ => rfl, show ∀ m, tOk t 0 true m = false from fun _ => rfl, show sumv t 0 true = List.replicate 32 0 from rfl, show El.u8.dflt = (0 : UInt8) from rfl, not_true_eq_false, Bool.not_false, Bool.not_true, Bool.false_and, reduceCtorEq] at *
  all_goals try omega
theorem wireBad_p : (FnIs Try.prog 9 ∧ FnOk Try.prog 9 wireBad_s) ∧ (idsOk wireBad_s.cs && idsOk wireBad_s.cs' && Nat.ble wireBad_s.n wireBad_s.n') = true :=
  fn_of (l := [(17, read_s.call), (40, rsum_s.call), (22, rbad_s.call), (23, rat_s.call), (33, ru8_s.call), (34, ru32_s.call), (35, ru64_s.call), (18, rtext_s.call), (36, rend_s.call), (3, wireRuns_s.call)]) (hi := ⟨[], [(6, wireBad_a)]⟩) (S := wireBad_s) (fn := Try.f9) (c := Try.f9.body.get!) tysOk mixOk ⟨read_m, rsum_m, rbad_m, rat_m, ru8_m, ru32_m, ru64_m, rtext_m, rend_m, wireRuns_m, trivial⟩ (by kernel_rfl) (by kernel_rfl) (by kernel_rfl) (by kernel_rfl) (by kernel_rfl) wireBad_d
theorem wireBad_m : May Try.prog (9, wireBad_s.call) := may_call wireBad_p
theorem wireBad_n : May Try.prog (9, wireBad_s.callN) := may_callN wireBad_p
end Go.J
