/-
  WIRE: Intact, Within; chapter 1's runs.
-/
import Derived.Test.YtpanhnkcgmcghaaW6
set_option linter.unusedSimpArgs false
set_option linter.unusedVariables false
set_option linter.unusedSectionVars false
namespace Go.J
open Go.Proofs

@[reducible] def intact_s : Spec where
  n := 0
  cs := []
  ar := [.lend .u8, .lend .u8, .el .u8]
  pre := fun (_, ys, _, _) => ys.length ≤ 1000000000000
  n' := 0
  cs' := []
  rs := [.el .bool]
  post := .fn fun (xs, ys, m, _) => (decide (xs = ys ++ List.replicate 80 m), ())
@[reducible] def intact_a : Ann where
  nx := 0
  cs := []
  ss := [(0, .lend .u8), (1, .lend .u8), (2, .el .u8), (7, .el (.int .i64))]
  inv := fun (x0, y0, m0, _) (x, y, m, i, _) => x = x0 ∧ y = y0 ∧ m = m0 ∧ y.length ≤ i ∧ i ≤ x.length ∧ x.take i.toNat = y ++ List.replicate (i.toNat - y.length) m
  mu := fun (x, _, _, i, _) => x.length - i.toNat
set_option maxHeartbeats 1000000 in
set_option maxRecDepth 100000 in
theorem intact_d : denF ⟨tys, [(19, same_s.call)]⟩ intact_s ⟨[], [(4, intact_a)]⟩ Try.f32 := by
  intro xs ys m
  repeat' first | refine Is.mk ?_ | refine And.intro ?_ ?_ | (intro _)
  all_goals try dsimp only [maxLen, El.ty] at *
  all_goals try trivial
  all_goals repeat (with_reducible cases ‹_ ∧ _›)
  all_goals try subst_eqs
  all_goals try simp only [IntKind.wrap_i64, IntKind.wrap_u64, IntKind.wrap_u32, IntKind.wrap_u8, decide_eq_true_eq, decide_eq_false_iff_not, Bool.not_eq_true', Bool.not_eq_false', Bool.not_not, Bool.not_true, Bool.not_false, List.length_cons, List.length_nil, Int.toNat_natCast, UInt8.ofNat_toNat] at *
  all_goals try first | omega | (with_reducible rfl) | (with_reducible exact u8lt _)
  all_goals try simp only [show (↑ys.length - 0 : Int).toNat = ys.length by omega, show Int.toNat 0 = 0 from rfl, List.drop_zero] at *
  · have : xs ≠ ys ++ List.replicate 80 m := fun e => by
      have := congrArg List.length e
      rw [List.length_append, List.length_replicate] at this
      omega
    exact (decide_eq_false this).symm
  · have : xs ≠ ys ++ List.replicate 80 m := fun e => by
      subst e
      simp at *
    exact (decide_eq_false this).symm
  · rename List.take _ _ = _ => h
    rw [h]
    simp
  all_goals rename Int => i
  all_goals rename List.take (Int.toNat i) _ = _ => h
  · have : xs ≠ ys ++ List.replicate 80 m := fun e => by
      rename ¬ (_ = (m.toNat : Int)) => h2
      apply h2
      rw [e]
      simp only [List.getD, List.getElem?_append_right (show ys.length ≤ i.toNat by omega), List.getElem?_replicate]
      rw [if_pos (by omega)]
      rfl
    exact (decide_eq_false this).symm
  · rename _ = (m.toNat : Int) => h2
    rw [show ((i + 1 + 9223372036854775808) % 18446744073709551616 - 9223372036854775808).toNat = i.toNat + 1 by omega, take_succ_getD _ _ (by omega), h, show i.toNat + 1 - ys.length = (i.toNat - ys.length) + 1 by omega, List.replicate_succ', List.append_assoc]
    congr 3
    exact UInt8.toNat_inj.1 (Int.ofNat_inj.1 h2)
  · rw [List.take_of_length_le (by omega)] at h
    rw [h, show i.toNat - ys.length = 80 by omega]
    simp
theorem intact_p : (FnIs Try.prog 32 ∧ FnOk Try.prog 32 intact_s) ∧ (idsOk intact_s.cs && idsOk intact_s.cs' && Nat.ble intact_s.n intact_s.n') = true :=
  fn_of (l := [(19, same_s.call)]) (hi := ⟨[], [(4, intact_a)]⟩) (S := intact_s) (fn := Try.f32) (c := Try.f32.body.get!) tysOk mixOk ⟨same_m, trivial⟩ (by kernel_rfl) (by kernel_rfl) (by kernel_rfl) (by kernel_rfl) (by kernel_rfl) intact_d
theorem intact_m : May Try.prog (32, intact_s.call) := may_call intact_p
theorem intact_n : May Try.prog (32, intact_s.callN) := may_callN intact_p

theorem tmod_fix (n m : Int) (h : 0 < m) : (n.tmod m < 0 → n.tmod m + m = n % m) ∧ (¬ n.tmod m < 0 → n.tmod m = n % m) ∧ -m < n.tmod m ∧ n.tmod m < m := by
  have h1 := Int.mul_tdiv_add_tmod n m
  have h2 := Int.tmod_lt_of_pos n h
  have h3 : -m < n.tmod m := by
    have := Int.lt_tmod_of_pos n h
    omega
  have e : n % m = n.tmod m % m := by
    conv => lhs; rw [← h1]
    rw [Int.add_comm, Int.add_mul_emod_self_left]
  refine ⟨fun hn => ?_, fun hn => ?_, h3, h2⟩
  · rw [e, ← Int.add_emod_right, Int.emod_eq_of_lt (by omega) (by omega)]
  · rw [e, Int.emod_eq_of_lt (by omega) (by omega)]

@[reducible] def within_s : Spec where
  n := 0
  cs := []
  ar := [.el (.int .i64), .el (.int .i64), .el (.int .i64)]
  pre := fun (n, lo, hi, _) => -4611686018427387904 ≤ lo ∧ hi ≤ 4611686018427387904 ∧ lo ≤ hi ∧ hi - lo < 4611686018427387904 ∧ -9223372036854775808 ≤ n ∧ n ≤ 9223372036854775807
  n' := 0
  cs' := []
  rs := [.el (.int .i64)]
  post := .fn fun (n, lo, hi, _) => (lo + n % (hi - lo + 1), ())
set_option maxHeartbeats 1000000 in
set_option maxRecDepth 100000 in
theorem within_d : denF ⟨tys, []⟩ within_s ⟨[], []⟩ Try.f24 := by
  intro n lo hi
  repeat' first | refine Is.mk ?_ | refine And.intro ?_ ?_ | (intro _)
  all_goals try dsimp only [maxLen, El.ty] at *
  all_goals try trivial
  all_goals repeat (with_reducible cases ‹_ ∧ _›)
  all_goals try subst_eqs
  all_goals try simp only [IntKind.wrap_i64, IntKind.wrap_u64, IntKind.wrap_u32, IntKind.wrap_u8, decide_eq_true_eq, decide_eq_false_iff_not, Bool.not_eq_true', Bool.not_eq_false', Bool.not_not, Bool.not_true, Bool.not_false, List.length_cons, List.length_nil, Int.toNat_natCast, UInt8.ofNat_toNat] at *
  all_goals try first | omega | (with_reducible rfl) | (with_reducible exact u8lt _)
  all_goals
    rw [show ((hi - lo + 9223372036854775808) % 18446744073709551616 - 9223372036854775808 + 1 + 9223372036854775808) % 18446744073709551616 - 9223372036854775808 = hi - lo + 1 by omega] at *
    obtain ⟨e1, e2, e3, e4⟩ := tmod_fix n (hi - lo + 1) (by omega)
    omega
theorem within_p : (FnIs Try.prog 24 ∧ FnOk Try.prog 24 within_s) ∧ (idsOk within_s.cs && idsOk within_s.cs' && Nat.ble within_s.n within_s.n') = true :=
  fn_of (l := []) (hi := ⟨[], []⟩) (S := within_s) (fn := Try.f24) (c := Try.f24.body.get!) tysOk mixOk trivial (by kernel_rfl) (by kernel_rfl) (by kernel_rfl) (by kernel_rfl) (by kernel_rfl) within_d
theorem within_m : May Try.prog (24, within_s.call) := may_call within_p
theorem within_n : May Try.prog (24, within_s.callN) := may_callN within_p

@[reducible] def law_s : Spec where
  n := 0
  cs := []
  ar := []
  pre := fun _ => True
  n' := 0
  cs' := []
  rs := [.el .bool]
  post := .fn fun _ => (true, ())
end Go.J
