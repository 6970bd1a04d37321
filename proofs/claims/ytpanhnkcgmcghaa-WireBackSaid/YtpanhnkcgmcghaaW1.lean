/-
  WIRE: what the writers do.
-/
import Derived.Test.YtpanhnkcgmcghaaT
import Derived.Test.YtpanhnkcgmcghaaE34
import Derived.KernelRfl
set_option linter.unusedSimpArgs false
set_option linter.unusedVariables false
set_option linter.unusedSectionVars false
namespace Go.J
open Go.Proofs

/-- The bytes of a number, the highest first. -/
def be : Nat → Int → List UInt8
  | 0, _ => []
  | k + 1, n => UInt8.ofNat ((n / 256 ^ k) % 256).toNat :: be k n

theorem be_length : ∀ (k : Nat) (n : Int), (be k n).length = k
  | 0, _ => rfl
  | k + 1, n => by simp [be, be_length k n]

@[reducible] def clone_s : Spec where
  n := 0
  cs := []
  ar := [.lend .u8]
  pre := fun (xs, _) => xs.length ≤ 1000000000000
  n' := 1
  cs' := [(0, .row 5 .u8)]
  rs := [.own 0]
  post := .fn fun (xs, _) => (xs, ())
set_option maxHeartbeats 1000000 in
set_option maxRecDepth 100000 in
theorem clone_d : denF ⟨tys, []⟩ clone_s ⟨[], []⟩ Try.f52 := by
  intro xs
  repeat' first | refine Is.mk ?_ | refine And.intro ?_ ?_ | (intro _)
  all_goals try dsimp only [maxLen, El.ty] at *
  all_goals try trivial
  all_goals repeat (with_reducible cases ‹_ ∧ _›)
  all_goals try subst_eqs
  all_goals try simp only [IntKind.wrap_i64, IntKind.wrap_u64, IntKind.wrap_u32, IntKind.wrap_u8, decide_eq_true_eq, decide_eq_false_iff_not, Bool.not_eq_true', Bool.not_eq_false', Bool.not_not, Bool.not_true, Bool.not_false, List.length_cons, List.length_nil, Int.toNat_natCast, UInt8.ofNat_toNat] at *
  all_goals try first | omega | (with_reducible rfl) | (with_reducible exact u8lt _)
  rename_i h
  symm
  refine List.eq_nil_of_length_eq_zero ?_
  cases hx : xs.length with
  | zero => rfl
  | succ n => exact absurd (h (by omega)) (by simp)
theorem clone_p : (FnIs Try.prog 52 ∧ FnOk Try.prog 52 clone_s) ∧ (idsOk clone_s.cs && idsOk clone_s.cs' && Nat.ble clone_s.n clone_s.n') = true :=
  fn_of (l := []) (hi := ⟨[], []⟩) (S := clone_s) (fn := Try.f52) (c := Try.f52.body.get!) tysOk mixOk trivial (by kernel_rfl) (by kernel_rfl) (by kernel_rfl) (by kernel_rfl) (by kernel_rfl) clone_d
theorem clone_m : May Try.prog (52, clone_s.call) := may_call clone_p
theorem clone_n : May Try.prog (52, clone_s.callN) := may_callN clone_p

@[reducible] def number_s : Spec where
  n := 0
  cs := []
  ar := [.lend .u8, .el (.int .u64), .el (.int .i64)]
  pre := fun (xs, n, size, _) => xs.length ≤ 1000000000000 ∧ 0 ≤ n ∧ n < 18446744073709551616 ∧ 0 ≤ size ∧ size ≤ 8
  n' := 1
  cs' := [(0, .row 5 .u8)]
  rs := [.own 0]
  post := .fn fun (xs, n, size, _) => (xs ++ be size.toNat n, ())
@[reducible] def number_a : Ann where
  nx := 1
  cs := [(0, .row 5 .u8)]
  ss := [(1, .el (.int .u64)), (7, .own 0), (8, .el (.int .i64))]
  inv := fun (xs0, n0, i0, _) (xs, n, i, _) => n = n0 ∧ -1 ≤ i ∧ i ≤ i0 ∧ xs ++ be (i + 1).toNat n = xs0 ++ be (i0 + 1).toNat n0
  mu := fun (_, _, i, _) => (i + 1).toNat
set_option maxHeartbeats 1000000 in
set_option maxRecDepth 100000 in
theorem number_d : denF ⟨tys, [(52, clone_s.call)]⟩ number_s ⟨[], [(3, number_a)]⟩ Try.f54 := by
  intro xs n size
  repeat' first | refine Is.mk ?_ | refine And.intro ?_ ?_ | (intro _)
  all_goals try dsimp only [maxLen, El.ty] at *
  all_goals try trivial
  all_goals repeat (with_reducible cases ‹_ ∧ _›)
  all_goals try subst_eqs
  all_goals try simp only [IntKind.wrap_i64, IntKind.wrap_u64, IntKind.wrap_u32, IntKind.wrap_u8, decide_eq_true_eq, decide_eq_false_iff_not, Bool.not_eq_true', Bool.not_eq_false', Bool.not_not, Bool.not_true, Bool.not_false, List.length_cons, List.length_nil, Int.toNat_natCast, UInt8.ofNat_toNat] at *
  all_goals try first | omega | (with_reducible rfl) | (with_reducible exact u8lt _)
  all_goals
    rename Int => i
    rename List UInt8 => ys
    rename _ ++ be _ n = _ => h8
    have hs : (size - 1 + 9223372036854775808) % 18446744073709551616 - 9223372036854775808 + 1 = size := by omega
    rw [hs] at h8
    have hl := congrArg List.length h8
    simp only [List.length_append, be_length] at hl
  · omega
  · omega
  · rw [hs, ← h8, List.append_assoc]
    congr 1
    obtain ⟨j, rfl⟩ := Int.eq_ofNat_of_zero_le (show 0 ≤ i by omega)
    rw [show ((j : Int) + 1).toNat = j + 1 by omega, show ((j : Int) - 1 + 9223372036854775808) % 18446744073709551616 - 9223372036854775808 + 1 = j by omega]
    simp only [Int.toNat_natCast, be, List.singleton_append]
    congr 2
    have hj : j < 8 := by omega
    rw [show ((8 * (j : Int) + 9223372036854775808) % 18446744073709551616 - 9223372036854775808) % 18446744073709551616 = ((8 * j : Nat) : Int) by omega, Int.toNat_natCast]
    have hb : min (8 * j) IntKind.u64.bits = 8 * j := Nat.min_eq_left (by simp only [IntKind.bits]; omega)
    rw [hb, Int.fdiv_eq_ediv_of_nonneg _ (Int.le_of_lt (Int.pow_pos (by omega)))]
    rw [show (2 : Int) ^ (8 * j) = 256 ^ j by rw [Int.pow_mul]; rfl]
  · have h9 : be (i + 1).toNat n = [] := by rw [show (i + 1).toNat = 0 by omega]; rfl
    rw [h9, List.append_nil] at h8
    exact h8
theorem number_p : (FnIs Try.prog 54 ∧ FnOk Try.prog 54 number_s) ∧ (idsOk number_s.cs && idsOk number_s.cs' && Nat.ble number_s.n number_s.n') = true :=
  fn_of (l := [(52, clone_s.call)]) (hi := ⟨[], [(3, number_a)]⟩) (S := number_s) (fn := Try.f54) (c := Try.f54.body.get!) tysOk mixOk ⟨clone_m, trivial⟩ (by kernel_rfl) (by kernel_rfl) (by kernel_rfl) (by kernel_rfl) (by kernel_rfl) number_d
theorem number_m : May Try.prog (54, number_s.call) := may_call number_p
theorem number_n : May Try.prog (54, number_s.callN) := may_callN number_p

end Go.J
