/-
  JOBBER: the engine and the functions of this claim, part 5.
-/
import Derived.Test.YtpanhnkcgmcghaaK4
import Derived.KernelRfl
import Derived.Laws.BitsLemmas
import Derived.Below
import Derived.ProofKit
import Derived.OpenShut
import Derived.ShutString
import Derived.ChangeOld
import Derived.DataReads
import Derived.ChangeArms
set_option linter.unusedSimpArgs false
set_option linter.unusedVariables false
set_option linter.unusedSectionVars false
namespace Go.J
open Go.Proofs

/-- The bytes of a number, the highest first. -/
def be : Nat → Int → List UInt8
  | 0, _ => []
  | k + 1, n => UInt8.ofNat ((n / 256 ^ k) % 256).toNat :: be k n

theorem be_length : ∀ (k : Nat) (n : Int), (be k n).length = k
  | 0, _ => rfl
  | k + 1, n => by simp [be, be_length k n]

@[reducible] def clone_s : Spec where
  n := 0
  cs := []
  ar := [.lend .u8]
  pre := fun (xs, _) => xs.length ≤ 1000000000000
  n' := 1
  cs' := [(0, .row 5 .u8)]
  rs := [.own 0]
  post := .fn fun (xs, _) => (xs, ())
@[reducible] def clone_h : Hints := ⟨[], [], []⟩
@[reducible] noncomputable def clone_e : Env := ⟨tys, []⟩
set_option maxHeartbeats 1000000 in
set_option maxRecDepth 100000 in
theorem clone_d : denF clone_e clone_s clone_h Try.f52 := by
  intro xs
  repeat' (first | (conv => whnf); first | refine And.intro ?_ ?_ | refine Is.mk ?_ | (intro h; cases h; done) | (intro _))
  all_goals try dsimp only [maxLen, El.ty] at *
  all_goals try trivial
  all_goals repeat (with_reducible cases ‹_ ∧ _›)
  all_goals try subst_eqs
  all_goals try simp only [IntKind.wrap_i64, IntKind.wrap_u64, IntKind.wrap_u32, IntKind.wrap_u8, decide_eq_true_eq, decide_eq_false_iff_not, Bool.not_eq_true', Bool.not_eq_false', Bool.not_not, Bool.not_true, Bool.not_false, List.length_cons, List.length_nil, Int.toNat_natCast, UInt8.ofNat_toNat] at *
  all_goals try first | omega | (with_reducible rfl) | (with_reducible exact u8lt _)
  rename_i h
  symm
  refine List.eq_nil_of_length_eq_zero ?_
  cases hx : xs.length with
  | zero => rfl
  | succ n => exact absurd (h (by omega)) (by simp)
theorem clone_p : (FnIs Try.prog 52 ∧ FnOk Try.prog 52 clone_s) ∧ (idsOk clone_s.cs && idsOk clone_s.cs' && Nat.ble clone_s.n clone_s.n') = true :=
  fn_of (l := []) (hi := clone_h) (S := clone_s) (fn := Try.f52) (c := Try.f52.body.get!) tysOk mixOk trivial (by kernel_rfl) (by kernel_rfl) (by kernel_rfl) (by kernel_rfl) (by kernel_rfl) clone_d
theorem clone_m : May Try.prog (52, clone_s.call) := may_call clone_p
theorem clone_n : May Try.prog (52, clone_s.callN) := may_callN clone_p

@[reducible] def number_s : Spec where
  n := 0
  cs := []
  ar := [.lend .u8, .el (.int .u64), .el (.int .i64)]
  pre := fun (xs, n, size, _) => xs.length ≤ 1000000000000 ∧ 0 ≤ n ∧ n < 18446744073709551616 ∧ 0 ≤ size ∧ size ≤ 8
  n' := 1
  cs' := [(0, .row 5 .u8)]
  rs := [.own 0]
  post := .fn fun (xs, n, size, _) => (xs ++ be size.toNat n, ())
@[reducible] def number_a : Ann where
  nx := 1
  cs := [(0, .row 5 .u8)]
  ss := [(1, .el (.int .u64)), (7, .own 0), (8, .el (.int .i64))]
  inv := fun (xs0, n0, i0, _) (xs, n, i, _) => n = n0 ∧ -1 ≤ i ∧ i ≤ i0 ∧ xs ++ be (i + 1).toNat n = xs0 ++ be (i0 + 1).toNat n0
  mu := fun (_, _, i, _) => (i + 1).toNat
@[reducible] def number_h : Hints := ⟨[], [(3, number_a)], []⟩
@[reducible] noncomputable def number_e : Env := ⟨tys, [(52, clone_s.call)]⟩
set_option maxHeartbeats 1000000 in
set_option maxRecDepth 100000 in
theorem number_d : denF number_e number_s number_h Try.f54 := by
  intro xs n size
  repeat' (first | (conv => whnf); first | refine And.intro ?_ ?_ | refine Is.mk ?_ | (intro h; cases h; done) | (intro _))
  all_goals try dsimp only [maxLen, El.ty] at *
  all_goals try trivial
  all_goals repeat (with_reducible cases ‹_ ∧ _›)
  all_goals try subst_eqs
  all_goals try simp only [IntKind.wrap_i64, IntKind.wrap_u64, IntKind.wrap_u32, IntKind.wrap_u8, decide_eq_true_eq, decide_eq_false_iff_not, Bool.not_eq_true', Bool.not_eq_false', Bool.not_not, Bool.not_true, Bool.not_false, List.length_cons, List.length_nil, Int.toNat_natCast, UInt8.ofNat_toNat] at *
  all_goals try first | omega | (with_reducible rfl) | (with_reducible exact u8lt _)
  all_goals
    rename Int => i
    rename List UInt8 => ys
    rename _ ++ be _ n = _ => h8
    have hs : (size - 1 + 9223372036854775808) % 18446744073709551616 - 9223372036854775808 + 1 = size := by omega
    rw [hs] at h8
    have hl := congrArg List.length h8
    simp only [List.length_append, be_length] at hl
  · omega
  · omega
  · rw [hs, ← h8, List.append_assoc]
    congr 1
    obtain ⟨j, rfl⟩ := Int.eq_ofNat_of_zero_le (show 0 ≤ i by omega)
    rw [show ((j : Int) + 1).toNat = j + 1 by omega, show ((j : Int) - 1 + 9223372036854775808) % 18446744073709551616 - 9223372036854775808 + 1 = j by omega]
    simp only [Int.toNat_natCast, be, List.singleton_append]
    congr 2
    have hj : j < 8 := by omega
    rw [show ((8 * (j : Int) + 9223372036854775808) % 18446744073709551616 - 9223372036854775808) % 18446744073709551616 = ((8 * j : Nat) : Int) by omega, Int.toNat_natCast]
    have hb : min (8 * j) IntKind.u64.bits = 8 * j := Nat.min_eq_left (by simp only [IntKind.bits]; omega)
    rw [hb, Int.fdiv_eq_ediv_of_nonneg _ (Int.le_of_lt (Int.pow_pos (by omega)))]
    rw [show (2 : Int) ^ (8 * j) = 256 ^ j by rw [Int.pow_mul]; rfl]
  · have h9 : be (i + 1).toNat n = [] := by rw [show (i + 1).toNat = 0 by omega]; rfl
    rw [h9, List.append_nil] at h8
    exact h8
theorem number_p : (FnIs Try.prog 54 ∧ FnOk Try.prog 54 number_s) ∧ (idsOk number_s.cs && idsOk number_s.cs' && Nat.ble number_s.n number_s.n') = true :=
  fn_of (l := [(52, clone_s.call)]) (hi := number_h) (S := number_s) (fn := Try.f54) (c := Try.f54.body.get!) tysOk mixOk ⟨clone_m, trivial⟩ (by kernel_rfl) (by kernel_rfl) (by kernel_rfl) (by kernel_rfl) (by kernel_rfl) number_d
theorem number_m : May Try.prog (54, number_s.call) := may_call number_p
theorem number_n : May Try.prog (54, number_s.callN) := may_callN number_p

end Go.J

set_option linter.unusedSimpArgs false
set_option linter.unusedVariables false
set_option linter.unusedSectionVars false
namespace Go.J
open Go.Proofs

@[reducible] def u8_s : Spec where
  n := 0
  cs := []
  ar := [.lend .u8, .el (.int .i64)]
  pre := fun (xs, n, _) => xs.length ≤ 1000000000000 ∧ -9223372036854775808 ≤ n ∧ n ≤ 9223372036854775807
  n' := 1
  cs' := [(0, .row 5 .u8)]
  rs := [.own 0]
  post := .fn fun (xs, n, _) => (xs ++ be 1 (n % 18446744073709551616), ())
@[reducible] def u8_h : Hints := ⟨[], [], []⟩
@[reducible] noncomputable def u8_e : Env := ⟨tys, [(54, number_s.call)]⟩
set_option maxHeartbeats 1000000 in
set_option maxRecDepth 100000 in
theorem u8_d : denF u8_e u8_s u8_h Try.f26 := by
  intro xs n
  repeat' (first | (conv => whnf); first | refine And.intro ?_ ?_ | refine Is.mk ?_ | (intro h; cases h; done) | (intro _))
  all_goals try dsimp only [maxLen, El.ty] at *
  all_goals try trivial
  all_goals repeat (with_reducible cases ‹_ ∧ _›)
  all_goals try subst_eqs
  all_goals try simp only [IntKind.wrap_i64, IntKind.wrap_u64, IntKind.wrap_u32, IntKind.wrap_u8, decide_eq_true_eq, decide_eq_false_iff_not, Bool.not_eq_true', Bool.not_eq_false', Bool.not_not, Bool.not_true, Bool.not_false, List.length_cons, List.length_nil, Int.toNat_natCast, UInt8.ofNat_toNat] at *
  all_goals try first | omega | (with_reducible rfl) | (with_reducible exact u8lt _)
theorem u8_p : (FnIs Try.prog 26 ∧ FnOk Try.prog 26 u8_s) ∧ (idsOk u8_s.cs && idsOk u8_s.cs' && Nat.ble u8_s.n u8_s.n') = true :=
  fn_of (l := [(54, number_s.call)]) (hi := u8_h) (S := u8_s) (fn := Try.f26) (c := Try.f26.body.get!) tysOk mixOk ⟨number_m, trivial⟩ (by kernel_rfl) (by kernel_rfl) (by kernel_rfl) (by kernel_rfl) (by kernel_rfl) u8_d
theorem u8_m : May Try.prog (26, u8_s.call) := may_call u8_p
theorem u8_n : May Try.prog (26, u8_s.callN) := may_callN u8_p

@[reducible] def u32_s : Spec where
  n := 0
  cs := []
  ar := [.lend .u8, .el (.int .u32)]
  pre := fun (xs, n, _) => xs.length ≤ 1000000000000 ∧ 0 ≤ n ∧ n < 4294967296
  n' := 1
  cs' := [(0, .row 5 .u8)]
  rs := [.own 0]
  post := .fn fun (xs, n, _) => (xs ++ be 4 n, ())
@[reducible] def u32_h : Hints := ⟨[], [], []⟩
@[reducible] noncomputable def u32_e : Env := ⟨tys, [(54, number_s.call)]⟩
set_option maxHeartbeats 1000000 in
set_option maxRecDepth 100000 in
theorem u32_d : denF u32_e u32_s u32_h Try.f20 := by
  intro xs n
  repeat' (first | (conv => whnf); first | refine And.intro ?_ ?_ | refine Is.mk ?_ | (intro h; cases h; done) | (intro _))
  all_goals try dsimp only [maxLen, El.ty] at *
  all_goals try trivial
  all_goals repeat (with_reducible cases ‹_ ∧ _›)
  all_goals try subst_eqs
  all_goals try simp only [IntKind.wrap_i64, IntKind.wrap_u64, IntKind.wrap_u32, IntKind.wrap_u8, decide_eq_true_eq, decide_eq_false_iff_not, Bool.not_eq_true', Bool.not_eq_false', Bool.not_not, Bool.not_true, Bool.not_false, List.length_cons, List.length_nil, Int.toNat_natCast, UInt8.ofNat_toNat] at *
  all_goals try first | omega | (with_reducible rfl) | (with_reducible exact u8lt _)
  rename_i h _
  rw [show n % 18446744073709551616 = n by omega]
  rfl
theorem u32_p : (FnIs Try.prog 20 ∧ FnOk Try.prog 20 u32_s) ∧ (idsOk u32_s.cs && idsOk u32_s.cs' && Nat.ble u32_s.n u32_s.n') = true :=
  fn_of (l := [(54, number_s.call)]) (hi := u32_h) (S := u32_s) (fn := Try.f20) (c := Try.f20.body.get!) tysOk mixOk ⟨number_m, trivial⟩ (by kernel_rfl) (by kernel_rfl) (by kernel_rfl) (by kernel_rfl) (by kernel_rfl) u32_d
theorem u32_m : May Try.prog (20, u32_s.call) := may_call u32_p
theorem u32_n : May Try.prog (20, u32_s.callN) := may_callN u32_p

@[reducible] def u64_s : Spec where
  n := 0
  cs := []
  ar := [.lend .u8, .el (.int .u64)]
  pre := fun (xs, n, _) => xs.length ≤ 1000000000000 ∧ 0 ≤ n ∧ n < 18446744073709551616
  n' := 1
  cs' := [(0, .row 5 .u8)]
  rs := [.own 0]
  post := .fn fun (xs, n, _) => (xs ++ be 8 n, ())
@[reducible] def u64_h : Hints := ⟨[], [], []⟩
@[reducible] noncomputable def u64_e : Env := ⟨tys, [(54, number_s.call)]⟩
set_option maxHeartbeats 1000000 in
set_option maxRecDepth 100000 in
theorem u64_d : denF u64_e u64_s u64_h Try.f29 := by
  intro xs n
  repeat' (first | (conv => whnf); first | refine And.intro ?_ ?_ | refine Is.mk ?_ | (intro h; cases h; done) | (intro _))
  all_goals try dsimp only [maxLen, El.ty] at *
  all_goals try trivial
  all_goals repeat (with_reducible cases ‹_ ∧ _›)
  all_goals try subst_eqs
  all_goals try simp only [IntKind.wrap_i64, IntKind.wrap_u64, IntKind.wrap_u32, IntKind.wrap_u8, decide_eq_true_eq, decide_eq_false_iff_not, Bool.not_eq_true', Bool.not_eq_false', Bool.not_not, Bool.not_true, Bool.not_false, List.length_cons, List.length_nil, Int.toNat_natCast, UInt8.ofNat_toNat] at *
  all_goals try first | omega | (with_reducible rfl) | (with_reducible exact u8lt _)
theorem u64_p : (FnIs Try.prog 29 ∧ FnOk Try.prog 29 u64_s) ∧ (idsOk u64_s.cs && idsOk u64_s.cs' && Nat.ble u64_s.n u64_s.n') = true :=
  fn_of (l := [(54, number_s.call)]) (hi := u64_h) (S := u64_s) (fn := Try.f29) (c := Try.f29.body.get!) tysOk mixOk ⟨number_m, trivial⟩ (by kernel_rfl) (by kernel_rfl) (by kernel_rfl) (by kernel_rfl) (by kernel_rfl) u64_d
theorem u64_m : May Try.prog (29, u64_s.call) := may_call u64_p
theorem u64_n : May Try.prog (29, u64_s.callN) := may_callN u64_p

/-- What a text is written as. -/
def txt (s : List UInt8) : List UInt8 := UInt8.ofNat (min s.length 255) :: s.take 255
@[reducible] def text_s : Spec where
  n := 0
  cs := []
  ar := [.lend .u8, .el .str]
  pre := fun (xs, s, _) => xs.length ≤ 100000000000
  n' := 1
  cs' := [(0, .row 5 .u8)]
  rs := [.own 0]
  post := .fn fun (xs, s, _) => (xs ++ txt s, ())
@[reducible] def text_h : Hints := ⟨[], [], []⟩
@[reducible] noncomputable def text_e : Env := ⟨tys, [(26, u8_s.call)]⟩
set_option maxHeartbeats 1000000 in
set_option maxRecDepth 100000 in
theorem text_d : denF text_e text_s text_h Try.f21 := by
  intro xs s
  repeat' (first | (conv => whnf); first | refine And.intro ?_ ?_ | refine Is.mk ?_ | (intro h; cases h; done) | (intro _))
  all_goals try dsimp only [maxLen, El.ty] at *
  all_goals try trivial
  all_goals repeat (with_reducible cases ‹_ ∧ _›)
  all_goals try subst_eqs
  all_goals try simp only [IntKind.wrap_i64, IntKind.wrap_u64, IntKind.wrap_u32, IntKind.wrap_u8, decide_eq_true_eq, decide_eq_false_iff_not, Bool.not_eq_true', Bool.not_eq_false', Bool.not_not, Bool.not_true, Bool.not_false, List.length_cons, List.length_nil, Int.toNat_natCast, UInt8.ofNat_toNat] at *
  all_goals try first | omega | (with_reducible rfl) | (with_reducible exact u8lt _)
  all_goals
    have e : List.take ((if 255 < (s.length : Int) then 255 else (s.length : Int)) - 0).toNat (List.drop (Int.toNat 0) s) = s.take 255 := by
      rw [show Int.toNat 0 = 0 from rfl, List.drop_zero]
      split
      · rfl
      · rw [List.take_of_length_le (by omega), List.take_of_length_le (by omega)]
    rw [e]
  all_goals simp only [List.length_append, be_length, List.length_take]
  all_goals try omega
  rw [List.append_assoc]
  congr 1
  simp only [be, txt, List.singleton_append]
  congr 2
  omega
theorem text_p : (FnIs Try.prog 21 ∧ FnOk Try.prog 21 text_s) ∧ (idsOk text_s.cs && idsOk text_s.cs' && Nat.ble text_s.n text_s.n') = true :=
  fn_of (l := [(26, u8_s.call)]) (hi := text_h) (S := text_s) (fn := Try.f21) (c := Try.f21.body.get!) tysOk mixOk ⟨u8_m, trivial⟩ (by kernel_rfl) (by kernel_rfl) (by kernel_rfl) (by kernel_rfl) (by kernel_rfl) text_d
theorem text_m : May Try.prog (21, text_s.call) := may_call text_p
theorem text_n : May Try.prog (21, text_s.callN) := may_callN text_p

/-- A reader's bytes, place, badness: may so many be taken? -/
def rdOk (xs : List UInt8) (at_ : Int) (bad : Bool) (n : Int) : Bool := !bad && decide (at_ + n ≤ xs.length)
/-- What is taken. -/
def tk (xs : List UInt8) (at_ : Int) (bad : Bool) (n : Int) : List UInt8 := if rdOk xs at_ bad n then (xs.drop at_.toNat).take n.toNat else []
/-- The place behind it. -/
def adv (xs : List UInt8) (at_ : Int) (bad : Bool) (n : Int) : Int := if rdOk xs at_ bad n then at_ + n else at_
theorem adv_in (xs : List UInt8) (at_ : Int) (bad : Bool) (n : Int) (h : 0 ≤ at_ ∧ at_ ≤ xs.length) (hn : 0 ≤ n) : 0 ≤ adv xs at_ bad n ∧ adv xs at_ bad n ≤ xs.length := by
  unfold adv rdOk
  cases bad <;> simp <;> (try split) <;> omega
theorem tk_len (xs : List UInt8) (at_ : Int) (bad : Bool) (n : Int) (h : 0 ≤ at_) (hn : 0 ≤ n) (hk : rdOk xs at_ bad n = true) : (tk xs at_ bad n).length = n.toNat := by
  unfold tk
  rw [if_pos hk]
  simp only [rdOk, Bool.and_eq_true, decide_eq_true_eq] at hk
  simp only [List.length_take, List.length_drop]
  omega
theorem tk_le (xs : List UInt8) (at_ : Int) (bad : Bool) (n : Int) : (tk xs at_ bad n).length ≤ n.toNat := by
  unfold tk
  split
  · simp only [List.length_take]; omega
  · simp

@[reducible] def rdr : Sh := .cons (.el (.rd .u8)) (.cons (.el (.int .i64)) (.cons (.el .bool) .nil))

@[reducible] def read_s : Spec where
  n := 0
  cs := []
  ar := [.el (.rd .u8)]
  pre := fun (xs, _) => xs.length ≤ 1000000000000
  n' := 1
  cs' := [(0, .own rdr)]
  rs := [.ref 0]
  post := .fn fun (xs, _) => (xs, 0, false, ())
@[reducible] def read_h : Hints := ⟨[], [], []⟩
@[reducible] noncomputable def read_e : Env := ⟨tys, [(52, clone_s.call)]⟩
set_option maxHeartbeats 1000000 in
set_option maxRecDepth 100000 in
theorem read_d : denF read_e read_s read_h Try.f17 := by
  intro xs
  repeat' (first | (conv => whnf); first | refine And.intro ?_ ?_ | refine Is.mk ?_ | (intro h; cases h; done) | (intro _))
  all_goals try dsimp only [maxLen, El.ty] at *
  all_goals try trivial
  all_goals repeat (with_reducible cases ‹_ ∧ _›)
  all_goals try subst_eqs
  all_goals try simp only [IntKind.wrap_i64, IntKind.wrap_u64, IntKind.wrap_u32, IntKind.wrap_u8, decide_eq_true_eq, decide_eq_false_iff_not, Bool.not_eq_true', Bool.not_eq_false', Bool.not_not, Bool.not_true, Bool.not_false, List.length_cons, List.length_nil, Int.toNat_natCast, UInt8.ofNat_toNat] at *
  all_goals try first | omega | (with_reducible rfl) | (with_reducible exact u8lt _)
theorem read_p : (FnIs Try.prog 17 ∧ FnOk Try.prog 17 read_s) ∧ (idsOk read_s.cs && idsOk read_s.cs' && Nat.ble read_s.n read_s.n') = true :=
  fn_of (l := [(52, clone_s.call)]) (hi := read_h) (S := read_s) (fn := Try.f17) (c := Try.f17.body.get!) tysOk mixOk ⟨clone_m, trivial⟩ (by kernel_rfl) (by kernel_rfl) (by kernel_rfl) (by kernel_rfl) (by kernel_rfl) read_d
theorem read_m : May Try.prog (17, read_s.call) := may_call read_p
theorem read_n : May Try.prog (17, read_s.callN) := may_callN read_p

@[reducible] def take_s : Spec where
  n := 1
  cs := [(0, .own rdr)]
  ar := [.ref 0, .el (.int .i64)]
  pre := fun (xs, at_, _, n, _) => 0 ≤ at_ ∧ at_ ≤ xs.length ∧ 0 ≤ n ∧ n ≤ 9223372036854775807
  n' := 1
  cs' := [(0, .own rdr)]
  rs := [.el (.rd .u8)]
  post := .fn fun (xs, at_, bad, n, _) => (xs, adv xs at_ bad n, !rdOk xs at_ bad n, tk xs at_ bad n, ())
@[reducible] def take_h : Hints := ⟨[(1, (tks 0 4 (.take 4 true (tks 5 13 .done)))), (5, (tks 0 15 (.last 15 false [] .done)))], [], []⟩
@[reducible] noncomputable def take_e : Env := ⟨tys, []⟩
set_option maxHeartbeats 1000000 in
set_option maxRecDepth 100000 in
theorem take_d : denF take_e take_s take_h Try.f53 := by
  intro xs at_ bad n
  repeat' (first | (conv => whnf); first | refine And.intro ?_ ?_ | refine Is.mk ?_ | (intro h; cases h; done) | (intro _))
  all_goals try dsimp only [maxLen, El.ty] at *
  all_goals try trivial
  all_goals repeat (with_reducible cases ‹_ ∧ _›)
  all_goals try subst_eqs
  all_goals try simp only [IntKind.wrap_i64, IntKind.wrap_u64, IntKind.wrap_u32, IntKind.wrap_u8, decide_eq_true_eq, decide_eq_false_iff_not, Bool.not_eq_true', Bool.not_eq_false', Bool.not_not, Bool.not_true, Bool.not_false, List.length_cons, List.length_nil, Int.toNat_natCast, UInt8.ofNat_toNat] at *
  all_goals try first | omega | (with_reducible rfl) | (with_reducible exact u8lt _)
  all_goals subst_vars
  all_goals first
    | (simp [adv, tk, rdOk]; done)
    | (have h9 : ¬ (at_ + n ≤ (xs.length : Int)) := by omega
       simp [adv, tk, rdOk, h9]; done)
    | (have h9 : at_ + n ≤ (xs.length : Int) := by omega
       simp [adv, tk, rdOk, h9]
       try omega)
  congr 1
  · omega
  · congr 1; omega
theorem take_p : (FnIs Try.prog 53 ∧ FnOk Try.prog 53 take_s) ∧ (idsOk take_s.cs && idsOk take_s.cs' && Nat.ble take_s.n take_s.n') = true :=
  fn_of (l := []) (hi := take_h) (S := take_s) (fn := Try.f53) (c := Try.f53.body.get!) tysOk mixOk trivial (by kernel_rfl) (by kernel_rfl) (by kernel_rfl) (by kernel_rfl) (by kernel_rfl) take_d
theorem take_m : May Try.prog (53, take_s.call) := may_call take_p
theorem take_n : May Try.prog (53, take_s.callN) := may_callN take_p

/-- The number that bytes tell. -/
def fb (l : List UInt8) : Int := l.foldl (fun n c => n * 256 + c.toNat) 0
theorem foldl_lt : ∀ (l : List UInt8) (k : Nat) (m : Int), 0 ≤ m ∧ m < 256 ^ k → 0 ≤ l.foldl (fun n c => n * 256 + (c.toNat : Int)) m ∧ l.foldl (fun n c => n * 256 + (c.toNat : Int)) m < 256 ^ (k + l.length)
  | [], k, m, h => h
  | c :: l, k, m, h => by
    have hc : c.toNat < 256 := c.toNat_lt
    have := foldl_lt l (k + 1) (m * 256 + c.toNat) (by rw [Int.pow_succ]; omega)
    rw [List.foldl_cons, List.length_cons, show k + (l.length + 1) = k + 1 + l.length by omega]
    exact this
theorem fb_lt (l : List UInt8) : 0 ≤ fb l ∧ fb l < 256 ^ l.length := by
  have := foldl_lt l 0 0 (by decide)
  rwa [Nat.zero_add] at this
theorem fb_snoc (l : List UInt8) (c : UInt8) : fb (l ++ [c]) = fb l * 256 + c.toNat := by simp [fb]
theorem fb_nil : fb [] = 0 := rfl

@[reducible] def rnum_s : Spec where
  n := 1
  cs := [(0, .own rdr)]
  ar := [.ref 0, .el (.int .i64)]
  pre := fun (xs, at_, _, n, _) => 0 ≤ at_ ∧ at_ ≤ xs.length ∧ 0 ≤ n ∧ n ≤ 8
  n' := 1
  cs' := [(0, .own rdr)]
  rs := [.el (.int .u64)]
  post := .fn fun (xs, at_, bad, n, _) => (xs, adv xs at_ bad n, !rdOk xs at_ bad n, fb (tk xs at_ bad n), ())
theorem u64_shl8_or (n : Int) (c : UInt8) (h : 0 ≤ n ∧ n < 256 ^ 7) : bits .or .u64 (n * 2 ^ min (Int.toNat 8) IntKind.u64.bits % 18446744073709551616) (c.toNat % 18446744073709551616) = n * 256 + c.toNat := by
  have hc : c.toNat < 256 := c.toNat_lt
  have e : min (Int.toNat 8) IntKind.u64.bits = 8 := by decide
  rw [e, show (2 : Int) ^ 8 = 256 by decide]
  have h7 : n < 72057594037927936 := by have := h.2; simpa using this
  rw [show n * 256 % 18446744073709551616 = n * 256 by omega, show (c.toNat : Int) % 18446744073709551616 = c.toNat by omega]
  have hw : ∀ n : Int, 0 ≤ n → n < 2 ^ 64 → IntKind.u64.wrap n = n := fun n h1 h2 => by rw [IntKind.wrap_u64]; omega
  exact bits_join .u64 64 (by decide) hw 8 (n * 256) c.toNat (by omega) (by omega) (by omega) (by omega) (by omega) (by omega)
theorem take_succ_getD (l : List UInt8) (i : Nat) (h : i < l.length) : l.take (i + 1) = l.take i ++ [l.getD i 0] := by
  rw [List.take_add_one, List.getElem?_eq_getElem h]
  simp [List.getD, List.getElem?_eq_getElem h]

@[reducible] def rnum_a : Ann where
  nx := 1
  cs := [(0, .own rdr)]
  ss := [(5, .el (.int .u64)), (10, .el (.rd .u8)), (11, .el (.int .i64)), (12, .el (.int .i64))]
  inv := fun (b0, a0, d0, _, l0, k0, _, _) (b, a, d, n, l, k, i, _) => b = b0 ∧ a = a0 ∧ d = d0 ∧ l = l0 ∧ k = k0 ∧ 0 ≤ i ∧ i ≤ l.length ∧ n = fb (l.take i.toNat)
  mu := fun (_, _, _, _, l, _, i, _) => l.length - i.toNat
@[reducible] def rnum_h : Hints := ⟨[], [(3, rnum_a)], []⟩
@[reducible] noncomputable def rnum_e : Env := ⟨tys, [(53, take_s.call)]⟩
set_option maxHeartbeats 1000000 in
set_option maxRecDepth 100000 in
theorem rnum_d : denF rnum_e rnum_s rnum_h Try.f55 := by
  intro xs at_ bad n
  repeat' (first | (conv => whnf); first | refine And.intro ?_ ?_ | refine Is.mk ?_ | (intro h; cases h; done) | (intro _))
  all_goals try dsimp only [maxLen, El.ty] at *
  all_goals try trivial
  all_goals repeat (with_reducible cases ‹_ ∧ _›)
  all_goals try subst_eqs
  all_goals try simp only [IntKind.wrap_i64, IntKind.wrap_u64, IntKind.wrap_u32, IntKind.wrap_u8, decide_eq_true_eq, decide_eq_false_iff_not, Bool.not_eq_true', Bool.not_eq_false', Bool.not_not, Bool.not_true, Bool.not_false, List.length_cons, List.length_nil, Int.toNat_natCast, UInt8.ofNat_toNat] at *
  all_goals try first | omega | (with_reducible rfl) | (with_reducible exact u8lt _)
  all_goals rename_i _ i _ _ _ _ _ _ _ _ _
  · have h7 := tk_le xs at_ bad n
    rw [u64_shl8_or, show ((i + 1 + 9223372036854775808) % 18446744073709551616 - 9223372036854775808).toNat = i.toNat + 1 by omega, take_succ_getD _ _ (by omega), fb_snoc]
    · rfl
    · have := fb_lt (List.take i.toNat (tk xs at_ bad n))
      have hl : (List.take i.toNat (tk xs at_ bad n)).length ≤ 7 := by rw [List.length_take]; omega
      exact ⟨this.1, Int.lt_of_lt_of_le this.2 (by exact_mod_cast Nat.pow_le_pow_right (by decide) hl)⟩
  · rw [List.take_of_length_le (by omega)]
theorem rnum_p : (FnIs Try.prog 55 ∧ FnOk Try.prog 55 rnum_s) ∧ (idsOk rnum_s.cs && idsOk rnum_s.cs' && Nat.ble rnum_s.n rnum_s.n') = true :=
  fn_of (l := [(53, take_s.call)]) (hi := rnum_h) (S := rnum_s) (fn := Try.f55) (c := Try.f55.body.get!) tysOk mixOk ⟨take_m, trivial⟩ (by kernel_rfl) (by kernel_rfl) (by kernel_rfl) (by kernel_rfl) (by kernel_rfl) rnum_d
theorem rnum_m : May Try.prog (55, rnum_s.call) := may_call rnum_p
theorem rnum_n : May Try.prog (55, rnum_s.callN) := may_callN rnum_p

end Go.J

set_option linter.unusedSimpArgs false
set_option linter.unusedVariables false
set_option linter.unusedSectionVars false
namespace Go.J
open Go.Proofs

theorem fb_tk_lt (xs : List UInt8) (at_ : Int) (bad : Bool) (n : Int) : 0 ≤ fb (tk xs at_ bad n) ∧ fb (tk xs at_ bad n) < ((256 ^ n.toNat : Nat) : Int) := by
  have h1 := fb_lt (tk xs at_ bad n)
  have h2 := tk_le xs at_ bad n
  have h3 : 256 ^ (tk xs at_ bad n).length ≤ 256 ^ n.toNat := Nat.pow_le_pow_right (by decide) h2
  have h4 : ((256 ^ (tk xs at_ bad n).length : Nat) : Int) = 256 ^ (tk xs at_ bad n).length := Int.natCast_pow 256 _
  exact ⟨h1.1, Int.lt_of_lt_of_le h1.2 (h4 ▸ Int.ofNat_le.2 h3)⟩
theorem fb1 (xs : List UInt8) (at_ : Int) (bad : Bool) : 0 ≤ fb (tk xs at_ bad 1) ∧ fb (tk xs at_ bad 1) < 256 := fb_tk_lt xs at_ bad 1
theorem fb4 (xs : List UInt8) (at_ : Int) (bad : Bool) : 0 ≤ fb (tk xs at_ bad 4) ∧ fb (tk xs at_ bad 4) < 4294967296 := fb_tk_lt xs at_ bad 4
theorem fb8 (xs : List UInt8) (at_ : Int) (bad : Bool) : 0 ≤ fb (tk xs at_ bad 8) ∧ fb (tk xs at_ bad 8) < 18446744073709551616 := fb_tk_lt xs at_ bad 8

@[reducible] def ru8_s : Spec where
  n := 1
  cs := [(0, .own rdr)]
  ar := [.ref 0]
  pre := fun (xs, at_, _, _) => 0 ≤ at_ ∧ at_ ≤ xs.length
  n' := 1
  cs' := [(0, .own rdr)]
  rs := [.el (.int .i64)]
  post := .fn fun (xs, at_, bad, _) => (xs, adv xs at_ bad 1, !rdOk xs at_ bad 1, fb (tk xs at_ bad 1), ())
@[reducible] def ru8_h : Hints := ⟨[], [], []⟩
@[reducible] noncomputable def ru8_e : Env := ⟨tys, [(55, rnum_s.call)]⟩
set_option maxHeartbeats 1000000 in
set_option maxRecDepth 100000 in
theorem ru8_d : denF ru8_e ru8_s ru8_h Try.f33 := by
  intro xs at_ bad
  repeat' (first | (conv => whnf); first | refine And.intro ?_ ?_ | refine Is.mk ?_ | (intro h; cases h; done) | (intro _))
  all_goals try dsimp only [maxLen, El.ty] at *
  all_goals try trivial
  all_goals repeat (with_reducible cases ‹_ ∧ _›)
  all_goals try subst_eqs
  all_goals try simp only [IntKind.wrap_i64, IntKind.wrap_u64, IntKind.wrap_u32, IntKind.wrap_u8, decide_eq_true_eq, decide_eq_false_iff_not, Bool.not_eq_true', Bool.not_eq_false', Bool.not_not, Bool.not_true, Bool.not_false, List.length_cons, List.length_nil, Int.toNat_natCast, UInt8.ofNat_toNat] at *
  all_goals try first | omega | (with_reducible rfl) | (with_reducible exact u8lt _)
  have := fb1 xs at_ bad
  omega
theorem ru8_p : (FnIs Try.prog 33 ∧ FnOk Try.prog 33 ru8_s) ∧ (idsOk ru8_s.cs && idsOk ru8_s.cs' && Nat.ble ru8_s.n ru8_s.n') = true :=
  fn_of (l := [(55, rnum_s.call)]) (hi := ru8_h) (S := ru8_s) (fn := Try.f33) (c := Try.f33.body.get!) tysOk mixOk ⟨rnum_m, trivial⟩ (by kernel_rfl) (by kernel_rfl) (by kernel_rfl) (by kernel_rfl) (by kernel_rfl) ru8_d
theorem ru8_m : May Try.prog (33, ru8_s.call) := may_call ru8_p
theorem ru8_n : May Try.prog (33, ru8_s.callN) := may_callN ru8_p

@[reducible] def ru32_s : Spec where
  n := 1
  cs := [(0, .own rdr)]
  ar := [.ref 0]
  pre := fun (xs, at_, _, _) => 0 ≤ at_ ∧ at_ ≤ xs.length
  n' := 1
  cs' := [(0, .own rdr)]
  rs := [.el (.int .u32)]
  post := .fn fun (xs, at_, bad, _) => (xs, adv xs at_ bad 4, !rdOk xs at_ bad 4, fb (tk xs at_ bad 4), ())
@[reducible] def ru32_h : Hints := ⟨[], [], []⟩
@[reducible] noncomputable def ru32_e : Env := ⟨tys, [(55, rnum_s.call)]⟩
set_option maxHeartbeats 1000000 in
set_option maxRecDepth 100000 in
theorem ru32_d : denF ru32_e ru32_s ru32_h Try.f34 := by
  intro xs at_ bad
  repeat' (first | (conv => whnf); first | refine And.intro ?_ ?_ | refine Is.mk ?_ | (intro h; cases h; done) | (intro _))
  all_goals try dsimp only [maxLen, El.ty] at *
  all_goals try trivial
  all_goals repeat (with_reducible cases ‹_ ∧ _›)
  all_goals try subst_eqs
  all_goals try simp only [IntKind.wrap_i64, IntKind.wrap_u64, IntKind.wrap_u32, IntKind.wrap_u8, decide_eq_true_eq, decide_eq_false_iff_not, Bool.not_eq_true', Bool.not_eq_false', Bool.not_not, Bool.not_true, Bool.not_false, List.length_cons, List.length_nil, Int.toNat_natCast, UInt8.ofNat_toNat] at *
  all_goals try first | omega | (with_reducible rfl) | (with_reducible exact u8lt _)
  have := fb4 xs at_ bad
  omega
theorem ru32_p : (FnIs Try.prog 34 ∧ FnOk Try.prog 34 ru32_s) ∧ (idsOk ru32_s.cs && idsOk ru32_s.cs' && Nat.ble ru32_s.n ru32_s.n') = true :=
  fn_of (l := [(55, rnum_s.call)]) (hi := ru32_h) (S := ru32_s) (fn := Try.f34) (c := Try.f34.body.get!) tysOk mixOk ⟨rnum_m, trivial⟩ (by kernel_rfl) (by kernel_rfl) (by kernel_rfl) (by kernel_rfl) (by kernel_rfl) ru32_d
theorem ru32_m : May Try.prog (34, ru32_s.call) := may_call ru32_p
theorem ru32_n : May Try.prog (34, ru32_s.callN) := may_callN ru32_p

@[reducible] def ru64_s : Spec where
  n := 1
  cs := [(0, .own rdr)]
  ar := [.ref 0]
  pre := fun (xs, at_, _, _) => 0 ≤ at_ ∧ at_ ≤ xs.length
  n' := 1
  cs' := [(0, .own rdr)]
  rs := [.el (.int .u64)]
  post := .fn fun (xs, at_, bad, _) => (xs, adv xs at_ bad 8, !rdOk xs at_ bad 8, fb (tk xs at_ bad 8), ())
@[reducible] def ru64_h : Hints := ⟨[], [], []⟩
@[reducible] noncomputable def ru64_e : Env := ⟨tys, [(55, rnum_s.call)]⟩
set_option maxHeartbeats 1000000 in
set_option maxRecDepth 100000 in
theorem ru64_d : denF ru64_e ru64_s ru64_h Try.f35 := by
  intro xs at_ bad
  repeat' (first | (conv => whnf); first | refine And.intro ?_ ?_ | refine Is.mk ?_ | (intro h; cases h; done) | (intro _))
  all_goals try dsimp only [maxLen, El.ty] at *
  all_goals try trivial
  all_goals repeat (with_reducible cases ‹_ ∧ _›)
  all_goals try subst_eqs
  all_goals try simp only [IntKind.wrap_i64, IntKind.wrap_u64, IntKind.wrap_u32, IntKind.wrap_u8, decide_eq_true_eq, decide_eq_false_iff_not, Bool.not_eq_true', Bool.not_eq_false', Bool.not_not, Bool.not_true, Bool.not_false, List.length_cons, List.length_nil, Int.toNat_natCast, UInt8.ofNat_toNat] at *
  all_goals try first | omega | (with_reducible rfl) | (with_reducible exact u8lt _)
theorem ru64_p : (FnIs Try.prog 35 ∧ FnOk Try.prog 35 ru64_s) ∧ (idsOk ru64_s.cs && idsOk ru64_s.cs' && Nat.ble ru64_s.n ru64_s.n') = true :=
  fn_of (l := [(55, rnum_s.call)]) (hi := ru64_h) (S := ru64_s) (fn := Try.f35) (c := Try.f35.body.get!) tysOk mixOk ⟨rnum_m, trivial⟩ (by kernel_rfl) (by kernel_rfl) (by kernel_rfl) (by kernel_rfl) (by kernel_rfl) ru64_d
theorem ru64_m : May Try.prog (35, ru64_s.call) := may_call ru64_p
theorem ru64_n : May Try.prog (35, ru64_s.callN) := may_callN ru64_p

/-- A digest that is read. -/
def sumv (xs : List UInt8) (at_ : Int) (bad : Bool) : List UInt8 := if rdOk xs at_ bad 32 then (xs.drop at_.toNat).take 32 else List.replicate 32 0
@[reducible] def rsum_s : Spec where
  n := 1
  cs := [(0, .own rdr)]
  ar := [.ref 0]
  pre := fun (xs, at_, _, _) => 0 ≤ at_ ∧ at_ ≤ xs.length
  n' := 1
  cs' := [(0, .own rdr)]
  rs := [.el (.ar 32 .u8)]
  post := .fn fun (xs, at_, bad, _) => (xs, adv xs at_ bad 32, !rdOk xs at_ bad 32, sumv xs at_ bad, ())
@[reducible] def rsum_h : Hints := ⟨[(2, (tks 0 2 (.last 2 false [0] (.last 3 false [] .done))))], [], []⟩
@[reducible] noncomputable def rsum_e : Env := ⟨tys, [(53, take_s.call)]⟩
set_option maxHeartbeats 1000000 in
set_option maxRecDepth 100000 in
theorem rsum_d : denF rsum_e rsum_s rsum_h Try.f40 := by
  intro xs at_ bad
  repeat' (first | (conv => whnf); first | refine And.intro ?_ ?_ | refine Is.mk ?_ | (intro h; cases h; done) | (intro _))
  all_goals try dsimp only [maxLen, El.ty] at *
  all_goals try trivial
  all_goals repeat (with_reducible cases ‹_ ∧ _›)
  all_goals try subst_eqs
  all_goals try simp only [IntKind.wrap_i64, IntKind.wrap_u64, IntKind.wrap_u32, IntKind.wrap_u8, decide_eq_true_eq, decide_eq_false_iff_not, Bool.not_eq_true', Bool.not_eq_false', Bool.not_not, Bool.not_true, Bool.not_false, List.length_cons, List.length_nil, Int.toNat_natCast, UInt8.ofNat_toNat] at *
  all_goals try first | omega | (with_reducible rfl) | (with_reducible exact u8lt _)
  unfold sumv
  cases hk : rdOk xs at_ bad 32
  · simp only [tk, hk, Bool.false_eq_true, if_false]
    rfl
  · have hl := tk_len xs at_ bad 32 (by assumption) (by decide) hk
    rw [if_pos rfl, show ((32 : Nat) - 0 : Int).toNat = 32 by decide, show Int.toNat 0 = 0 from rfl, List.take_zero, List.nil_append, List.drop_of_length_le (by rw [List.length_replicate]; omega), List.append_nil, List.take_of_length_le (by omega)]
    unfold tk
    rw [if_pos hk]
    rfl
theorem rsum_p : (FnIs Try.prog 40 ∧ FnOk Try.prog 40 rsum_s) ∧ (idsOk rsum_s.cs && idsOk rsum_s.cs' && Nat.ble rsum_s.n rsum_s.n') = true :=
  fn_of (l := [(53, take_s.call)]) (hi := rsum_h) (S := rsum_s) (fn := Try.f40) (c := Try.f40.body.get!) tysOk mixOk ⟨take_m, trivial⟩ (by kernel_rfl) (by kernel_rfl) (by kernel_rfl) (by kernel_rfl) (by kernel_rfl) rsum_d
theorem rsum_m : May Try.prog (40, rsum_s.call) := may_call rsum_p
theorem rsum_n : May Try.prog (40, rsum_s.callN) := may_callN rsum_p

@[reducible] def rat_s : Spec where
  n := 1
  cs := [(0, .own rdr)]
  ar := [.ref 0]
  pre := fun _ => True
  n' := 1
  cs' := [(0, .own rdr)]
  rs := [.el (.int .i64)]
  post := .fn fun (xs, at_, bad, _) => (xs, at_, bad, at_, ())
@[reducible] def rat_h : Hints := ⟨[], [], []⟩
@[reducible] noncomputable def rat_e : Env := ⟨tys, []⟩
set_option maxHeartbeats 1000000 in
set_option maxRecDepth 100000 in
theorem rat_d : denF rat_e rat_s rat_h Try.f23 := by
  intro xs at_ bad
  repeat' (first | (conv => whnf); first | refine And.intro ?_ ?_ | refine Is.mk ?_ | (intro h; cases h; done) | (intro _))
  all_goals try dsimp only [maxLen, El.ty] at *
  all_goals try trivial
  all_goals repeat (with_reducible cases ‹_ ∧ _›)
  all_goals try subst_eqs
  all_goals try simp only [IntKind.wrap_i64, IntKind.wrap_u64, IntKind.wrap_u32, IntKind.wrap_u8, decide_eq_true_eq, decide_eq_false_iff_not, Bool.not_eq_true', Bool.not_eq_false', Bool.not_not, Bool.not_true, Bool.not_false, List.length_cons, List.length_nil, Int.toNat_natCast, UInt8.ofNat_toNat] at *
  all_goals try first | omega | (with_reducible rfl) | (with_reducible exact u8lt _)
theorem rat_p : (FnIs Try.prog 23 ∧ FnOk Try.prog 23 rat_s) ∧ (idsOk rat_s.cs && idsOk rat_s.cs' && Nat.ble rat_s.n rat_s.n') = true :=
  fn_of (l := []) (hi := rat_h) (S := rat_s) (fn := Try.f23) (c := Try.f23.body.get!) tysOk mixOk trivial (by kernel_rfl) (by kernel_rfl) (by kernel_rfl) (by kernel_rfl) (by kernel_rfl) rat_d
theorem rat_m : May Try.prog (23, rat_s.call) := may_call rat_p
theorem rat_n : May Try.prog (23, rat_s.callN) := may_callN rat_p

@[reducible] def rbad_s : Spec where
  n := 1
  cs := [(0, .own rdr)]
  ar := [.ref 0]
  pre := fun _ => True
  n' := 1
  cs' := [(0, .own rdr)]
  rs := [.el .bool]
  post := .fn fun (xs, at_, bad, _) => (xs, at_, bad, bad, ())
@[reducible] def rbad_h : Hints := ⟨[], [], []⟩
@[reducible] noncomputable def rbad_e : Env := ⟨tys, []⟩
set_option maxHeartbeats 1000000 in
set_option maxRecDepth 100000 in
theorem rbad_d : denF rbad_e rbad_s rbad_h Try.f22 := by
  intro xs at_ bad
  repeat' (first | (conv => whnf); first | refine And.intro ?_ ?_ | refine Is.mk ?_ | (intro h; cases h; done) | (intro _))
  all_goals try dsimp only [maxLen, El.ty] at *
  all_goals try trivial
  all_goals repeat (with_reducible cases ‹_ ∧ _›)
  all_goals try subst_eqs
  all_goals try simp only [IntKind.wrap_i64, IntKind.wrap_u64, IntKind.wrap_u32, IntKind.wrap_u8, decide_eq_true_eq, decide_eq_false_iff_not, Bool.not_eq_true', Bool.not_eq_false', Bool.not_not, Bool.not_true, Bool.not_false, List.length_cons, List.length_nil, Int.toNat_natCast, UInt8.ofNat_toNat] at *
  all_goals try first | omega | (with_reducible rfl) | (with_reducible exact u8lt _)
theorem rbad_p : (FnIs Try.prog 22 ∧ FnOk Try.prog 22 rbad_s) ∧ (idsOk rbad_s.cs && idsOk rbad_s.cs' && Nat.ble rbad_s.n rbad_s.n') = true :=
  fn_of (l := []) (hi := rbad_h) (S := rbad_s) (fn := Try.f22) (c := Try.f22.body.get!) tysOk mixOk trivial (by kernel_rfl) (by kernel_rfl) (by kernel_rfl) (by kernel_rfl) (by kernel_rfl) rbad_d
theorem rbad_m : May Try.prog (22, rbad_s.call) := may_call rbad_p
theorem rbad_n : May Try.prog (22, rbad_s.callN) := may_callN rbad_p

@[reducible] def rend_s : Spec where
  n := 1
  cs := [(0, .own rdr)]
  ar := [.ref 0]
  pre := fun (xs, at_, _, _) => 0 ≤ at_ ∧ at_ ≤ xs.length
  n' := 1
  cs' := [(0, .own rdr)]
  rs := [.el .bool]
  post := .fn fun (xs, at_, bad, _) => (xs, at_, bad, !bad && decide (at_ = xs.length), ())
@[reducible] def rend_h : Hints := ⟨[(1, (tks 0 5 (.take 5 true (tks 6 11 (.last 17 false [] .done)))))], [], []⟩
@[reducible] noncomputable def rend_e : Env := ⟨tys, []⟩
set_option maxHeartbeats 1000000 in
set_option maxRecDepth 100000 in
theorem rend_d : denF rend_e rend_s rend_h Try.f36 := by
  intro xs at_ bad
  repeat' (first | (conv => whnf); first | refine And.intro ?_ ?_ | refine Is.mk ?_ | (intro h; cases h; done) | (intro _))
  all_goals try dsimp only [maxLen, El.ty] at *
  all_goals try trivial
  all_goals repeat (with_reducible cases ‹_ ∧ _›)
  all_goals try subst_eqs
  all_goals try simp only [IntKind.wrap_i64, IntKind.wrap_u64, IntKind.wrap_u32, IntKind.wrap_u8, decide_eq_true_eq, decide_eq_false_iff_not, Bool.not_eq_true', Bool.not_eq_false', Bool.not_not, Bool.not_true, Bool.not_false, List.length_cons, List.length_nil, Int.toNat_natCast, UInt8.ofNat_toNat] at *
  all_goals try first | omega | (with_reducible rfl) | (with_reducible exact u8lt _)
  all_goals (subst_vars; simp)
theorem rend_p : (FnIs Try.prog 36 ∧ FnOk Try.prog 36 rend_s) ∧ (idsOk rend_s.cs && idsOk rend_s.cs' && Nat.ble rend_s.n rend_s.n') = true :=
  fn_of (l := []) (hi := rend_h) (S := rend_s) (fn := Try.f36) (c := Try.f36.body.get!) tysOk mixOk trivial (by kernel_rfl) (by kernel_rfl) (by kernel_rfl) (by kernel_rfl) (by kernel_rfl) rend_d
theorem rend_m : May Try.prog (36, rend_s.call) := may_call rend_p
theorem rend_n : May Try.prog (36, rend_s.callN) := may_callN rend_p

/-- How many bytes a text has that is read; is it there? -/
def tn (xs : List UInt8) (at_ : Int) (bad : Bool) : Int := fb (tk xs at_ bad 1)
def tOk (xs : List UInt8) (at_ : Int) (bad : Bool) (m : Int) : Bool := rdOk xs at_ bad 1 && decide (tn xs at_ bad ≤ m) && decide (at_ + 1 + tn xs at_ bad ≤ xs.length)
def tv (xs : List UInt8) (at_ : Int) (bad : Bool) (m : Int) : List UInt8 := if tOk xs at_ bad m then (xs.drop (at_ + 1).toNat).take (tn xs at_ bad).toNat else []
def tadv (xs : List UInt8) (at_ : Int) (bad : Bool) (m : Int) : Int := if tOk xs at_ bad m then at_ + 1 + tn xs at_ bad else at_
@[reducible] def rtext_s : Spec where
  n := 1
  cs := [(0, .own rdr)]
  ar := [.ref 0, .el (.int .i64)]
  pre := fun (xs, at_, _, _) => 0 ≤ at_ ∧ at_ ≤ xs.length
  n' := 1
  cs' := [(0, .own rdr)]
  rs := [.el .str]
  post := .fn fun (xs, at_, bad, m, _) => (xs, tadv xs at_ bad m, !tOk xs at_ bad m, tv xs at_ bad m, ())
@[reducible] def rtext_h : Hints := ⟨[(3, (tks 0 4 (.take 4 true (tks 5 4 (.take 9 true (tks 10 13 .done))))))], [], []⟩
@[reducible] noncomputable def rtext_e : Env := ⟨tys, [(33, ru8_s.call), (53, take_s.call)]⟩
set_option maxHeartbeats 1000000 in
set_option maxRecDepth 100000 in
theorem rtext_d : denF rtext_e rtext_s rtext_h Try.f18 := by
  intro xs at_ bad m
  repeat' (first | (conv => whnf); first | refine And.intro ?_ ?_ | refine Is.mk ?_ | (intro h; cases h; done) | (intro _))
  all_goals try dsimp only [maxLen, El.ty] at *
  all_goals try trivial
  all_goals repeat (with_reducible cases ‹_ ∧ _›)
  all_goals try subst_eqs
  all_goals try simp only [IntKind.wrap_i64, IntKind.wrap_u64, IntKind.wrap_u32, IntKind.wrap_u8, decide_eq_true_eq, decide_eq_false_iff_not, Bool.not_eq_true', Bool.not_eq_false', Bool.not_not, Bool.not_true, Bool.not_false, List.length_cons, List.length_nil, Int.toNat_natCast, UInt8.ofNat_toNat] at *
  all_goals try first | omega | (with_reducible rfl) | (with_reducible exact u8lt _)
  all_goals have hb := fb1 xs at_ bad
  all_goals have hin := adv_in xs at_ bad 1 ⟨by assumption, by assumption⟩ (by decide)
  all_goals try omega
  iterate 3 (· simp [tadv, tv, tOk, *])
  all_goals have hk : rdOk xs at_ bad 1 = true := by assumption
  all_goals have ha : adv xs at_ bad 1 = at_ + 1 := by simp [adv, hk]
  iterate 3
   · have h9 : ¬ (fb (tk xs at_ bad 1) ≤ m) := by omega
     simp [tadv, tv, tOk, hk, tn, h9]
  iterate 3
   · have h9 : ¬ (at_ + 1 + fb (tk xs at_ bad 1) ≤ xs.length) := by omega
     simp [tadv, tv, tOk, hk, tn, h9]
  all_goals
    have h8 : fb (tk xs at_ bad 1) ≤ m := by omega
    have h9 : at_ + 1 + fb (tk xs at_ bad 1) ≤ xs.length := by omega
    have hk2 : rdOk xs (at_ + 1) false (fb (tk xs at_ bad 1)) = true := by simp [rdOk, h9]
    rw [ha, hk]
  · simp [tadv, tOk, hk, tn, h8, h9, adv, hk2]
  · simp [tOk, hk, tn, h8, h9, hk2]
  · have e : tOk xs at_ bad m = true := by simp [tOk, hk, tn, h8, h9]
    show tk xs (at_ + 1) false (fb (tk xs at_ bad 1)) = tv xs at_ bad m
    unfold tv
    rw [if_pos e, tk, if_pos hk2]
    rfl
theorem rtext_p : (FnIs Try.prog 18 ∧ FnOk Try.prog 18 rtext_s) ∧ (idsOk rtext_s.cs && idsOk rtext_s.cs' && Nat.ble rtext_s.n rtext_s.n') = true :=
  fn_of (l := [(33, ru8_s.call), (53, take_s.call)]) (hi := rtext_h) (S := rtext_s) (fn := Try.f18) (c := Try.f18.body.get!) tysOk mixOk ⟨ru8_m, take_m, trivial⟩ (by kernel_rfl) (by kernel_rfl) (by kernel_rfl) (by kernel_rfl) (by kernel_rfl) rtext_d
theorem rtext_m : May Try.prog (18, rtext_s.call) := may_call rtext_p
theorem rtext_n : May Try.prog (18, rtext_s.callN) := may_callN rtext_p

end Go.J

set_option linter.unusedSimpArgs false
set_option linter.unusedVariables false
set_option linter.unusedSectionVars false
namespace Go.J
open Go.Proofs

theorem be8 (n : Int) (h : 0 ≤ n ∧ n < 18446744073709551616) : be 8 n = be 4 (n / 4294967296 % 4294967296) ++ be 4 (n % 4294967296) := by
  simp only [be, show (256 : Int) ^ 7 = 72057594037927936 by decide, show (256 : Int) ^ 6 = 281474976710656 by decide, show (256 : Int) ^ 5 = 1099511627776 by decide, show (256 : Int) ^ 4 = 4294967296 by decide, show (256 : Int) ^ 3 = 16777216 by decide, show (256 : Int) ^ 2 = 65536 by decide, show (256 : Int) ^ 1 = 256 by decide, show (256 : Int) ^ 0 = 1 by decide, List.cons_append, List.nil_append]
  congr 2
  · omega
  congr 2
  · omega
  congr 2
  · omega
  congr 2
  · omega
  congr 2
  · omega
  congr 2
  · omega
  congr 2
  · omega
  congr 2
  omega

@[reducible] def fu8_s : Spec := { u8_s with }
@[reducible] def fu8_h : Hints := ⟨[], [], []⟩
@[reducible] noncomputable def fu8_e : Env := ⟨tys, []⟩
set_option maxHeartbeats 1000000 in
set_option maxRecDepth 100000 in
theorem fu8_d : denF fu8_e fu8_s fu8_h Try.f27 := by
  intro xs n
  repeat' (first | (conv => whnf); first | refine And.intro ?_ ?_ | refine Is.mk ?_ | (intro h; cases h; done) | (intro _))
  all_goals try dsimp only [maxLen, El.ty] at *
  all_goals try trivial
  all_goals repeat (with_reducible cases ‹_ ∧ _›)
  all_goals try subst_eqs
  all_goals try simp only [IntKind.wrap_i64, IntKind.wrap_u64, IntKind.wrap_u32, IntKind.wrap_u8, decide_eq_true_eq, decide_eq_false_iff_not, Bool.not_eq_true', Bool.not_eq_false', Bool.not_not, Bool.not_true, Bool.not_false, List.length_cons, List.length_nil, Int.toNat_natCast, UInt8.ofNat_toNat] at *
  all_goals try first | omega | (with_reducible rfl) | (with_reducible exact u8lt _)
  all_goals simp only [List.nil_append]
  · omega
  · omega
  · simp only [be]
    congr 3
    omega
theorem fu8_p : (FnIs Try.prog 27 ∧ FnOk Try.prog 27 fu8_s) ∧ (idsOk fu8_s.cs && idsOk fu8_s.cs' && Nat.ble fu8_s.n fu8_s.n') = true :=
  fn_of (l := []) (hi := fu8_h) (S := fu8_s) (fn := Try.f27) (c := Try.f27.body.get!) tysOk mixOk trivial (by kernel_rfl) (by kernel_rfl) (by kernel_rfl) (by kernel_rfl) (by kernel_rfl) fu8_d
theorem fu8_m : May Try.prog (27, fu8_s.call) := may_call fu8_p
theorem fu8_n : May Try.prog (27, fu8_s.callN) := may_callN fu8_p
@[reducible] def fu32_s : Spec := { u32_s with }
@[reducible] def fu32_h : Hints := ⟨[], [], []⟩
@[reducible] noncomputable def fu32_e : Env := ⟨tys, []⟩
set_option maxHeartbeats 1000000 in
set_option maxRecDepth 100000 in
theorem fu32_d : denF fu32_e fu32_s fu32_h Try.f28 := by
  intro xs n
  repeat' (first | (conv => whnf); first | refine And.intro ?_ ?_ | refine Is.mk ?_ | (intro h; cases h; done) | (intro _))
  all_goals try dsimp only [maxLen, El.ty] at *
  all_goals try trivial
  all_goals repeat (with_reducible cases ‹_ ∧ _›)
  all_goals try subst_eqs
  all_goals try simp only [IntKind.wrap_i64, IntKind.wrap_u64, IntKind.wrap_u32, IntKind.wrap_u8, decide_eq_true_eq, decide_eq_false_iff_not, Bool.not_eq_true', Bool.not_eq_false', Bool.not_not, Bool.not_true, Bool.not_false, List.length_cons, List.length_nil, Int.toNat_natCast, UInt8.ofNat_toNat] at *
  all_goals try first | omega | (with_reducible rfl) | (with_reducible exact u8lt _)
  all_goals simp only [List.nil_append]
  · omega
  · omega
  · simp only [be, Int.fdiv_eq_ediv_of_nonneg _ (show (0 : Int) ≤ 2 ^ min (Int.toNat 24) IntKind.u32.bits by decide), Int.fdiv_eq_ediv_of_nonneg _ (show (0 : Int) ≤ 2 ^ min (Int.toNat 16) IntKind.u32.bits by decide), Int.fdiv_eq_ediv_of_nonneg _ (show (0 : Int) ≤ 2 ^ min (Int.toNat 8) IntKind.u32.bits by decide), show (256 : Int) ^ 0 = 1 by decide, Int.ediv_one]
    rfl
theorem fu32_p : (FnIs Try.prog 28 ∧ FnOk Try.prog 28 fu32_s) ∧ (idsOk fu32_s.cs && idsOk fu32_s.cs' && Nat.ble fu32_s.n fu32_s.n') = true :=
  fn_of (l := []) (hi := fu32_h) (S := fu32_s) (fn := Try.f28) (c := Try.f28.body.get!) tysOk mixOk trivial (by kernel_rfl) (by kernel_rfl) (by kernel_rfl) (by kernel_rfl) (by kernel_rfl) fu32_d
theorem fu32_m : May Try.prog (28, fu32_s.call) := may_call fu32_p
theorem fu32_n : May Try.prog (28, fu32_s.callN) := may_callN fu32_p
@[reducible] def fu64_s : Spec := { u64_s with pre := fun (xs, n, _) => xs.length ≤ 100000000000 ∧ 0 ≤ n ∧ n < 18446744073709551616 }
@[reducible] def fu64_h : Hints := ⟨[], [], []⟩
@[reducible] noncomputable def fu64_e : Env := ⟨tys, [(28, fu32_s.call)]⟩
set_option maxHeartbeats 1000000 in
set_option maxRecDepth 100000 in
theorem fu64_d : denF fu64_e fu64_s fu64_h Try.f30 := by
  intro xs n
  repeat' (first | (conv => whnf); first | refine And.intro ?_ ?_ | refine Is.mk ?_ | (intro h; cases h; done) | (intro _))
  all_goals try dsimp only [maxLen, El.ty] at *
  all_goals try trivial
  all_goals repeat (with_reducible cases ‹_ ∧ _›)
  all_goals try subst_eqs
  all_goals try simp only [IntKind.wrap_i64, IntKind.wrap_u64, IntKind.wrap_u32, IntKind.wrap_u8, decide_eq_true_eq, decide_eq_false_iff_not, Bool.not_eq_true', Bool.not_eq_false', Bool.not_not, Bool.not_true, Bool.not_false, List.length_cons, List.length_nil, Int.toNat_natCast, UInt8.ofNat_toNat] at *
  all_goals try first | omega | (with_reducible rfl) | (with_reducible exact u8lt _)
  all_goals rw [Int.fdiv_eq_ediv_of_nonneg _ (show (0 : Int) ≤ 2 ^ min (Int.toNat 32) IntKind.u64.bits by decide), show (2 : Int) ^ min (Int.toNat 32) IntKind.u64.bits = 4294967296 by decide]
  · simp only [List.length_append, be_length]
    omega
  · rw [be8]
    · simp only [List.append_assoc]
    · omega
theorem fu64_p : (FnIs Try.prog 30 ∧ FnOk Try.prog 30 fu64_s) ∧ (idsOk fu64_s.cs && idsOk fu64_s.cs' && Nat.ble fu64_s.n fu64_s.n') = true :=
  fn_of (l := [(28, fu32_s.call)]) (hi := fu64_h) (S := fu64_s) (fn := Try.f30) (c := Try.f30.body.get!) tysOk mixOk ⟨fu32_m, trivial⟩ (by kernel_rfl) (by kernel_rfl) (by kernel_rfl) (by kernel_rfl) (by kernel_rfl) fu64_d
theorem fu64_m : May Try.prog (30, fu64_s.call) := may_call fu64_p
theorem fu64_n : May Try.prog (30, fu64_s.callN) := may_callN fu64_p
@[reducible] def ftext_s : Spec := { text_s with }
@[reducible] def ftext_h : Hints := ⟨[], [], []⟩
@[reducible] noncomputable def ftext_e : Env := ⟨tys, [(27, fu8_s.call)]⟩
set_option maxHeartbeats 1000000 in
set_option maxRecDepth 100000 in
theorem ftext_d : denF ftext_e ftext_s ftext_h Try.f31 := by
  intro xs s
  repeat' (first | (conv => whnf); first | refine And.intro ?_ ?_ | refine Is.mk ?_ | (intro h; cases h; done) | (intro _))
  all_goals try dsimp only [maxLen, El.ty] at *
  all_goals try trivial
  all_goals repeat (with_reducible cases ‹_ ∧ _›)
  all_goals try subst_eqs
  all_goals try simp only [IntKind.wrap_i64, IntKind.wrap_u64, IntKind.wrap_u32, IntKind.wrap_u8, decide_eq_true_eq, decide_eq_false_iff_not, Bool.not_eq_true', Bool.not_eq_false', Bool.not_not, Bool.not_true, Bool.not_false, List.length_cons, List.length_nil, Int.toNat_natCast, UInt8.ofNat_toNat] at *
  all_goals try first | omega | (with_reducible rfl) | (with_reducible exact u8lt _)
  all_goals have e : List.take (255 - 0 : Int).toNat (List.drop (Int.toNat 0) s) = s.take 255 := rfl
  all_goals try rw [e]
  all_goals try simp only [List.length_append, be_length, List.length_take]
  all_goals try omega
  · simp only [be, txt, List.append_assoc, List.singleton_append]
    congr 3
    omega
  · simp only [be, txt, List.append_assoc, List.singleton_append]
    rw [List.take_of_length_le (by omega)]
    congr 3
    omega
theorem ftext_p : (FnIs Try.prog 31 ∧ FnOk Try.prog 31 ftext_s) ∧ (idsOk ftext_s.cs && idsOk ftext_s.cs' && Nat.ble ftext_s.n ftext_s.n') = true :=
  fn_of (l := [(27, fu8_s.call)]) (hi := ftext_h) (S := ftext_s) (fn := Try.f31) (c := Try.f31.body.get!) tysOk mixOk ⟨fu8_m, trivial⟩ (by kernel_rfl) (by kernel_rfl) (by kernel_rfl) (by kernel_rfl) (by kernel_rfl) ftext_d
theorem ftext_m : May Try.prog (31, ftext_s.call) := may_call ftext_p
theorem ftext_n : May Try.prog (31, ftext_s.callN) := may_callN ftext_p

end Go.J

set_option linter.unusedSimpArgs false
set_option linter.unusedVariables false
set_option linter.unusedSectionVars false
namespace Go.J
open Go.Proofs

theorem rd_no {xs : List UInt8} {at_ n : Int} (h : ¬ at_ + n ≤ xs.length) : rdOk xs at_ false n = false := by simp [rdOk, h]
theorem rd_yes {xs : List UInt8} {at_ n : Int} (h : at_ + n ≤ xs.length) : rdOk xs at_ false n = true := by simp [rdOk, h]
theorem rd_bad (xs : List UInt8) (at_ n : Int) : rdOk xs at_ true n = false := rfl
theorem tk_yes {xs : List UInt8} {at_ n : Int} (h : at_ + n ≤ xs.length) : tk xs at_ false n = (xs.drop at_.toNat).take (at_ + n - at_).toNat := by
  unfold tk
  rw [if_pos (rd_yes h), show at_ + n - at_ = n by omega]
theorem tk_no {xs : List UInt8} {at_ n : Int} {bad : Bool} (h : rdOk xs at_ bad n = false) : tk xs at_ bad n = [] := by unfold tk; rw [h]; rfl
theorem adv_no {xs : List UInt8} {at_ n : Int} {bad : Bool} (h : rdOk xs at_ bad n = false) : adv xs at_ bad n = at_ := by unfold adv; rw [h]; rfl
theorem adv_yes {xs : List UInt8} {at_ n : Int} {bad : Bool} (h : rdOk xs at_ bad n = true) : adv xs at_ bad n = at_ + n := by unfold adv; rw [h]; rfl

theorem adv_bad (xs : List UInt8) (at_ n : Int) : adv xs at_ true n = at_ := adv_no rfl
theorem tk_bad (xs : List UInt8) (at_ n : Int) : tk xs at_ true n = [] := tk_no rfl
theorem fb_one {l : List UInt8} (h : l.length = 1) : fb l = (l.getD 0 0).toNat := by
  match l, h with
  | [a], _ => simp [fb]
theorem fb_four {l : List UInt8} (h : l.length = 4) : fb l = (l.getD 0 0).toNat * 16777216 + (l.getD 1 0).toNat * 65536 + (l.getD 2 0).toNat * 256 + (l.getD 3 0).toNat := by
  match l, h with
  | [a, b, c, d], _ =>
    simp [fb]
    omega
theorem u32_join (i : Nat) (x y : Int) (hx₀ : 0 ≤ x) (hx : x % 2 ^ i = 0) (hx₁ : x < 4294967296) (hy₀ : 0 ≤ y) (hy : y < 2 ^ i) (hy₁ : y < 4294967296) : bits .or .u32 x y = x + y :=
  bits_join .u32 32 (by decide) (fun n h1 h2 => by rw [IntKind.wrap_u32]; omega) i x y hx₀ hx hx₁ hy₀ hy hy₁
theorem u32_shl (x : UInt8) : ((x.toNat : Int) % 4294967296 * 2 ^ min (Int.toNat 24) IntKind.u32.bits % 4294967296 = x.toNat * 16777216) ∧ ((x.toNat : Int) % 4294967296 * 2 ^ min (Int.toNat 16) IntKind.u32.bits % 4294967296 = x.toNat * 65536) ∧
    ((x.toNat : Int) % 4294967296 * 2 ^ min (Int.toNat 8) IntKind.u32.bits % 4294967296 = x.toNat * 256) := by
  have h : x.toNat < 256 := x.toNat_lt
  rw [show (2 : Int) ^ min (Int.toNat 24) IntKind.u32.bits = 16777216 by decide, show (2 : Int) ^ min (Int.toNat 16) IntKind.u32.bits = 65536 by decide, show (2 : Int) ^ min (Int.toNat 8) IntKind.u32.bits = 256 by decide]
  omega
theorem u32_four (a b c d : UInt8) : bits .or .u32 (bits .or .u32 (bits .or .u32 ((a.toNat : Int) % 4294967296 * 2 ^ min (Int.toNat 24) IntKind.u32.bits % 4294967296) ((b.toNat : Int) % 4294967296 * 2 ^ min (Int.toNat 16) IntKind.u32.bits % 4294967296)) ((c.toNat : Int) % 4294967296 * 2 ^ min (Int.toNat 8) IntKind.u32.bits % 4294967296)) ((d.toNat : Int) % 4294967296) =
    a.toNat * 16777216 + b.toNat * 65536 + c.toNat * 256 + d.toNat := by
  have ha : a.toNat < 256 := a.toNat_lt
  have hb : b.toNat < 256 := b.toNat_lt
  have hc : c.toNat < 256 := c.toNat_lt
  have hd : d.toNat < 256 := d.toNat_lt
  rw [(u32_shl a).1, (u32_shl b).2.1, (u32_shl c).2.2, show (d.toNat : Int) % 4294967296 = d.toNat by omega]
  rw [u32_join 24 (a.toNat * 16777216) (b.toNat * 65536) (by omega) (by omega) (by omega) (by omega) (by omega) (by omega)]
  rw [u32_join 16 _ (c.toNat * 256) (by omega) (by omega) (by omega) (by omega) (by omega) (by omega)]
  rw [u32_join 8 _ _ (by omega) (by omega) (by omega) (by omega) (by omega) (by omega)]

theorem fb_step {l : List UInt8} {i : Int} (h0 : 0 ≤ i) (h1 : i < l.length) (h2 : l.length ≤ 8) : bits .or .u64 (fb (List.take i.toNat l) * 2 ^ min (Int.toNat 8) IntKind.u64.bits % 18446744073709551616) ((l.getD i.toNat 0).toNat % 18446744073709551616) =
    fb (List.take ((i + 1 + 9223372036854775808) % 18446744073709551616 - 9223372036854775808).toNat l) := by
  rw [u64_shl8_or, show ((i + 1 + 9223372036854775808) % 18446744073709551616 - 9223372036854775808).toNat = i.toNat + 1 by omega, take_succ_getD _ _ (by omega), fb_snoc]
  have := fb_lt (List.take i.toNat l)
  have hl : (List.take i.toNat l).length ≤ 7 := by rw [List.length_take]; omega
  have h4 : ((256 ^ (List.take i.toNat l).length : Nat) : Int) = 256 ^ (List.take i.toNat l).length := Int.natCast_pow 256 _
  exact ⟨this.1, Int.lt_of_lt_of_le this.2 (h4 ▸ Int.ofNat_le.2 (Nat.pow_le_pow_right (by decide) hl))⟩

@[reducible] noncomputable def ftake_c := inl ⟨tys, []⟩ ⟨[(1, (tks 0 4 (.take 4 true (tks 5 13 .done)))), (4, (tks 0 15 (.last 15 false [] .done)))], [], []⟩ Try.f56 Try.f56.body.get!
theorem ftake_m : May Try.prog (56, ftake_c) :=
  may_inl tysOk mixOk trivial (by kernel_rfl) (by kernel_rfl) (by kernel_rfl) (by kernel_rfl)

@[reducible] def fru8_s : Spec := { ru8_s with }
@[reducible] def fru8_h : Hints := ⟨[], [], []⟩
@[reducible] noncomputable def fru8_e : Env := ⟨tys, [(56, ftake_c)]⟩
set_option maxHeartbeats 1000000 in
set_option maxRecDepth 100000 in
theorem fru8_d : denF fru8_e fru8_s fru8_h Try.f37 := by
  intro xs at_ bad
  repeat' (first | (conv => whnf); first | refine And.intro ?_ ?_ | refine Is.mk ?_ | (intro h; cases h; done) | (intro _))
  all_goals try dsimp only [maxLen, El.ty] at *
  all_goals try trivial
  all_goals repeat (with_reducible cases ‹_ ∧ _›)
  all_goals try subst_eqs
  all_goals try simp only [IntKind.wrap_i64, IntKind.wrap_u64, IntKind.wrap_u32, IntKind.wrap_u8, decide_eq_true_eq, decide_eq_false_iff_not, Bool.not_eq_true', Bool.not_eq_false', Bool.not_not, Bool.not_true, Bool.not_false, List.length_cons, List.length_nil, Int.toNat_natCast, UInt8.ofNat_toNat] at *
  all_goals try first | omega | (with_reducible rfl) | (with_reducible exact u8lt _)
  all_goals try (simp [adv_bad, tk_bad, rd_bad, fb_nil]; done)
  all_goals try (have h9 : ¬ at_ + 1 ≤ (xs.length : Int) := by omega
                 simp [adv_no, tk_no, rd_no h9, fb_nil]; done)
  all_goals
    have h9 : at_ + 1 ≤ (xs.length : Int) := by omega
    have hw : (at_ + 1 + 9223372036854775808) % 18446744073709551616 - 9223372036854775808 = at_ + 1 := by omega
    have hl := tk_len xs at_ false 1 (by assumption) (by decide) (rd_yes h9)
    have hl2 : (tk xs at_ false 1).length = 1 := hl
    have hy := tk_yes h9
    try simp only [hw, ← hy] at *
  all_goals try omega
  all_goals try (exact absurd (‹0 < (tk xs at_ false 1).length → true = false› (by omega)) (by simp))
  all_goals try (simp only [adv_yes (rd_yes h9), rd_yes h9, Bool.not_true]; done)
  rw [fb_one hl2]
  have := ((tk xs at_ false 1).getD (Int.toNat 0) El.u8.dflt).toNat_lt
  simp only [show Int.toNat 0 = 0 from rfl, show El.u8.dflt = (0 : UInt8) from rfl] at *
  omega
theorem fru8_p : (FnIs Try.prog 37 ∧ FnOk Try.prog 37 fru8_s) ∧ (idsOk fru8_s.cs && idsOk fru8_s.cs' && Nat.ble fru8_s.n fru8_s.n') = true :=
  fn_of (l := [(56, ftake_c)]) (hi := fru8_h) (S := fru8_s) (fn := Try.f37) (c := Try.f37.body.get!) tysOk mixOk ⟨ftake_m, trivial⟩ (by kernel_rfl) (by kernel_rfl) (by kernel_rfl) (by kernel_rfl) (by kernel_rfl) fru8_d
theorem fru8_m : May Try.prog (37, fru8_s.call) := may_call fru8_p
theorem fru8_n : May Try.prog (37, fru8_s.callN) := may_callN fru8_p

@[reducible] def fru32_s : Spec := { ru32_s with }
@[reducible] def fru32_h : Hints := ⟨[(4, (tks 0 22 (.last 22 false [] .done)))], [], []⟩
@[reducible] noncomputable def fru32_e : Env := ⟨tys, [(56, ftake_c)]⟩
set_option maxHeartbeats 1000000 in
set_option maxRecDepth 100000 in
theorem fru32_d : denF fru32_e fru32_s fru32_h Try.f38 := by
  intro xs at_ bad
  repeat' (first | (conv => whnf); first | refine And.intro ?_ ?_ | refine Is.mk ?_ | (intro h; cases h; done) | (intro _))
  all_goals try dsimp only [maxLen, El.ty] at *
  all_goals try trivial
  all_goals repeat (with_reducible cases ‹_ ∧ _›)
  all_goals try subst_eqs
  all_goals try simp only [IntKind.wrap_i64, IntKind.wrap_u64, IntKind.wrap_u32, IntKind.wrap_u8, decide_eq_true_eq, decide_eq_false_iff_not, Bool.not_eq_true', Bool.not_eq_false', Bool.not_not, Bool.not_true, Bool.not_false, List.length_cons, List.length_nil, Int.toNat_natCast, UInt8.ofNat_toNat] at *
  all_goals try first | omega | (with_reducible rfl) | (with_reducible exact u8lt _)
  all_goals try (simp [adv_bad, tk_bad, rd_bad, fb_nil]; done)
  all_goals try (have h9 : ¬ at_ + 4 ≤ (xs.length : Int) := by omega
                 simp [adv_no, tk_no, rd_no h9, fb_nil]; done)
  all_goals
    have h9 : at_ + 4 ≤ (xs.length : Int) := by omega
    have hw : (at_ + 4 + 9223372036854775808) % 18446744073709551616 - 9223372036854775808 = at_ + 4 := by omega
    have hl := tk_len xs at_ false 4 (by assumption) (by decide) (rd_yes h9)
    have hl2 : (tk xs at_ false 4).length = 4 := hl
    have hy := tk_yes h9
    try simp only [hw, ← hy] at *
  all_goals try omega
  all_goals try (exact absurd (‹0 < (tk xs at_ false 4).length → true = false› (by omega)) (by simp))
  all_goals try (simp only [adv_yes (rd_yes h9), rd_yes h9, Bool.not_true]; done)
  rw [fb_four hl2]
  exact u32_four _ _ _ _
theorem fru32_p : (FnIs Try.prog 38 ∧ FnOk Try.prog 38 fru32_s) ∧ (idsOk fru32_s.cs && idsOk fru32_s.cs' && Nat.ble fru32_s.n fru32_s.n') = true :=
  fn_of (l := [(56, ftake_c)]) (hi := fru32_h) (S := fru32_s) (fn := Try.f38) (c := Try.f38.body.get!) tysOk mixOk ⟨ftake_m, trivial⟩ (by kernel_rfl) (by kernel_rfl) (by kernel_rfl) (by kernel_rfl) (by kernel_rfl) fru32_d
theorem fru32_m : May Try.prog (38, fru32_s.call) := may_call fru32_p
theorem fru32_n : May Try.prog (38, fru32_s.callN) := may_callN fru32_p

@[reducible] def fru64_s : Spec := { ru64_s with }
@[reducible] def fru64_a : Ann where
  nx := 1
  cs := [(0, .own rdr)]
  ss := [(4, .el (.int .u64)), (11, .el (.rd .u8)), (12, .el (.int .i64)), (13, .el (.int .i64))]
  inv := fun (b0, a0, d0, _, l0, k0, _, _) (b, a, d, n, l, k, i, _) => b = b0 ∧ a = a0 ∧ d = d0 ∧ l = l0 ∧ k = k0 ∧ 0 ≤ i ∧ i ≤ l.length ∧ n = fb (l.take i.toNat)
  mu := fun (_, _, _, _, l, _, i, _) => l.length - i.toNat
@[reducible] def fru64_h : Hints := ⟨[], [(6, fru64_a)], []⟩
@[reducible] noncomputable def fru64_e : Env := ⟨tys, [(56, ftake_c)]⟩
set_option maxHeartbeats 1000000 in
set_option maxRecDepth 100000 in
theorem fru64_d : denF fru64_e fru64_s fru64_h Try.f39 := by
  intro xs at_ bad
  repeat' (first | (conv => whnf); first | refine And.intro ?_ ?_ | refine Is.mk ?_ | (intro h; cases h; done) | (intro _))
  all_goals try dsimp only [maxLen, El.ty] at *
  all_goals try trivial
  all_goals repeat (with_reducible cases ‹_ ∧ _›)
  all_goals try subst_eqs
  all_goals try simp only [IntKind.wrap_i64, IntKind.wrap_u64, IntKind.wrap_u32, IntKind.wrap_u8, decide_eq_true_eq, decide_eq_false_iff_not, Bool.not_eq_true', Bool.not_eq_false', Bool.not_not, Bool.not_true, Bool.not_false, List.length_cons, List.length_nil, Int.toNat_natCast, UInt8.ofNat_toNat] at *
  all_goals try first | omega | (with_reducible rfl) | (with_reducible exact u8lt _)
  all_goals try (simp [adv_bad, tk_bad, rd_bad, fb_nil]; done)
  all_goals try (have h9 : ¬ at_ + 8 ≤ (xs.length : Int) := by omega
                 simp [adv_no, tk_no, rd_no h9, fb_nil]; done)
  all_goals
    have h9 : at_ + 8 ≤ (xs.length : Int) := by omega
    have hw : (at_ + 8 + 9223372036854775808) % 18446744073709551616 - 9223372036854775808 = at_ + 8 := by omega
    have hl := tk_len xs at_ false 8 (by assumption) (by decide) (rd_yes h9)
    have hl2 : (tk xs at_ false 8).length = 8 := hl
    have hy := tk_yes h9
    try simp only [hw, ← hy] at *
  all_goals try omega
  all_goals try (exact absurd (‹0 < (tk xs at_ false 8).length → true = false› (by omega)) (by simp))
  all_goals try (simp only [adv_yes (rd_yes h9), rd_yes h9, Bool.not_true]; done)
  · exact fb_step (by omega) (by omega) (by omega)
  · rw [List.take_of_length_le (by omega)]
theorem fru64_p : (FnIs Try.prog 39 ∧ FnOk Try.prog 39 fru64_s) ∧ (idsOk fru64_s.cs && idsOk fru64_s.cs' && Nat.ble fru64_s.n fru64_s.n') = true :=
  fn_of (l := [(56, ftake_c)]) (hi := fru64_h) (S := fru64_s) (fn := Try.f39) (c := Try.f39.body.get!) tysOk mixOk ⟨ftake_m, trivial⟩ (by kernel_rfl) (by kernel_rfl) (by kernel_rfl) (by kernel_rfl) (by kernel_rfl) fru64_d
theorem fru64_m : May Try.prog (39, fru64_s.call) := may_call fru64_p
theorem fru64_n : May Try.prog (39, fru64_s.callN) := may_callN fru64_p

end Go.J

set_option linter.unusedSimpArgs false
set_option linter.unusedVariables false
set_option linter.unusedSectionVars false
namespace Go.J
open Go.Proofs

@[reducible] def ftk_s : Spec := { take_s with }
@[reducible] def ftk_h : Hints := ⟨[(1, (tks 0 4 (.take 4 true (tks 5 13 .done)))), (4, (tks 0 15 (.last 15 false [] .done)))], [], []⟩
@[reducible] noncomputable def ftk_e : Env := ⟨tys, []⟩
set_option maxHeartbeats 1000000 in
set_option maxRecDepth 100000 in
theorem ftk_d : denF ftk_e ftk_s ftk_h Try.f56 := by
  intro xs at_ bad n
  repeat' (first | (conv => whnf); first | refine And.intro ?_ ?_ | refine Is.mk ?_ | (intro h; cases h; done) | (intro _))
  all_goals try dsimp only [maxLen, El.ty] at *
  all_goals try trivial
  all_goals repeat (with_reducible cases ‹_ ∧ _›)
  all_goals try subst_eqs
  all_goals try simp only [IntKind.wrap_i64, IntKind.wrap_u64, IntKind.wrap_u32, IntKind.wrap_u8, decide_eq_true_eq, decide_eq_false_iff_not, Bool.not_eq_true', Bool.not_eq_false', Bool.not_not, Bool.not_true, Bool.not_false, List.length_cons, List.length_nil, Int.toNat_natCast, UInt8.ofNat_toNat] at *
  all_goals try first | omega | (with_reducible rfl) | (with_reducible exact u8lt _)
  all_goals subst_vars
  all_goals try (simp [adv_bad, tk_bad, rd_bad]; done)
  all_goals try (have h9 : ¬ at_ + n ≤ (xs.length : Int) := by omega
                 simp [adv_no, tk_no, rd_no h9]; done)
  all_goals
    have h9 : at_ + n ≤ (xs.length : Int) := by omega
    have hw : (at_ + n + 9223372036854775808) % 18446744073709551616 - 9223372036854775808 = at_ + n := by omega
    try rw [hw]
  · rw [adv_yes (rd_yes h9)]
  · rw [rd_yes h9]; rfl
  · rw [tk_yes h9]
theorem ftk_p : (FnIs Try.prog 56 ∧ FnOk Try.prog 56 ftk_s) ∧ (idsOk ftk_s.cs && idsOk ftk_s.cs' && Nat.ble ftk_s.n ftk_s.n') = true :=
  fn_of (l := []) (hi := ftk_h) (S := ftk_s) (fn := Try.f56) (c := Try.f56.body.get!) tysOk mixOk trivial (by kernel_rfl) (by kernel_rfl) (by kernel_rfl) (by kernel_rfl) (by kernel_rfl) ftk_d
theorem ftk_m : May Try.prog (56, ftk_s.call) := may_call ftk_p
theorem ftk_n : May Try.prog (56, ftk_s.callN) := may_callN ftk_p

theorem set_step (l : List UInt8) (i : Nat) (h : i < l.length) (h2 : l.length ≤ 32) : (l.take i ++ List.replicate (32 - i) 0).set i (l.getD i El.u8.dflt) = l.take (i + 1) ++ List.replicate (32 - (i + 1)) 0 := by
  rw [take_succ_getD l i h, show 32 - i = (32 - (i + 1)) + 1 by omega, List.replicate_succ]
  rw [List.set_append_right _ _ (by rw [List.length_take]; omega), List.length_take, show i - min i l.length = 0 by omega]
  simp only [List.set_cons_zero, List.append_assoc, List.singleton_append]
  rfl

@[reducible] def frsum_s : Spec := { rsum_s with }
@[reducible] def frsum_a : Ann where
  nx := 3
  cs := [(0, .own rdr), (1, .own (.el (.ar 32 .u8))), (2, .own (.el (.ar 32 .u8)))]
  ss := [(2, .ref 1), (3, .ref 2), (7, .el (.rd .u8)), (8, .el (.int .i64)), (9, .el (.int .i64))]
  inv := fun (b0, a0, d0, _, _, l0, k0, _) (b, a, d, _, s, l, k, i, _) => b = b0 ∧ a = a0 ∧ d = d0 ∧ l = l0 ∧ k = k0 ∧ 0 ≤ i ∧ i ≤ l.length ∧ s = l.take i.toNat ++ List.replicate (32 - i.toNat) 0
  mu := fun (_, _, _, _, _, l, _, i, _) => l.length - i.toNat
@[reducible] def frsum_h : Hints := ⟨[], [(3, frsum_a)], []⟩
@[reducible] noncomputable def frsum_e : Env := ⟨tys, [(56, ftk_s.call)]⟩
set_option maxHeartbeats 1000000 in
set_option maxRecDepth 100000 in
theorem frsum_d : denF frsum_e frsum_s frsum_h Try.f41 := by
  intro xs at_ bad
  repeat' (first | (conv => whnf); first | refine And.intro ?_ ?_ | refine Is.mk ?_ | (intro h; cases h; done) | (intro _))
  all_goals try dsimp only [maxLen, El.ty] at *
  all_goals try trivial
  all_goals repeat (with_reducible cases ‹_ ∧ _›)
  all_goals try subst_eqs
  all_goals try simp only [IntKind.wrap_i64, IntKind.wrap_u64, IntKind.wrap_u32, IntKind.wrap_u8, decide_eq_true_eq, decide_eq_false_iff_not, Bool.not_eq_true', Bool.not_eq_false', Bool.not_not, Bool.not_true, Bool.not_false, List.length_cons, List.length_nil, Int.toNat_natCast, UInt8.ofNat_toNat] at *
  all_goals try first | omega | (with_reducible rfl) | (with_reducible exact u8lt _)
  all_goals have hl := tk_le xs at_ bad 32
  all_goals rename Int => i
  · omega
  · simp only [List.length_append, List.length_take, List.length_replicate]
    omega
  · rw [show ((i + 1 + 9223372036854775808) % 18446744073709551616 - 9223372036854775808).toNat = i.toNat + 1 by omega]
    exact set_step _ _ (by omega) (by omega)
  · rw [List.take_of_length_le (by omega)]
    unfold sumv
    cases hk : rdOk xs at_ bad 32
    · rw [tk_no hk] at *
      simp only [List.length_nil] at *
      rw [show i.toNat = 0 by omega]
      rfl
    · have hl := tk_len xs at_ bad 32 (by assumption) (by decide) hk
      rw [show 32 - i.toNat = 0 by omega]
      unfold tk
      rw [hk]
      simp
theorem frsum_p : (FnIs Try.prog 41 ∧ FnOk Try.prog 41 frsum_s) ∧ (idsOk frsum_s.cs && idsOk frsum_s.cs' && Nat.ble frsum_s.n frsum_s.n') = true :=
  fn_of (l := [(56, ftk_s.call)]) (hi := frsum_h) (S := frsum_s) (fn := Try.f41) (c := Try.f41.body.get!) tysOk mixOk ⟨ftk_m, trivial⟩ (by kernel_rfl) (by kernel_rfl) (by kernel_rfl) (by kernel_rfl) (by kernel_rfl) frsum_d
theorem frsum_m : May Try.prog (41, frsum_s.call) := may_call frsum_p
theorem frsum_n : May Try.prog (41, frsum_s.callN) := may_callN frsum_p

@[reducible] def frend_s : Spec := { rend_s with }
@[reducible] def frend_h : Hints := ⟨[(1, (tks 0 5 (.take 5 true (tks 6 11 (.last 17 false [] .done)))))], [], []⟩
@[reducible] noncomputable def frend_e : Env := ⟨tys, []⟩
set_option maxHeartbeats 1000000 in
set_option maxRecDepth 100000 in
theorem frend_d : denF frend_e frend_s frend_h Try.f43 := by
  intro xs at_ bad
  repeat' (first | (conv => whnf); first | refine And.intro ?_ ?_ | refine Is.mk ?_ | (intro h; cases h; done) | (intro _))
  all_goals try dsimp only [maxLen, El.ty] at *
  all_goals try trivial
  all_goals repeat (with_reducible cases ‹_ ∧ _›)
  all_goals try subst_eqs
  all_goals try simp only [IntKind.wrap_i64, IntKind.wrap_u64, IntKind.wrap_u32, IntKind.wrap_u8, decide_eq_true_eq, decide_eq_false_iff_not, Bool.not_eq_true', Bool.not_eq_false', Bool.not_not, Bool.not_true, Bool.not_false, List.length_cons, List.length_nil, Int.toNat_natCast, UInt8.ofNat_toNat] at *
  all_goals try first | omega | (with_reducible rfl) | (with_reducible exact u8lt _)
  all_goals (subst_vars; simp)
theorem frend_p : (FnIs Try.prog 43 ∧ FnOk Try.prog 43 frend_s) ∧ (idsOk frend_s.cs && idsOk frend_s.cs' && Nat.ble frend_s.n frend_s.n') = true :=
  fn_of (l := []) (hi := frend_h) (S := frend_s) (fn := Try.f43) (c := Try.f43.body.get!) tysOk mixOk trivial (by kernel_rfl) (by kernel_rfl) (by kernel_rfl) (by kernel_rfl) (by kernel_rfl) frend_d
theorem frend_m : May Try.prog (43, frend_s.call) := may_call frend_p
theorem frend_n : May Try.prog (43, frend_s.callN) := may_callN frend_p

@[reducible] def frtext_s : Spec := { rtext_s with }
@[reducible] def frtext_h : Hints := ⟨[(3, (tks 0 4 (.take 4 true (tks 5 4 (.take 9 true (tks 10 13 .done))))))], [], []⟩
@[reducible] noncomputable def frtext_e : Env := ⟨tys, [(37, fru8_s.call), (56, ftk_s.call)]⟩
set_option maxHeartbeats 1000000 in
set_option maxRecDepth 100000 in
theorem frtext_d : denF frtext_e frtext_s frtext_h Try.f42 := by
  intro xs at_ bad m
  repeat' (first | (conv => whnf); first | refine And.intro ?_ ?_ | refine Is.mk ?_ | (intro h; cases h; done) | (intro _))
  all_goals try dsimp only [maxLen, El.ty] at *
  all_goals try trivial
  all_goals repeat (with_reducible cases ‹_ ∧ _›)
  all_goals try subst_eqs
  all_goals try simp only [IntKind.wrap_i64, IntKind.wrap_u64, IntKind.wrap_u32, IntKind.wrap_u8, decide_eq_true_eq, decide_eq_false_iff_not, Bool.not_eq_true', Bool.not_eq_false', Bool.not_not, Bool.not_true, Bool.not_false, List.length_cons, List.length_nil, Int.toNat_natCast, UInt8.ofNat_toNat] at *
  all_goals try first | omega | (with_reducible rfl) | (with_reducible exact u8lt _)
  all_goals have hb := fb1 xs at_ bad
  all_goals have hin := adv_in xs at_ bad 1 ⟨by assumption, by assumption⟩ (by decide)
  all_goals try omega
  iterate 3 (· simp [tadv, tv, tOk, *])
  all_goals have hk : rdOk xs at_ bad 1 = true := by assumption
  all_goals have ha : adv xs at_ bad 1 = at_ + 1 := by simp [adv, hk]
  iterate 3
   · have h9 : ¬ (fb (tk xs at_ bad 1) ≤ m) := by omega
     simp [tadv, tv, tOk, hk, tn, h9]
  iterate 3
   · have h9 : ¬ (at_ + 1 + fb (tk xs at_ bad 1) ≤ xs.length) := by omega
     simp [tadv, tv, tOk, hk, tn, h9]
  all_goals
    have h8 : fb (tk xs at_ bad 1) ≤ m := by omega
    have h9 : at_ + 1 + fb (tk xs at_ bad 1) ≤ xs.length := by omega
    have hk2 : rdOk xs (at_ + 1) false (fb (tk xs at_ bad 1)) = true := by simp [rdOk, h9]
    rw [ha, hk]
  · simp [tadv, tOk, hk, tn, h8, h9, adv, hk2]
  · simp [tOk, hk, tn, h8, h9, hk2]
  · have e : tOk xs at_ bad m = true := by simp [tOk, hk, tn, h8, h9]
    show tk xs (at_ + 1) false (fb (tk xs at_ bad 1)) = tv xs at_ bad m
    unfold tv
    rw [if_pos e, tk, if_pos hk2]
    rfl
theorem frtext_p : (FnIs Try.prog 42 ∧ FnOk Try.prog 42 frtext_s) ∧ (idsOk frtext_s.cs && idsOk frtext_s.cs' && Nat.ble frtext_s.n frtext_s.n') = true :=
  fn_of (l := [(37, fru8_s.call), (56, ftk_s.call)]) (hi := frtext_h) (S := frtext_s) (fn := Try.f42) (c := Try.f42.body.get!) tysOk mixOk ⟨fru8_m, ftk_m, trivial⟩ (by kernel_rfl) (by kernel_rfl) (by kernel_rfl) (by kernel_rfl) (by kernel_rfl) frtext_d
theorem frtext_m : May Try.prog (42, frtext_s.call) := may_call frtext_p
theorem frtext_n : May Try.prog (42, frtext_s.callN) := may_callN frtext_p

@[reducible] def same_s : Spec where
  n := 0
  cs := []
  ar := [.lend .u8, .lend .u8]
  pre := fun _ => True
  n' := 0
  cs' := []
  rs := [.el .bool]
  post := .fn fun (xs, ys, _) => (decide (xs = ys), ())
@[reducible] def same_a : Ann where
  nx := 0
  cs := []
  ss := [(0, .lend .u8), (1, .lend .u8), (5, .el (.int .i64))]
  inv := fun (x0, y0, _) (x, y, i, _) => x = x0 ∧ y = y0 ∧ 0 ≤ i ∧ i ≤ x.length ∧ x.take i.toNat = y.take i.toNat
  mu := fun (x, _, i, _) => x.length - i.toNat
@[reducible] def same_h : Hints := ⟨[(6, (tks 0 9 .done))], [(4, same_a)], []⟩
@[reducible] noncomputable def same_e : Env := ⟨tys, []⟩
set_option maxHeartbeats 1000000 in
set_option maxRecDepth 100000 in
theorem same_d : denF same_e same_s same_h Try.f19 := by
  intro xs ys
  repeat' (first | (conv => whnf); first | refine And.intro ?_ ?_ | refine Is.mk ?_ | (intro h; cases h; done) | (intro _))
  all_goals try dsimp only [maxLen, El.ty] at *
  all_goals try trivial
  all_goals repeat (with_reducible cases ‹_ ∧ _›)
  all_goals try subst_eqs
  all_goals try simp only [IntKind.wrap_i64, IntKind.wrap_u64, IntKind.wrap_u32, IntKind.wrap_u8, decide_eq_true_eq, decide_eq_false_iff_not, Bool.not_eq_true', Bool.not_eq_false', Bool.not_not, Bool.not_true, Bool.not_false, List.length_cons, List.length_nil, Int.toNat_natCast, UInt8.ofNat_toNat] at *
  all_goals try first | omega | (with_reducible rfl) | (with_reducible exact u8lt _)
  · have : xs ≠ ys := fun e => by subst e; omega
    simp [this]
  all_goals rename Int => i
  all_goals rename List.take _ _ = _ => h1
  · have : xs ≠ ys := fun e => by subst e; exact absurd rfl (by assumption)
    simp [this]
  · rw [show ((i + 1 + 9223372036854775808) % 18446744073709551616 - 9223372036854775808).toNat = i.toNat + 1 by omega, take_succ_getD _ _ (by omega), take_succ_getD _ _ (by omega), h1]
    congr 2
    exact UInt8.toNat_inj.1 (Int.ofNat_inj.1 (by assumption))
  · rw [List.take_of_length_le (by omega), List.take_of_length_le (by omega)] at h1
    simp [h1]
theorem same_p : (FnIs Try.prog 19 ∧ FnOk Try.prog 19 same_s) ∧ (idsOk same_s.cs && idsOk same_s.cs' && Nat.ble same_s.n same_s.n') = true :=
  fn_of (l := []) (hi := same_h) (S := same_s) (fn := Try.f19) (c := Try.f19.body.get!) tysOk mixOk trivial (by kernel_rfl) (by kernel_rfl) (by kernel_rfl) (by kernel_rfl) (by kernel_rfl) same_d
theorem same_m : May Try.prog (19, same_s.call) := may_call same_p
theorem same_n : May Try.prog (19, same_s.callN) := may_callN same_p

@[reducible] def roomy_s : Spec where
  n := 0
  cs := []
  ar := [.lend .u8, .el .u8]
  pre := fun (xs, _) => xs.length ≤ 1000000000000
  n' := 1
  cs' := [(0, .row 5 .u8)]
  rs := [.own 0]
  post := .fn fun (xs, m, _) => (xs ++ List.replicate 80 m, ())
@[reducible] def roomy_a : Ann where
  nx := 1
  cs := [(0, .row 5 .u8)]
  ss := [(0, .lend .u8), (1, .el .u8), (5, .own 0), (6, .el (.int .i64))]
  inv := fun (_, s0, m0, _, _) (x, s, m, i, _) => s = s0 ∧ m = m0 ∧ s.length ≤ i ∧ i ≤ s.length + 80 ∧ x.length = s.length + 80 ∧ x.take i.toNat = s ++ List.replicate (i.toNat - s.length) m
  mu := fun (x, _, _, i, _) => x.length - i.toNat
theorem room_fill (l xs : List UInt8) (i : Nat) (m : UInt8) (h : xs.length ≤ i) (hi : i < l.length) (e : l.take i = xs ++ List.replicate (i - xs.length) m) : (l.set i m).take (i + 1) = xs ++ List.replicate (i + 1 - xs.length) m := by
  rw [take_succ_getD _ _ (by rw [List.length_set]; exact hi), List.take_set_of_le (Nat.le_refl i), e, show i + 1 - xs.length = (i - xs.length) + 1 by omega, List.replicate_succ', List.append_assoc]
  congr 3
  simp [List.getD, hi]
@[reducible] def roomy_h : Hints := ⟨[], [(4, roomy_a)], []⟩
@[reducible] noncomputable def roomy_e : Env := ⟨tys, []⟩
set_option maxHeartbeats 1000000 in
set_option maxRecDepth 100000 in
theorem roomy_d : denF roomy_e roomy_s roomy_h Try.f25 := by
  intro xs m
  repeat' (first | (conv => whnf); first | refine And.intro ?_ ?_ | refine Is.mk ?_ | (intro h; cases h; done) | (intro _))
  all_goals try dsimp only [maxLen, El.ty] at *
  all_goals try trivial
  all_goals repeat (with_reducible cases ‹_ ∧ _›)
  all_goals try subst_eqs
  all_goals try simp only [IntKind.wrap_i64, IntKind.wrap_u64, IntKind.wrap_u32, IntKind.wrap_u8, decide_eq_true_eq, decide_eq_false_iff_not, Bool.not_eq_true', Bool.not_eq_false', Bool.not_not, Bool.not_true, Bool.not_false, List.length_cons, List.length_nil, Int.toNat_natCast, UInt8.ofNat_toNat] at *
  all_goals try first | omega | (with_reducible rfl) | (with_reducible exact u8lt _)
  all_goals try (have e : List.take (List.replicate ((↑xs.length + 80 + 9223372036854775808) % 18446744073709551616 - 9223372036854775808 : Int).toNat El.u8.dflt).length xs ++ List.drop xs.length (List.replicate ((↑xs.length + 80 + 9223372036854775808) % 18446744073709551616 - 9223372036854775808 : Int).toNat El.u8.dflt) = xs ++ List.replicate 80 0 := by
                   rw [show ((↑xs.length + 80 + 9223372036854775808) % 18446744073709551616 - 9223372036854775808 : Int).toNat = xs.length + 80 by omega, List.length_replicate, List.take_of_length_le (by omega), List.drop_replicate, show xs.length + 80 - xs.length = 80 by omega]
                   rfl
                 rw [e])
  · rw [List.length_append, List.length_replicate]
  · simp
  all_goals rename Int => i
  · rw [List.length_set]
    assumption
  · rw [show ((i + 1 + 9223372036854775808) % 18446744073709551616 - 9223372036854775808).toNat = i.toNat + 1 by omega]
    exact room_fill _ _ _ _ (by omega) (by omega) (by assumption)
  · rw [List.length_set]
    omega
  · rename List.take _ _ = _ => h
    rw [List.take_of_length_le (by omega)] at h
    rw [h, show i.toNat - xs.length = 80 by omega]
theorem roomy_p : (FnIs Try.prog 25 ∧ FnOk Try.prog 25 roomy_s) ∧ (idsOk roomy_s.cs && idsOk roomy_s.cs' && Nat.ble roomy_s.n roomy_s.n') = true :=
  fn_of (l := []) (hi := roomy_h) (S := roomy_s) (fn := Try.f25) (c := Try.f25.body.get!) tysOk mixOk trivial (by kernel_rfl) (by kernel_rfl) (by kernel_rfl) (by kernel_rfl) (by kernel_rfl) roomy_d
theorem roomy_m : May Try.prog (25, roomy_s.call) := may_call roomy_p
theorem roomy_n : May Try.prog (25, roomy_s.callN) := may_callN roomy_p

end Go.J

set_option linter.unusedSimpArgs false
set_option linter.unusedVariables false
set_option linter.unusedSectionVars false
namespace Go.J
open Go.Proofs

@[reducible] def intact_s : Spec where
  n := 0
  cs := []
  ar := [.lend .u8, .lend .u8, .el .u8]
  pre := fun (_, ys, _, _) => ys.length ≤ 1000000000000
  n' := 0
  cs' := []
  rs := [.el .bool]
  post := .fn fun (xs, ys, m, _) => (decide (xs = ys ++ List.replicate 80 m), ())
@[reducible] def intact_a : Ann where
  nx := 0
  cs := []
  ss := [(0, .lend .u8), (1, .lend .u8), (2, .el .u8), (7, .el (.int .i64))]
  inv := fun (x0, y0, m0, _) (x, y, m, i, _) => x = x0 ∧ y = y0 ∧ m = m0 ∧ y.length ≤ i ∧ i ≤ x.length ∧ x.take i.toNat = y ++ List.replicate (i.toNat - y.length) m
  mu := fun (x, _, _, i, _) => x.length - i.toNat
@[reducible] def intact_h : Hints := ⟨[], [(4, intact_a)], []⟩
@[reducible] noncomputable def intact_e : Env := ⟨tys, [(19, same_s.call)]⟩
set_option maxHeartbeats 1000000 in
set_option maxRecDepth 100000 in
theorem intact_d : denF intact_e intact_s intact_h Try.f32 := by
  intro xs ys m
  repeat' (first | (conv => whnf); first | refine And.intro ?_ ?_ | refine Is.mk ?_ | (intro h; cases h; done) | (intro _))
  all_goals try dsimp only [maxLen, El.ty] at *
  all_goals try trivial
  all_goals repeat (with_reducible cases ‹_ ∧ _›)
  all_goals try subst_eqs
  all_goals try simp only [IntKind.wrap_i64, IntKind.wrap_u64, IntKind.wrap_u32, IntKind.wrap_u8, decide_eq_true_eq, decide_eq_false_iff_not, Bool.not_eq_true', Bool.not_eq_false', Bool.not_not, Bool.not_true, Bool.not_false, List.length_cons, List.length_nil, Int.toNat_natCast, UInt8.ofNat_toNat] at *
  all_goals try first | omega | (with_reducible rfl) | (with_reducible exact u8lt _)
  all_goals try simp only [show (↑ys.length - 0 : Int).toNat = ys.length by omega, show Int.toNat 0 = 0 from rfl, List.drop_zero] at *
  · have : xs ≠ ys ++ List.replicate 80 m := fun e => by
      have := congrArg List.length e
      rw [List.length_append, List.length_replicate] at this
      omega
    exact (decide_eq_false this).symm
  · have : xs ≠ ys ++ List.replicate 80 m := fun e => by
      subst e
      simp at *
    exact (decide_eq_false this).symm
  · rename List.take _ _ = _ => h
    rw [h]
    simp
  all_goals rename Int => i
  all_goals rename List.take (Int.toNat i) _ = _ => h
  · have : xs ≠ ys ++ List.replicate 80 m := fun e => by
      rename ¬ (_ = (m.toNat : Int)) => h2
      apply h2
      rw [e]
      simp only [List.getD, List.getElem?_append_right (show ys.length ≤ i.toNat by omega), List.getElem?_replicate]
      rw [if_pos (by omega)]
      rfl
    exact (decide_eq_false this).symm
  · rename _ = (m.toNat : Int) => h2
    rw [show ((i + 1 + 9223372036854775808) % 18446744073709551616 - 9223372036854775808).toNat = i.toNat + 1 by omega, take_succ_getD _ _ (by omega), h, show i.toNat + 1 - ys.length = (i.toNat - ys.length) + 1 by omega, List.replicate_succ', List.append_assoc]
    congr 3
    exact UInt8.toNat_inj.1 (Int.ofNat_inj.1 h2)
  · rw [List.take_of_length_le (by omega)] at h
    rw [h, show i.toNat - ys.length = 80 by omega]
    simp
theorem intact_p : (FnIs Try.prog 32 ∧ FnOk Try.prog 32 intact_s) ∧ (idsOk intact_s.cs && idsOk intact_s.cs' && Nat.ble intact_s.n intact_s.n') = true :=
  fn_of (l := [(19, same_s.call)]) (hi := intact_h) (S := intact_s) (fn := Try.f32) (c := Try.f32.body.get!) tysOk mixOk ⟨same_m, trivial⟩ (by kernel_rfl) (by kernel_rfl) (by kernel_rfl) (by kernel_rfl) (by kernel_rfl) intact_d
theorem intact_m : May Try.prog (32, intact_s.call) := may_call intact_p
theorem intact_n : May Try.prog (32, intact_s.callN) := may_callN intact_p

theorem tmod_fix (n m : Int) (h : 0 < m) : (n.tmod m < 0 → n.tmod m + m = n % m) ∧ (¬ n.tmod m < 0 → n.tmod m = n % m) ∧ -m < n.tmod m ∧ n.tmod m < m := by
  have h1 := Int.mul_tdiv_add_tmod n m
  have h2 := Int.tmod_lt_of_pos n h
  have h3 : -m < n.tmod m := by
    have := Int.lt_tmod_of_pos n h
    omega
  have e : n % m = n.tmod m % m := by
    conv => lhs; rw [← h1]
    rw [Int.add_comm, Int.add_mul_emod_self_left]
  refine ⟨fun hn => ?_, fun hn => ?_, h3, h2⟩
  · rw [e, ← Int.add_emod_right, Int.emod_eq_of_lt (by omega) (by omega)]
  · rw [e, Int.emod_eq_of_lt (by omega) (by omega)]

@[reducible] def within_s : Spec where
  n := 0
  cs := []
  ar := [.el (.int .i64), .el (.int .i64), .el (.int .i64)]
  pre := fun (n, lo, hi, _) => -4611686018427387904 ≤ lo ∧ hi ≤ 4611686018427387904 ∧ lo ≤ hi ∧ hi - lo < 4611686018427387904 ∧ -9223372036854775808 ≤ n ∧ n ≤ 9223372036854775807
  n' := 0
  cs' := []
  rs := [.el (.int .i64)]
  post := .fn fun (n, lo, hi, _) => (lo + n % (hi - lo + 1), ())
@[reducible] def within_h : Hints := ⟨[], [], []⟩
@[reducible] noncomputable def within_e : Env := ⟨tys, []⟩
set_option maxHeartbeats 1000000 in
set_option maxRecDepth 100000 in
theorem within_d : denF within_e within_s within_h Try.f24 := by
  intro n lo hi
  repeat' (first | (conv => whnf); first | refine And.intro ?_ ?_ | refine Is.mk ?_ | (intro h; cases h; done) | (intro _))
  all_goals try dsimp only [maxLen, El.ty] at *
  all_goals try trivial
  all_goals repeat (with_reducible cases ‹_ ∧ _›)
  all_goals try subst_eqs
  all_goals try simp only [IntKind.wrap_i64, IntKind.wrap_u64, IntKind.wrap_u32, IntKind.wrap_u8, decide_eq_true_eq, decide_eq_false_iff_not, Bool.not_eq_true', Bool.not_eq_false', Bool.not_not, Bool.not_true, Bool.not_false, List.length_cons, List.length_nil, Int.toNat_natCast, UInt8.ofNat_toNat] at *
  all_goals try first | omega | (with_reducible rfl) | (with_reducible exact u8lt _)
  all_goals
    rw [show ((hi - lo + 9223372036854775808) % 18446744073709551616 - 9223372036854775808 + 1 + 9223372036854775808) % 18446744073709551616 - 9223372036854775808 = hi - lo + 1 by omega] at *
    obtain ⟨e1, e2, e3, e4⟩ := tmod_fix n (hi - lo + 1) (by omega)
    omega
theorem within_p : (FnIs Try.prog 24 ∧ FnOk Try.prog 24 within_s) ∧ (idsOk within_s.cs && idsOk within_s.cs' && Nat.ble within_s.n within_s.n') = true :=
  fn_of (l := []) (hi := within_h) (S := within_s) (fn := Try.f24) (c := Try.f24.body.get!) tysOk mixOk trivial (by kernel_rfl) (by kernel_rfl) (by kernel_rfl) (by kernel_rfl) (by kernel_rfl) within_d
theorem within_m : May Try.prog (24, within_s.call) := may_call within_p
theorem within_n : May Try.prog (24, within_s.callN) := may_callN within_p

@[reducible] def law_s : Spec where
  n := 0
  cs := []
  ar := []
  pre := fun _ => True
  n' := 0
  cs' := []
  rs := [.el .bool]
  post := .fn fun _ => (true, ())
end Go.J

set_option linter.unusedSimpArgs false
set_option linter.unusedVariables false
set_option linter.unusedSectionVars false
namespace Go.J
open Go.Proofs

@[reducible] def wireRuns_s : Spec := { law_s with }
@[reducible] def wireRuns_h : Hints := ⟨[], [], []⟩
@[reducible] noncomputable def wireRuns_e : Env := ⟨tys, [(17, read_s.call), (18, rtext_s.call), (20, u32_s.call), (19, same_s.call), (21, text_s.call), (22, rbad_s.call), (23, rat_s.call)]⟩
set_option maxHeartbeats 1000000 in
set_option maxRecDepth 100000 in
theorem wireRuns_d : denF wireRuns_e wireRuns_s wireRuns_h Try.f3 := by
  repeat' (first | (conv => whnf); first | refine And.intro ?_ ?_ | refine Is.mk ?_ | (intro h; cases h; done) | (intro _))
  all_goals try dsimp only [maxLen, El.ty] at *
  all_goals try trivial
  all_goals repeat (with_reducible cases ‹_ ∧ _›)
  all_goals try subst_eqs
  all_goals try simp only [IntKind.wrap_i64, IntKind.wrap_u64, IntKind.wrap_u32, IntKind.wrap_u8, decide_eq_true_eq, decide_eq_false_iff_not, Bool.not_eq_true', Bool.not_eq_false', Bool.not_not, Bool.not_true, Bool.not_false, List.length_cons, List.length_nil, Int.toNat_natCast, UInt8.ofNat_toNat] at *
  all_goals try first | omega | (with_reducible rfl) | (with_reducible exact u8lt _)
theorem wireRuns_p : (FnIs Try.prog 3 ∧ FnOk Try.prog 3 wireRuns_s) ∧ (idsOk wireRuns_s.cs && idsOk wireRuns_s.cs' && Nat.ble wireRuns_s.n wireRuns_s.n') = true :=
  fn_of (l := [(17, read_s.call), (18, rtext_s.call), (20, u32_s.call), (19, same_s.call), (21, text_s.call), (22, rbad_s.call), (23, rat_s.call)]) (hi := wireRuns_h) (S := wireRuns_s) (fn := Try.f3) (c := Try.f3.body.get!) tysOk mixOk ⟨read_m, rtext_m, u32_m, same_m, text_m, rbad_m, rat_m, trivial⟩ (by kernel_rfl) (by kernel_rfl) (by kernel_rfl) (by kernel_rfl) (by kernel_rfl) wireRuns_d
theorem wireRuns_m : May Try.prog (3, wireRuns_s.call) := may_call wireRuns_p
theorem wireRuns_n : May Try.prog (3, wireRuns_s.callN) := may_callN wireRuns_p
end Go.J

set_option linter.unusedSimpArgs false
set_option linter.unusedVariables false
set_option linter.unusedSectionVars false
namespace Go.J
open Go.Proofs

theorem txt_len (t : List UInt8) : (txt t).length = 1 + min t.length 255 := by simp [txt]; omega
theorem rd_mid (p q r : List UInt8) (n : Int) (hn : (q.length : Int) = n) : rdOk (p ++ (q ++ r)) p.length false n = true := by
  unfold rdOk
  simp only [List.length_append, Bool.not_false, Bool.true_and, decide_eq_true_eq]
  omega
theorem tk_mid (p q r : List UInt8) (n : Int) (hn : (q.length : Int) = n) : tk (p ++ (q ++ r)) p.length false n = q := by
  unfold tk
  rw [if_pos (rd_mid p q r n hn), Int.toNat_natCast, List.drop_left, ← hn, Int.toNat_natCast, List.take_left]
theorem adv_mid (p q r : List UInt8) (n : Int) (hn : (q.length : Int) = n) : adv (p ++ (q ++ r)) p.length false n = (p.length : Int) + n := by
  unfold adv
  rw [if_pos (rd_mid p q r n hn)]
theorem emod_two (n a b : Int) (ha : 0 ≤ a) : n % (a * b) = n % a + a * (n / a % b) := by
  rw [Int.emod_def, Int.emod_def n a, Int.emod_def (n / a) b, show n / a / b = n / (a * b) from Int.ediv_ediv_of_nonneg ha, Int.mul_sub, Int.mul_assoc]
  omega
theorem fb_be : ∀ (k : Nat) (n : Int), 0 ≤ n → n < 256 ^ k → fb (be k n) = n := by
  have gen : ∀ (k : Nat) (n m : Int), 0 ≤ n → (be k n).foldl (fun n c => n * 256 + (c.toNat : Int)) m = m * 256 ^ k + n % 256 ^ k := by
    intro k
    induction k with
    | zero => intro n m _; simp [be]
    | succ k ih =>
      intro n m hn
      rw [be, List.foldl_cons, ih _ _ hn]
      have hb : ((UInt8.ofNat (n / 256 ^ k % 256).toNat).toNat : Int) = n / 256 ^ k % 256 := by
        have h0 : 0 ≤ n / 256 ^ k % 256 := Int.emod_nonneg _ (by decide)
        have h1 : n / 256 ^ k % 256 < 256 := Int.emod_lt_of_pos _ (by decide)
        rw [UInt8.toNat_ofNat_of_lt' (by rw [Int.toNat_lt h0]; exact h1)]
        omega
      rw [hb]
      have e1 : (256 : Int) ^ (k + 1) = 256 ^ k * 256 := Int.pow_succ 256 k
      have e2 : n % (256 ^ k * 256) = n % 256 ^ k + 256 ^ k * (n / 256 ^ k % 256) := emod_two n (256 ^ k) 256 (Int.le_of_lt (Int.pow_pos (by decide)))
      rw [e1, e2, Int.add_mul, Int.mul_assoc, Int.mul_comm (n / 256 ^ k % 256), Int.mul_comm (256 ^ k) 256]
      omega
  intro k n h0 h1
  have := gen k n 0 h0
  rw [Int.zero_mul, Int.zero_add, Int.emod_eq_of_lt h0 h1] at this
  exact this
/-- Where a text lies, it is read. -/
theorem tn_mid (p t r : List UInt8) : tn (p ++ (txt t ++ r)) p.length false = min t.length 255 := by
  unfold tn
  have e : p ++ (txt t ++ r) = p ++ ([UInt8.ofNat (min t.length 255)] ++ (t.take 255 ++ r)) := rfl
  rw [e, tk_mid p [_] _ 1 rfl]
  simp only [fb, List.foldl_cons, List.foldl_nil]
  rw [UInt8.toNat_ofNat_of_lt' (by show min t.length 255 < 256; omega)]
  omega
theorem tOk_mid (p t r : List UInt8) (k : Int) : tOk (p ++ (txt t ++ r)) p.length false k = decide (((min t.length 255 : Nat) : Int) ≤ k) := by
  unfold tOk
  have e : p ++ (txt t ++ r) = p ++ ([UInt8.ofNat (min t.length 255)] ++ (t.take 255 ++ r)) := rfl
  have h1 : rdOk (p ++ (txt t ++ r)) p.length false 1 = true := by rw [e]; exact rd_mid p [_] _ 1 rfl
  have h2 : ((p.length : Int) + 1 + ((min t.length 255 : Nat) : Int) ≤ ((p ++ (txt t ++ r)).length : Int)) := by
    simp only [List.length_append, txt_len]
    omega
  rw [h1, tn_mid]
  simp only [h2, decide_true, Bool.and_true, Bool.true_and]
theorem tv_mid (p t r : List UInt8) (k : Int) (hk : ((min t.length 255 : Nat) : Int) ≤ k) : tv (p ++ (txt t ++ r)) p.length false k = t.take 255 := by
  unfold tv
  rw [tOk_mid, if_pos (by simpa using hk), tn_mid]
  have e : p ++ (txt t ++ r) = (p ++ [UInt8.ofNat (min t.length 255)]) ++ (t.take 255 ++ r) := by simp [txt]
  rw [e, show ((p.length : Int) + 1).toNat = (p ++ [UInt8.ofNat (min t.length 255)]).length by simp, List.drop_left, Int.toNat_natCast]
  rw [show min t.length 255 = (t.take 255).length by rw [List.length_take]; omega, List.take_left]
theorem tadv_mid (p t r : List UInt8) (k : Int) (hk : ((min t.length 255 : Nat) : Int) ≤ k) : tadv (p ++ (txt t ++ r)) p.length false k = (p.length : Int) + 1 + min t.length 255 := by
  unfold tadv
  rw [tOk_mid, if_pos (by simpa using hk), tn_mid]
theorem tOk_txt (t : List UInt8) (k : Int) : tOk (txt t) 0 false k = decide (((min t.length 255 : Nat) : Int) ≤ k) := by simpa using tOk_mid [] t [] k
theorem tv_txt (t : List UInt8) (k : Int) : tv (txt t) 0 false k = if ((min t.length 255 : Nat) : Int) ≤ k then t.take 255 else [] := by
  split
  · next h => simpa using tv_mid [] t [] k h
  · next h => unfold tv; rw [tOk_txt, if_neg (by simpa using h)]
theorem tadv_txt (t : List UInt8) (k : Int) : tadv (txt t) 0 false k = if ((min t.length 255 : Nat) : Int) ≤ k then 1 + ((min t.length 255 : Nat) : Int) else 0 := by
  split
  · next h => simpa using tadv_mid [] t [] k h
  · next h => unfold tadv; rw [tOk_txt, if_neg (by simpa using h)]
theorem if255 (n : Nat) : (if 255 < (n : Int) then 255 else (n : Int)) = ((min n 255 : Nat) : Int) := by split <;> omega

@[reducible] def wireTexts_s : Spec where
  n := 0
  cs := []
  ar := [.el .str, .el (.int .i64)]
  pre := fun (_, m, _) => -9223372036854775808 ≤ m ∧ m ≤ 9223372036854775807
  n' := 0
  cs' := []
  rs := [.el .bool]
  post := .fn fun _ => (true, ())
@[reducible] def wireTexts_h : Hints := ⟨[], [], []⟩
@[reducible] noncomputable def wireTexts_e : Env := ⟨tys, [(21, text_s.call), (17, read_s.call), (24, within_s.call), (18, rtext_s.call), (22, rbad_s.call), (23, rat_s.call), (3, wireRuns_s.call)]⟩
set_option maxHeartbeats 1000000 in
set_option maxRecDepth 100000 in
theorem wireTexts_d : denF wireTexts_e wireTexts_s wireTexts_h Try.f4 := by
  intro s m
  repeat' (first | (conv => whnf); first | refine And.intro ?_ ?_ | refine Is.mk ?_ | (intro h; cases h; done) | (intro _))
  all_goals try dsimp only [maxLen, El.ty] at *
  all_goals try trivial
  all_goals repeat (with_reducible cases ‹_ ∧ _›)
  all_goals try subst_eqs
  all_goals try simp only [IntKind.wrap_i64, IntKind.wrap_u64, IntKind.wrap_u32, IntKind.wrap_u8, decide_eq_true_eq, decide_eq_false_iff_not, Bool.not_eq_true', Bool.not_eq_false', Bool.not_not, Bool.not_true, Bool.not_false, List.length_cons, List.length_nil, Int.toNat_natCast, UInt8.ofNat_toNat] at *
  all_goals try first | omega | (with_reducible rfl) | (with_reducible exact u8lt _)
  all_goals obtain ⟨t, ht, hl⟩ : ∃ t, List.take ((if 300 < (s.length : Int) then 300 else (s.length : Int)) - 0).toNat (List.drop (Int.toNat 0) s) = t ∧ t.length ≤ 300 := ⟨_, rfl, by rw [List.length_take]; split <;> omega⟩
  all_goals simp only [ht, if255, List.nil_append, txt_len] at *
  all_goals try omega
  all_goals have hk : 0 ≤ m % (260 - 0 + 1) := Int.emod_nonneg _ (by decide)
  all_goals generalize hK : 0 + m % (260 - 0 + 1) = k at *
  all_goals simp only [tOk_txt, tv_txt, tadv_txt] at *
  all_goals by_cases hc : ((min t.length 255 : Nat) : Int) ≤ k
  all_goals try simp only [hc, if_true, if_false, decide_true, decide_false, Bool.not_true, Bool.not_false, not_true_eq_false, not_false_eq_true, Bool.false_eq_true, reduceCtorEq, decide_eq_true_eq] at *
  all_goals have e : (((min t.length 255 : Nat) : Int) - 0).toNat = min t.length 255 := by omega
  all_goals simp only [e, show Int.toNat 0 = 0 from rfl, List.drop_zero] at *
  · rename ¬ (_ = _) => h
    exact h (List.take_eq_take_iff.2 (by omega))
  · rename ¬ (_ = _) => h
    refine h (decide_eq_decide.2 ⟨fun hh => ?_, fun hh => ?_⟩)
    · have := congrArg List.length hh
      rw [List.length_take, List.length_nil] at this
      omega
    · rw [List.length_eq_zero_iff.1 (show t.length = 0 by omega)]
      rfl
theorem wireTexts_p : (FnIs Try.prog 4 ∧ FnOk Try.prog 4 wireTexts_s) ∧ (idsOk wireTexts_s.cs && idsOk wireTexts_s.cs' && Nat.ble wireTexts_s.n wireTexts_s.n') = true :=
  fn_of (l := [(21, text_s.call), (17, read_s.call), (24, within_s.call), (18, rtext_s.call), (22, rbad_s.call), (23, rat_s.call), (3, wireRuns_s.call)]) (hi := wireTexts_h) (S := wireTexts_s) (fn := Try.f4) (c := Try.f4.body.get!) tysOk mixOk ⟨text_m, read_m, within_m, rtext_m, rbad_m, rat_m, wireRuns_m, trivial⟩ (by kernel_rfl) (by kernel_rfl) (by kernel_rfl) (by kernel_rfl) (by kernel_rfl) wireTexts_d
theorem wireTexts_m : May Try.prog (4, wireTexts_s.call) := may_call wireTexts_p
theorem wireTexts_n : May Try.prog (4, wireTexts_s.callN) := may_callN wireTexts_p

theorem be_less : ∀ (k : Nat) (a b : Int), Op.bytesLess (be k a) (be k b) = decide (a % 256 ^ k < b % 256 ^ k)
  | 0, a, b => by simp [be, Op.bytesLess, Int.emod_one]
  | k + 1, a, b => by
    have hP : (0 : Int) < 256 ^ k := Int.pow_pos (by decide)
    have a1 : 0 ≤ a / 256 ^ k % 256 := Int.emod_nonneg _ (by decide)
    have a2 : a / 256 ^ k % 256 < 256 := Int.emod_lt_of_pos _ (by decide)
    have b1 : 0 ≤ b / 256 ^ k % 256 := Int.emod_nonneg _ (by decide)
    have b2 : b / 256 ^ k % 256 < 256 := Int.emod_lt_of_pos _ (by decide)
    have a3 : 0 ≤ a % 256 ^ k := Int.emod_nonneg _ (by omega)
    have a4 : a % 256 ^ k < 256 ^ k := Int.emod_lt_of_pos _ hP
    have b3 : 0 ≤ b % 256 ^ k := Int.emod_nonneg _ (by omega)
    have b4 : b % 256 ^ k < 256 ^ k := Int.emod_lt_of_pos _ hP
    simp only [be, Op.bytesLess]
    rw [be_less k a b, show (256 : Int) ^ (k + 1) = 256 ^ k * 256 from Int.pow_succ 256 k, emod_two a _ _ (Int.le_of_lt hP), emod_two b _ _ (Int.le_of_lt hP)]
    generalize a / 256 ^ k % 256 = x at *
    generalize b / 256 ^ k % 256 = y at *
    generalize a % 256 ^ k = ra at *
    generalize b % 256 ^ k = rb at *
    generalize (256 : Int) ^ k = P at *
    have hx : (UInt8.ofNat x.toNat).toNat = x.toNat := UInt8.toNat_ofNat_of_lt' (by show x.toNat < 256; omega)
    have hy : (UInt8.ofNat y.toNat).toNat = y.toNat := UInt8.toNat_ofNat_of_lt' (by show y.toNat < 256; omega)
    have hlt : (UInt8.ofNat x.toNat < UInt8.ofNat y.toNat) ↔ x < y := by rw [UInt8.lt_iff_toNat_lt, hx, hy]; omega
    have heq : (UInt8.ofNat x.toNat = UInt8.ofNat y.toNat) ↔ x = y := by rw [← UInt8.toNat_inj, hx, hy]; omega
    rw [Bool.eq_iff_iff]
    simp only [Bool.or_eq_true, Bool.and_eq_true, decide_eq_true_eq, beq_iff_eq, hlt, heq]
    rcases Int.lt_trichotomy x y with h | h | h
    · have := Int.mul_le_mul_of_nonneg_left (show x + 1 ≤ y by omega) (Int.le_of_lt hP)
      rw [Int.mul_add, Int.mul_one] at this
      constructor
      · intro _; omega
      · intro _; exact .inl h
    · subst h
      constructor
      · rintro (h | ⟨_, h⟩)
        · omega
        · omega
      · intro h; exact .inr ⟨rfl, by omega⟩
    · have := Int.mul_le_mul_of_nonneg_left (show y + 1 ≤ x by omega) (Int.le_of_lt hP)
      rw [Int.mul_add, Int.mul_one] at this
      constructor
      · rintro (h | ⟨h, _⟩) <;> omega
      · intro h; omega

@[reducible] def wireOrder_s : Spec where
  n := 0
  cs := []
  ar := [.el (.int .u32), .el (.int .u32), .el (.int .u64)]
  pre := fun (a, b, c, _) => (0 ≤ a ∧ a < 4294967296) ∧ (0 ≤ b ∧ b < 4294967296) ∧ (0 ≤ c ∧ c < 18446744073709551616)
  n' := 0
  cs' := []
  rs := [.el .bool]
  post := .fn fun _ => (true, ())
@[reducible] def wireOrder_h : Hints := ⟨[], [], []⟩
@[reducible] noncomputable def wireOrder_e : Env := ⟨tys, [(20, u32_s.call), (29, u64_s.call), (19, same_s.call), (26, u8_s.call), (3, wireRuns_s.call)]⟩
set_option maxHeartbeats 1000000 in
set_option maxRecDepth 100000 in
theorem wireOrder_d : denF wireOrder_e wireOrder_s wireOrder_h Try.f6 := by
  intro a b c
  repeat' (first | (conv => whnf); first | refine And.intro ?_ ?_ | refine Is.mk ?_ | (intro h; cases h; done) | (intro _))
  all_goals try dsimp only [maxLen, El.ty] at *
  all_goals try trivial
  all_goals repeat (with_reducible cases ‹_ ∧ _›)
  all_goals try subst_eqs
  all_goals try simp only [IntKind.wrap_i64, IntKind.wrap_u64, IntKind.wrap_u32, IntKind.wrap_u8, decide_eq_true_eq, decide_eq_false_iff_not, Bool.not_eq_true', Bool.not_eq_false', Bool.not_not, Bool.not_true, Bool.not_false, List.length_cons, List.length_nil, Int.toNat_natCast, UInt8.ofNat_toNat] at *
  all_goals try first | omega | (with_reducible rfl) | (with_reducible exact u8lt _)
  all_goals simp only [List.nil_append, be_less] at *
  · rename ¬ (_ = _) => h
    refine (h ?_).elim
    rw [Int.emod_eq_of_lt (by omega) (by show a < 4294967296; omega), Int.emod_eq_of_lt (by omega) (by show b < 4294967296; omega)]
  · rw [be_length]
    omega
  · rename ¬ (_ = _) => h
    refine (h ?_).elim
    rw [be8 c ⟨by assumption, by assumption⟩, Int.fdiv_eq_ediv_of_nonneg _ (show (0 : Int) ≤ 2 ^ min (Int.toNat 32) IntKind.u64.bits by decide)]
    rfl
theorem wireOrder_p : (FnIs Try.prog 6 ∧ FnOk Try.prog 6 wireOrder_s) ∧ (idsOk wireOrder_s.cs && idsOk wireOrder_s.cs' && Nat.ble wireOrder_s.n wireOrder_s.n') = true :=
  fn_of (l := [(20, u32_s.call), (29, u64_s.call), (19, same_s.call), (26, u8_s.call), (3, wireRuns_s.call)]) (hi := wireOrder_h) (S := wireOrder_s) (fn := Try.f6) (c := Try.f6.body.get!) tysOk mixOk ⟨u32_m, u64_m, same_m, u8_m, wireRuns_m, trivial⟩ (by kernel_rfl) (by kernel_rfl) (by kernel_rfl) (by kernel_rfl) (by kernel_rfl) wireOrder_d
theorem wireOrder_m : May Try.prog (6, wireOrder_s.call) := may_call wireOrder_p
theorem wireOrder_n : May Try.prog (6, wireOrder_s.callN) := may_callN wireOrder_p
end Go.J

set_option linter.unusedSimpArgs false
set_option linter.unusedVariables false
set_option linter.unusedSectionVars false
namespace Go.J
open Go.Proofs

@[reducible] def iE : El := .int .i64
@[reducible] def cmdE : El := .cons iE (.cons iE (.cons iE (.cons iE (.cons iE (.cons iE (.cons iE (.cons iE (.cons iE (.cons iE (.cons iE (.cons iE (.cons iE (.cons iE (.cons (.ar 32 .u8) .nil))))))))))))))

@[reducible] noncomputable def wide_c := inl ⟨tys, []⟩ ⟨[], [], []⟩ Try.f62 Try.f62.body.get!
theorem wide_m : May Try.prog (62, wide_c) :=
  may_inl tysOk mixOk trivial (by kernel_rfl) (by kernel_rfl) (by kernel_rfl) (by kernel_rfl)
@[reducible] noncomputable def slim_c := inl ⟨tys, []⟩ ⟨[], [], []⟩ Try.f63 Try.f63.body.get!
theorem slim_m : May Try.prog (63, slim_c) :=
  may_inl tysOk mixOk trivial (by kernel_rfl) (by kernel_rfl) (by kernel_rfl) (by kernel_rfl)
@[reducible] noncomputable def fields_c := inl ⟨tys, [(62, wide_c), (63, slim_c)]⟩ ⟨[(1, (tks 0 3 (tks 4 3 (tks 8 3 (tks 12 3 (.last 3 false [] (.last 7 false [] (.last 11 false [] (.last 15 false [] (.cash 16 [] (.cash 17 [] (.cash 18 [] (.cash 19 [] (.last 20 false [] (.last 21 false [] (.last 22 false [] (.last 23 false [] .done))))))))))))))))), (2, (tks 0 3 (tks 4 3 (.last 3 false [] (.last 7 false [] (.cash 8 [] (.cash 9 [] (.last 10 false [] (.last 11 false [] .done))))))))), (7, (tks 0 6 (tks 7 3 (tks 11 5 (tks 17 3 (.last 6 false [0, 1, 2, 11, 12] (.last 10 false [0, 1, 2, 11, 12] (.last 16 false [0, 1, 2, 11, 12] (.last 20 false [0, 1, 2, 11, 12] (.last 21 false [] (.last 22 false [] (.last 23 false [] .done)))))))))))), (13, (tks 0 4 (tks 5 3 (.last 4 false [0] (.last 8 false [0] (.last 9 false [] (.last 10 false [] (.last 11 false [] .done)))))))), (15, (tks 0 4 (tks 5 3 (tks 9 3 (.last 4 false [0] (.last 8 false [0] (.last 12 false [0] (.last 13 false [] (.last 14 false [] (.last 15 false [] .done))))))))))], [], []⟩ Try.f57 Try.f57.body.get!
theorem fields_m : May Try.prog (57, fields_c) :=
  may_inl tysOk mixOk ⟨wide_m, slim_m, trivial⟩ (by kernel_rfl) (by kernel_rfl) (by kernel_rfl) (by kernel_rfl)

end Go.J

set_option linter.unusedSimpArgs false
set_option linter.unusedVariables false
set_option linter.unusedSectionVars false
namespace Go.J
open Go.Proofs

def w4 (n : Int) : Bool := decide (0 ≤ n) && decide (n ≤ 1073741824)
def w1 (lo hi n : Int) : Bool := decide (lo ≤ n) && decide (n ≤ hi)
/-- All are nought. -/
def zs : List Int → Bool
  | [] => true
  | n :: l => decide (n = 0) && zs l
def zt (tag : List UInt8) : Bool := decide (tag = List.replicate 32 0)
/-- May a command be? -/
def rightF (k seq tr inst id side ord pr q sh st wh a b : Int) (tag : List UInt8) : Bool :=
  if k = 1 then w1 0 31 tr && (zs [seq, inst, id, side, ord, pr, q, sh, st, wh, a, b] && zt tag)
  else if k = 2 then zs [seq, tr, inst, id, side, ord, pr, q, sh, st, wh, a, b]
  else if k = 3 then w4 seq && (w1 0 7 inst && (w4 id && (w1 0 255 side && (w1 0 255 ord && (w4 pr && (w4 q && (w4 sh && (w4 st && (zs [tr, wh, a, b] && zt tag)))))))))
  else if k = 4 then w4 seq && (w1 0 7 inst && (w4 id && (w1 0 31 tr && (zs [side, ord, pr, q, sh, st, wh, a, b] && zt tag))))
  else if k = 5 then w4 seq && (w1 0 7 inst && (w4 id && (w4 pr && (w4 q && (zs [tr, side, ord, sh, st, wh, a, b] && zt tag)))))
  else if k = 6 then w4 seq && (w1 0 8 inst && (w1 1 3 wh && (zs [tr, id, side, ord, pr, q, sh, st, a, b] && zt tag)))
  else if k = 7 then zs [seq, tr, inst, id, side, ord, pr, q, sh, st, wh, a, b] && zt tag
  else if k = 8 then zs [seq, tr, inst, id, side, ord, pr, q, sh, st, wh, a, b] && zt tag
  else if k = 9 then w4 seq && (w1 1 9 wh && (w1 0 255 a && (w1 0 255 b && (zs [tr, inst, id, side, ord, pr, q, sh, st] && zt tag))))
  else false

@[reducible] def right_s : Spec where
  n := 0
  cs := []
  ar := [.el cmdE]
  pre := fun ((_, _, _, _, _, _, _, _, _, _, _, _, _, _, tag, _), _) => tag.length = 32
  n' := 0
  cs' := []
  rs := [.el .bool]
  post := .fn fun ((k, seq, tr, inst, id, side, ord, pr, q, sh, st, wh, a, b, tag, _), _) => (rightF k seq tr inst id side ord pr q sh st wh a b tag, ())
theorem kinds (k : Int) : k = 1 ∨ k = 2 ∨ k = 3 ∨ k = 4 ∨ k = 5 ∨ k = 6 ∨ k = 7 ∨ k = 8 ∨ k = 9 ∨ (k ≠ 1 ∧ k ≠ 2 ∧ k ≠ 3 ∧ k ≠ 4 ∧ k ≠ 5 ∧ k ≠ 6 ∧ k ≠ 7 ∧ k ≠ 8 ∧ k ≠ 9) := by omega
theorem absd {p : Prop} [Decidable p] (h : ¬ p) (k : decide p = true) : False := h (of_decide_eq_true k)
theorem zt_eq (tag : List UInt8) [i : Decidable (tag = List.replicate 32 El.u8.dflt)] : decide (tag = List.replicate 32 El.u8.dflt) = zt tag := by
  unfold zt
  congr
@[reducible] def right_h : Hints := ⟨[(5, (.take 0 false (.take 1 true (tks 2 8 (.take 10 true (tks 11 8 (.last 19 false [] .done)))))))], [], [(3, 10)]⟩
@[reducible] noncomputable def right_e : Env := ⟨tys, [(57, fields_c)]⟩
set_option maxHeartbeats 2000000 in
set_option maxRecDepth 100000 in
theorem right_k1 (k seq tr inst id side ord pr q sh st wh a b : Int) (tag : List UInt8) (hk : k = 1) : denX right_e right_s right_h Try.f46 ((k, seq, tr, inst, id, side, ord, pr, q, sh, st, wh, a, b, tag, ()), ()) := by
  subst hk
  intro htag
  repeat' (first | (conv => whnf); first | refine And.intro ?_ ?_ | refine Is.mk ?_ | (intro h; cases h; done) | (intro _))
  all_goals try trivial
  all_goals first | omega | (with_reducible rfl) | (simp only [rightF]; first | decide | (simp only [if_pos, if_neg, Int.reduceEq, reduceIte, w1, w4, zs, zt_eq, *, eq_self, decide_true, Bool.and_true, Bool.true_and, Bool.and_false, Bool.false_and, Bool.and_assoc]; done) | (simp only [if_pos, if_neg, Int.reduceEq, reduceIte, w1, w4, zs, *, eq_self, decide_true, Bool.and_true, Bool.true_and, Bool.and_false, Bool.false_and, Bool.and_assoc]; rfl) | skip)
set_option maxHeartbeats 2000000 in
set_option maxRecDepth 100000 in
theorem right_k2 (k seq tr inst id side ord pr q sh st wh a b : Int) (tag : List UInt8) (hk : k = 2) : denX right_e right_s right_h Try.f46 ((k, seq, tr, inst, id, side, ord, pr, q, sh, st, wh, a, b, tag, ()), ()) := by
  subst hk
  intro htag
  repeat' (first | (conv => whnf); first | refine And.intro ?_ ?_ | refine Is.mk ?_ | (intro h; cases h; done) | (intro _))
  all_goals try trivial
  all_goals first | omega | (with_reducible rfl) | (simp only [rightF]; first | decide | (simp only [if_pos, if_neg, Int.reduceEq, reduceIte, w1, w4, zs, zt_eq, *, eq_self, decide_true, Bool.and_true, Bool.true_and, Bool.and_false, Bool.false_and, Bool.and_assoc]; done) | (simp only [if_pos, if_neg, Int.reduceEq, reduceIte, w1, w4, zs, *, eq_self, decide_true, Bool.and_true, Bool.true_and, Bool.and_false, Bool.false_and, Bool.and_assoc]; rfl) | skip)
set_option maxHeartbeats 2000000 in
set_option maxRecDepth 100000 in
theorem right_k3 (k seq tr inst id side ord pr q sh st wh a b : Int) (tag : List UInt8) (hk : k = 3) : denX right_e right_s right_h Try.f46 ((k, seq, tr, inst, id, side, ord, pr, q, sh, st, wh, a, b, tag, ()), ()) := by
  subst hk
  intro htag
  repeat' (first | (conv => whnf); first | refine And.intro ?_ ?_ | refine Is.mk ?_ | (intro h; cases h; done) | (intro _))
  all_goals try trivial
  all_goals first | omega | (with_reducible rfl) | (simp only [rightF]; first | decide | (simp only [if_pos, if_neg, Int.reduceEq, reduceIte, w1, w4, zs, zt_eq, *, eq_self, decide_true, Bool.and_true, Bool.true_and, Bool.and_false, Bool.false_and, Bool.and_assoc]; done) | (simp only [if_pos, if_neg, Int.reduceEq, reduceIte, w1, w4, zs, *, eq_self, decide_true, Bool.and_true, Bool.true_and, Bool.and_false, Bool.false_and, Bool.and_assoc]; rfl) | skip)
set_option maxHeartbeats 2000000 in
set_option maxRecDepth 100000 in
theorem right_k4 (k seq tr inst id side ord pr q sh st wh a b : Int) (tag : List UInt8) (hk : k = 4) : denX right_e right_s right_h Try.f46 ((k, seq, tr, inst, id, side, ord, pr, q, sh, st, wh, a, b, tag, ()), ()) := by
  subst hk
  intro htag
  repeat' (first | (conv => whnf); first | refine And.intro ?_ ?_ | refine Is.mk ?_ | (intro h; cases h; done) | (intro _))
  all_goals try trivial
  all_goals first | omega | (with_reducible rfl) | (simp only [rightF]; first | decide | (simp only [if_pos, if_neg, Int.reduceEq, reduceIte, w1, w4, zs, zt_eq, *, eq_self, decide_true, Bool.and_true, Bool.true_and, Bool.and_false, Bool.false_and, Bool.and_assoc]; done) | (simp only [if_pos, if_neg, Int.reduceEq, reduceIte, w1, w4, zs, *, eq_self, decide_true, Bool.and_true, Bool.true_and, Bool.and_false, Bool.false_and, Bool.and_assoc]; rfl) | skip)
set_option maxHeartbeats 2000000 in
set_option maxRecDepth 100000 in
theorem right_k5 (k seq tr inst id side ord pr q sh st wh a b : Int) (tag : List UInt8) (hk : k = 5) : denX right_e right_s right_h Try.f46 ((k, seq, tr, inst, id, side, ord, pr, q, sh, st, wh, a, b, tag, ()), ()) := by
  subst hk
  intro htag
  repeat' (first | (conv => whnf); first | refine And.intro ?_ ?_ | refine Is.mk ?_ | (intro h; cases h; done) | (intro _))
  all_goals try trivial
  all_goals first | omega | (with_reducible rfl) | (simp only [rightF]; first | decide | (simp only [if_pos, if_neg, Int.reduceEq, reduceIte, w1, w4, zs, zt_eq, *, eq_self, decide_true, Bool.and_true, Bool.true_and, Bool.and_false, Bool.false_and, Bool.and_assoc]; done) | (simp only [if_pos, if_neg, Int.reduceEq, reduceIte, w1, w4, zs, *, eq_self, decide_true, Bool.and_true, Bool.true_and, Bool.and_false, Bool.false_and, Bool.and_assoc]; rfl) | skip)
set_option maxHeartbeats 2000000 in
set_option maxRecDepth 100000 in
theorem right_k6 (k seq tr inst id side ord pr q sh st wh a b : Int) (tag : List UInt8) (hk : k = 6) : denX right_e right_s right_h Try.f46 ((k, seq, tr, inst, id, side, ord, pr, q, sh, st, wh, a, b, tag, ()), ()) := by
  subst hk
  intro htag
  repeat' (first | (conv => whnf); first | refine And.intro ?_ ?_ | refine Is.mk ?_ | (intro h; cases h; done) | (intro _))
  all_goals try trivial
  all_goals first | omega | (with_reducible rfl) | (simp only [rightF]; first | decide | (simp only [if_pos, if_neg, Int.reduceEq, reduceIte, w1, w4, zs, zt_eq, *, eq_self, decide_true, Bool.and_true, Bool.true_and, Bool.and_false, Bool.false_and, Bool.and_assoc]; done) | (simp only [if_pos, if_neg, Int.reduceEq, reduceIte, w1, w4, zs, *, eq_self, decide_true, Bool.and_true, Bool.true_and, Bool.and_false, Bool.false_and, Bool.and_assoc]; rfl) | skip)
set_option maxHeartbeats 2000000 in
set_option maxRecDepth 100000 in
theorem right_k7 (k seq tr inst id side ord pr q sh st wh a b : Int) (tag : List UInt8) (hk : k = 7) : denX right_e right_s right_h Try.f46 ((k, seq, tr, inst, id, side, ord, pr, q, sh, st, wh, a, b, tag, ()), ()) := by
  subst hk
  intro htag
  repeat' (first | (conv => whnf); first | refine And.intro ?_ ?_ | refine Is.mk ?_ | (intro h; cases h; done) | (intro _))
  all_goals try trivial
  all_goals first | omega | (with_reducible rfl) | (simp only [rightF]; first | decide | (simp only [if_pos, if_neg, Int.reduceEq, reduceIte, w1, w4, zs, zt_eq, *, eq_self, decide_true, Bool.and_true, Bool.true_and, Bool.and_false, Bool.false_and, Bool.and_assoc]; done) | (simp only [if_pos, if_neg, Int.reduceEq, reduceIte, w1, w4, zs, *, eq_self, decide_true, Bool.and_true, Bool.true_and, Bool.and_false, Bool.false_and, Bool.and_assoc]; rfl) | skip)
set_option maxHeartbeats 2000000 in
set_option maxRecDepth 100000 in
theorem right_k8 (k seq tr inst id side ord pr q sh st wh a b : Int) (tag : List UInt8) (hk : k = 8) : denX right_e right_s right_h Try.f46 ((k, seq, tr, inst, id, side, ord, pr, q, sh, st, wh, a, b, tag, ()), ()) := by
  subst hk
  intro htag
  repeat' (first | (conv => whnf); first | refine And.intro ?_ ?_ | refine Is.mk ?_ | (intro h; cases h; done) | (intro _))
  all_goals try trivial
  all_goals first | omega | (with_reducible rfl) | (simp only [rightF]; first | decide | (simp only [if_pos, if_neg, Int.reduceEq, reduceIte, w1, w4, zs, zt_eq, *, eq_self, decide_true, Bool.and_true, Bool.true_and, Bool.and_false, Bool.false_and, Bool.and_assoc]; done) | (simp only [if_pos, if_neg, Int.reduceEq, reduceIte, w1, w4, zs, *, eq_self, decide_true, Bool.and_true, Bool.true_and, Bool.and_false, Bool.false_and, Bool.and_assoc]; rfl) | skip)
set_option maxHeartbeats 2000000 in
set_option maxRecDepth 100000 in
theorem right_k9 (k seq tr inst id side ord pr q sh st wh a b : Int) (tag : List UInt8) (hk : k = 9) : denX right_e right_s right_h Try.f46 ((k, seq, tr, inst, id, side, ord, pr, q, sh, st, wh, a, b, tag, ()), ()) := by
  subst hk
  intro htag
  repeat' (first | (conv => whnf); first | refine And.intro ?_ ?_ | refine Is.mk ?_ | (intro h; cases h; done) | (intro _))
  all_goals try trivial
  all_goals first | omega | (with_reducible rfl) | (simp only [rightF]; first | decide | (simp only [if_pos, if_neg, Int.reduceEq, reduceIte, w1, w4, zs, zt_eq, *, eq_self, decide_true, Bool.and_true, Bool.true_and, Bool.and_false, Bool.false_and, Bool.and_assoc]; done) | (simp only [if_pos, if_neg, Int.reduceEq, reduceIte, w1, w4, zs, *, eq_self, decide_true, Bool.and_true, Bool.true_and, Bool.and_false, Bool.false_and, Bool.and_assoc]; rfl) | skip)
set_option maxHeartbeats 2000000 in
set_option maxRecDepth 100000 in
theorem right_k10 (k seq tr inst id side ord pr q sh st wh a b : Int) (tag : List UInt8) (hk : k ≠ 1 ∧ k ≠ 2 ∧ k ≠ 3 ∧ k ≠ 4 ∧ k ≠ 5 ∧ k ≠ 6 ∧ k ≠ 7 ∧ k ≠ 8 ∧ k ≠ 9) : denX right_e right_s right_h Try.f46 ((k, seq, tr, inst, id, side, ord, pr, q, sh, st, wh, a, b, tag, ()), ()) := by
  obtain ⟨n1, n2, n3, n4, n5, n6, n7, n8, n9⟩ := hk
  intro htag
  repeat' (first | (conv => whnf); first | refine And.intro ?_ ?_ | refine Is.mk ?_ | (intro h; exact absurd h (by simp only [decide_eq_true_eq]; assumption)) | (intro h; cases h; done) | (intro _))
  all_goals try trivial
  all_goals first | omega | (with_reducible rfl) | (simp only [rightF]; first | decide | (simp only [if_pos, if_neg, Int.reduceEq, reduceIte, w1, w4, zs, zt_eq, *, eq_self, decide_true, Bool.and_true, Bool.true_and, Bool.and_false, Bool.false_and, Bool.and_assoc]; done) | (simp only [if_pos, if_neg, Int.reduceEq, reduceIte, w1, w4, zs, *, eq_self, decide_true, Bool.and_true, Bool.true_and, Bool.and_false, Bool.false_and, Bool.and_assoc]; rfl) | skip)
set_option maxHeartbeats 1000000 in
set_option maxRecDepth 100000 in
theorem right_d : denF right_e right_s right_h Try.f46 := by
  intro k seq tr inst id side ord pr q sh st wh a b tag
  rcases kinds k with h | h | h | h | h | h | h | h | h | h
  · exact right_k1 k seq tr inst id side ord pr q sh st wh a b tag h
  · exact right_k2 k seq tr inst id side ord pr q sh st wh a b tag h
  · exact right_k3 k seq tr inst id side ord pr q sh st wh a b tag h
  · exact right_k4 k seq tr inst id side ord pr q sh st wh a b tag h
  · exact right_k5 k seq tr inst id side ord pr q sh st wh a b tag h
  · exact right_k6 k seq tr inst id side ord pr q sh st wh a b tag h
  · exact right_k7 k seq tr inst id side ord pr q sh st wh a b tag h
  · exact right_k8 k seq tr inst id side ord pr q sh st wh a b tag h
  · exact right_k9 k seq tr inst id side ord pr q sh st wh a b tag h
  · exact right_k10 k seq tr inst id side ord pr q sh st wh a b tag h
theorem right_p : (FnIs Try.prog 46 ∧ FnOk Try.prog 46 right_s) ∧ (idsOk right_s.cs && idsOk right_s.cs' && Nat.ble right_s.n right_s.n') = true :=
  fn_of (l := [(57, fields_c)]) (hi := right_h) (S := right_s) (fn := Try.f46) (c := Try.f46.body.get!) tysOk mixOk ⟨fields_m, trivial⟩ (by kernel_rfl) (by kernel_rfl) (by kernel_rfl) (by kernel_rfl) (by kernel_rfl) right_d
theorem right_m : May Try.prog (46, right_s.call) := may_call right_p
theorem right_n : May Try.prog (46, right_s.callN) := may_callN right_p

end Go.J

set_option linter.unusedSimpArgs false
set_option linter.unusedVariables false
set_option linter.unusedSectionVars false
namespace Go.J
open Go.Proofs

@[reducible] def mnum_s : Spec where
  n := 0
  cs := []
  ar := [.lend .u8, .el (.int .i64), .el (.int .i64)]
  pre := fun (xs, n, _) => xs.length ≤ 1000000000000 ∧ -9223372036854775808 ≤ n ∧ n ≤ 9223372036854775807
  n' := 1
  cs' := [(0, .row 5 .u8)]
  rs := [.own 0]
  post := .fn fun (xs, n, size, _) => (xs ++ (if size = 1 then be 1 (n % 18446744073709551616) else be 4 (n % 4294967296)), ())
@[reducible] def mnum_h : Hints := ⟨[], [], []⟩
@[reducible] noncomputable def mnum_e : Env := ⟨tys, [(26, u8_s.call), (20, u32_s.call)]⟩
set_option maxHeartbeats 1000000 in
set_option maxRecDepth 100000 in
theorem mnum_d : denF mnum_e mnum_s mnum_h Try.f58 := by
  intro xs n size
  repeat' (first | (conv => whnf); first | refine And.intro ?_ ?_ | refine Is.mk ?_ | (intro h; cases h; done) | (intro _))
  all_goals try dsimp only [maxLen, El.ty] at *
  all_goals try trivial
  all_goals repeat (with_reducible cases ‹_ ∧ _›)
  all_goals try subst_eqs
  all_goals try simp only [IntKind.wrap_i64, IntKind.wrap_u64, IntKind.wrap_u32, IntKind.wrap_u8, decide_eq_true_eq, decide_eq_false_iff_not, Bool.not_eq_true', Bool.not_eq_false', Bool.not_not, Bool.not_true, Bool.not_false, List.length_cons, List.length_nil, Int.toNat_natCast, UInt8.ofNat_toNat] at *
  all_goals try first | omega | (with_reducible rfl) | (with_reducible exact u8lt _)
  all_goals simp only [*, if_true, if_false]
theorem mnum_p : (FnIs Try.prog 58 ∧ FnOk Try.prog 58 mnum_s) ∧ (idsOk mnum_s.cs && idsOk mnum_s.cs' && Nat.ble mnum_s.n mnum_s.n') = true :=
  fn_of (l := [(26, u8_s.call), (20, u32_s.call)]) (hi := mnum_h) (S := mnum_s) (fn := Try.f58) (c := Try.f58.body.get!) tysOk mixOk ⟨u8_m, u32_m, trivial⟩ (by kernel_rfl) (by kernel_rfl) (by kernel_rfl) (by kernel_rfl) (by kernel_rfl) mnum_d
theorem mnum_m : May Try.prog (58, mnum_s.call) := may_call mnum_p
theorem mnum_n : May Try.prog (58, mnum_s.callN) := may_callN mnum_p

/-- What a command's kind names, as bytes. -/
def restF (k seq tr inst id side ord pr q sh st wh a b : Int) (tag : List UInt8) : List UInt8 :=
  if k = 1 then be 1 tr
  else if k = 2 then tag
  else if k = 3 then be 4 seq ++ be 1 inst ++ be 4 id ++ be 1 side ++ be 1 ord ++ be 4 pr ++ be 4 q ++ be 4 sh ++ be 4 st
  else if k = 4 then be 4 seq ++ be 1 inst ++ be 4 id ++ be 1 tr
  else if k = 5 then be 4 seq ++ be 1 inst ++ be 4 id ++ be 4 pr ++ be 4 q
  else if k = 6 then be 4 seq ++ be 1 inst ++ be 1 wh
  else if k = 9 then be 4 seq ++ be 1 wh ++ be 1 a ++ be 1 b
  else []
def bytesF (k seq tr inst id side ord pr q sh st wh a b : Int) (tag : List UInt8) : List UInt8 := be 1 k ++ restF k seq tr inst id side ord pr q sh st wh a b tag
def putF (k seq tr inst id side ord pr q sh st wh a b : Int) (tag : List UInt8) : List UInt8 :=
  if rightF k seq tr inst id side ord pr q sh st wh a b tag = true then bytesF k seq tr inst id side ord pr q sh st wh a b tag else []

theorem be1_mod (n : Int) : be 1 (n % 18446744073709551616) = be 1 n := by
  simp only [be]
  rw [show n % 18446744073709551616 / 256 ^ 0 % 256 = n / 256 ^ 0 % 256 by omega]
theorem be1_mod4 (n : Int) : be 1 (n % 4294967296) = be 1 n := by
  simp only [be]
  rw [show n % 4294967296 / 256 ^ 0 % 256 = n / 256 ^ 0 % 256 by omega]
theorem be4_mod (n : Int) : be 4 (n % 4294967296) = be 4 n := by
  simp only [be]
  rw [show n % 4294967296 / 256 ^ 0 % 256 = n / 256 ^ 0 % 256 by omega, show n % 4294967296 / 256 ^ 1 % 256 = n / 256 ^ 1 % 256 by omega, show n % 4294967296 / 256 ^ 2 % 256 = n / 256 ^ 2 % 256 by omega, show n % 4294967296 / 256 ^ 3 % 256 = n / 256 ^ 3 % 256 by omega]
theorem take32 {tag : List UInt8} (h : tag.length = 32) : List.take (((32 : Nat) : Int) - 0).toNat (List.drop (Int.toNat 0) tag) = tag := by
  rw [show Int.toNat 0 = 0 from rfl, List.drop_zero, show (((32 : Nat) : Int) - 0).toNat = 32 from rfl, List.take_of_length_le (by omega)]

@[reducible] def cmdFit : cmdE.ty → Prop := fun (k, seq, tr, inst, id, side, ord, pr, q, sh, st, wh, a, b, tag, _) => tag.length = 32 ∧
  (-9223372036854775808 ≤ k ∧ k ≤ 9223372036854775807) ∧ (-9223372036854775808 ≤ seq ∧ seq ≤ 9223372036854775807) ∧ (-9223372036854775808 ≤ tr ∧ tr ≤ 9223372036854775807) ∧ (-9223372036854775808 ≤ inst ∧ inst ≤ 9223372036854775807) ∧
  (-9223372036854775808 ≤ id ∧ id ≤ 9223372036854775807) ∧ (-9223372036854775808 ≤ side ∧ side ≤ 9223372036854775807) ∧ (-9223372036854775808 ≤ ord ∧ ord ≤ 9223372036854775807) ∧ (-9223372036854775808 ≤ pr ∧ pr ≤ 9223372036854775807) ∧
  (-9223372036854775808 ≤ q ∧ q ≤ 9223372036854775807) ∧ (-9223372036854775808 ≤ sh ∧ sh ≤ 9223372036854775807) ∧ (-9223372036854775808 ≤ st ∧ st ≤ 9223372036854775807) ∧ (-9223372036854775808 ≤ wh ∧ wh ≤ 9223372036854775807) ∧
  (-9223372036854775808 ≤ a ∧ a ≤ 9223372036854775807) ∧ (-9223372036854775808 ≤ b ∧ b ≤ 9223372036854775807)

@[reducible] def put_s : Spec where
  n := 0
  cs := []
  ar := [.el cmdE]
  pre := fun (c, _) => cmdFit c
  n' := 1
  cs' := [(0, .row 5 .u8)]
  rs := [.own 0]
  post := .fn fun ((k, seq, tr, inst, id, side, ord, pr, q, sh, st, wh, a, b, tag, _), _) => (putF k seq tr inst id side ord pr q sh st wh a b tag, ())
@[reducible] def put_h : Hints := ⟨[(8, (tks 0 7 (.last 7 false [] (.last 8 false [] .done))))], [], [(6, 10)]⟩
@[reducible] noncomputable def put_e : Env := ⟨tys, [(46, right_s.call), (26, u8_s.call), (57, fields_c), (58, mnum_s.call)]⟩
set_option maxHeartbeats 2000000 in
set_option maxRecDepth 100000 in
theorem put_k1 (k seq tr inst id side ord pr q sh st wh a b : Int) (tag : List UInt8) (hk : k = 1) : denX put_e put_s put_h Try.f44 ((k, seq, tr, inst, id, side, ord, pr, q, sh, st, wh, a, b, tag, ()), ()) := by
  subst hk
  intro hpre
  repeat' (first | (conv => whnf); first | refine And.intro ?_ ?_ | refine Is.mk ?_ | (intro h; cases h; done) | (intro _))
  all_goals try dsimp only [maxLen, El.ty] at *
  all_goals try trivial
  all_goals obtain ⟨ht, hb⟩ := hpre
  all_goals try dsimp only [El.ty] at hb ⊢
  all_goals try (simp only [take32 ht])
  all_goals try (simp only [Int.reduceEq, reduceIte, be1_mod, be4_mod, List.nil_append])
  all_goals first
    | exact ht
    | omega
    | (simp only [List.length_append, be_length, List.length_nil, List.length_take, List.length_drop]; omega)
    | skip
  all_goals try (rename (!rightF _ _ _ _ _ _ _ _ _ _ _ _ _ _ _) = _ => h9; simp only [Bool.not_eq_true', Bool.not_eq_false'] at h9)
  all_goals first
    | (simp only [putF, h9, Bool.false_eq_true, if_false]; done)
    | (simp [rightF, n1, n2, n3, n4, n5, n6, n7, n8, n9] at h9; done)
    | (simp only [putF, h9, if_true, bytesF, restF, be1_mod, be4_mod, Int.reduceEq, reduceIte, List.nil_append, List.append_nil, List.append_assoc]; done)
    | skip
set_option maxHeartbeats 2000000 in
set_option maxRecDepth 100000 in
theorem put_k2 (k seq tr inst id side ord pr q sh st wh a b : Int) (tag : List UInt8) (hk : k = 2) : denX put_e put_s put_h Try.f44 ((k, seq, tr, inst, id, side, ord, pr, q, sh, st, wh, a, b, tag, ()), ()) := by
  subst hk
  intro hpre
  repeat' (first | (conv => whnf); first | refine And.intro ?_ ?_ | refine Is.mk ?_ | (intro h; cases h; done) | (intro _))
  all_goals try dsimp only [maxLen, El.ty] at *
  all_goals try trivial
  all_goals obtain ⟨ht, hb⟩ := hpre
  all_goals try dsimp only [El.ty] at hb ⊢
  all_goals try (simp only [take32 ht])
  all_goals try (simp only [Int.reduceEq, reduceIte, be1_mod, be4_mod, List.nil_append])
  all_goals first
    | exact ht
    | omega
    | (simp only [List.length_append, be_length, List.length_nil, List.length_take, List.length_drop]; omega)
    | skip
  all_goals try (rename (!rightF _ _ _ _ _ _ _ _ _ _ _ _ _ _ _) = _ => h9; simp only [Bool.not_eq_true', Bool.not_eq_false'] at h9)
  all_goals first
    | (simp only [putF, h9, Bool.false_eq_true, if_false]; done)
    | (simp [rightF, n1, n2, n3, n4, n5, n6, n7, n8, n9] at h9; done)
    | (simp only [putF, h9, if_true, bytesF, restF, be1_mod, be4_mod, Int.reduceEq, reduceIte, List.nil_append, List.append_nil, List.append_assoc]; done)
    | skip
set_option maxHeartbeats 2000000 in
set_option maxRecDepth 100000 in
theorem put_k3 (k seq tr inst id side ord pr q sh st wh a b : Int) (tag : List UInt8) (hk : k = 3) : denX put_e put_s put_h Try.f44 ((k, seq, tr, inst, id, side, ord, pr, q, sh, st, wh, a, b, tag, ()), ()) := by
  subst hk
  intro hpre
  repeat' (first | (conv => whnf); first | refine And.intro ?_ ?_ | refine Is.mk ?_ | (intro h; cases h; done) | (intro _))
  all_goals try dsimp only [maxLen, El.ty] at *
  all_goals try trivial
  all_goals obtain ⟨ht, hb⟩ := hpre
  all_goals try dsimp only [El.ty] at hb ⊢
  all_goals try (simp only [take32 ht])
  all_goals try (simp only [Int.reduceEq, reduceIte, be1_mod, be4_mod, List.nil_append])
  all_goals first
    | exact ht
    | omega
    | (simp only [List.length_append, be_length, List.length_nil, List.length_take, List.length_drop]; omega)
    | skip
  all_goals try (rename (!rightF _ _ _ _ _ _ _ _ _ _ _ _ _ _ _) = _ => h9; simp only [Bool.not_eq_true', Bool.not_eq_false'] at h9)
  all_goals first
    | (simp only [putF, h9, Bool.false_eq_true, if_false]; done)
    | (simp [rightF, n1, n2, n3, n4, n5, n6, n7, n8, n9] at h9; done)
    | (simp only [putF, h9, if_true, bytesF, restF, be1_mod, be4_mod, Int.reduceEq, reduceIte, List.nil_append, List.append_nil, List.append_assoc]; done)
    | skip
set_option maxHeartbeats 2000000 in
set_option maxRecDepth 100000 in
theorem put_k4 (k seq tr inst id side ord pr q sh st wh a b : Int) (tag : List UInt8) (hk : k = 4) : denX put_e put_s put_h Try.f44 ((k, seq, tr, inst, id, side, ord, pr, q, sh, st, wh, a, b, tag, ()), ()) := by
  subst hk
  intro hpre
  repeat' (first | (conv => whnf); first | refine And.intro ?_ ?_ | refine Is.mk ?_ | (intro h; cases h; done) | (intro _))
  all_goals try dsimp only [maxLen, El.ty] at *
  all_goals try trivial
  all_goals obtain ⟨ht, hb⟩ := hpre
  all_goals try dsimp only [El.ty] at hb ⊢
  all_goals try (simp only [take32 ht])
  all_goals try (simp only [Int.reduceEq, reduceIte, be1_mod, be4_mod, List.nil_append])
  all_goals first
    | exact ht
    | omega
    | (simp only [List.length_append, be_length, List.length_nil, List.length_take, List.length_drop]; omega)
    | skip
  all_goals try (rename (!rightF _ _ _ _ _ _ _ _ _ _ _ _ _ _ _) = _ => h9; simp only [Bool.not_eq_true', Bool.not_eq_false'] at h9)
  all_goals first
    | (simp only [putF, h9, Bool.false_eq_true, if_false]; done)
    | (simp [rightF, n1, n2, n3, n4, n5, n6, n7, n8, n9] at h9; done)
    | (simp only [putF, h9, if_true, bytesF, restF, be1_mod, be4_mod, Int.reduceEq, reduceIte, List.nil_append, List.append_nil, List.append_assoc]; done)
    | skip
set_option maxHeartbeats 2000000 in
set_option maxRecDepth 100000 in
theorem put_k5 (k seq tr inst id side ord pr q sh st wh a b : Int) (tag : List UInt8) (hk : k = 5) : denX put_e put_s put_h Try.f44 ((k, seq, tr, inst, id, side, ord, pr, q, sh, st, wh, a, b, tag, ()), ()) := by
  subst hk
  intro hpre
  repeat' (first | (conv => whnf); first | refine And.intro ?_ ?_ | refine Is.mk ?_ | (intro h; cases h; done) | (intro _))
  all_goals try dsimp only [maxLen, El.ty] at *
  all_goals try trivial
  all_goals obtain ⟨ht, hb⟩ := hpre
  all_goals try dsimp only [El.ty] at hb ⊢
  all_goals try (simp only [take32 ht])
  all_goals try (simp only [Int.reduceEq, reduceIte, be1_mod, be4_mod, List.nil_append])
  all_goals first
    | exact ht
    | omega
    | (simp only [List.length_append, be_length, List.length_nil, List.length_take, List.length_drop]; omega)
    | skip
  all_goals try (rename (!rightF _ _ _ _ _ _ _ _ _ _ _ _ _ _ _) = _ => h9; simp only [Bool.not_eq_true', Bool.not_eq_false'] at h9)
  all_goals first
    | (simp only [putF, h9, Bool.false_eq_true, if_false]; done)
    | (simp [rightF, n1, n2, n3, n4, n5, n6, n7, n8, n9] at h9; done)
    | (simp only [putF, h9, if_true, bytesF, restF, be1_mod, be4_mod, Int.reduceEq, reduceIte, List.nil_append, List.append_nil, List.append_assoc]; done)
    | skip
set_option maxHeartbeats 2000000 in
set_option maxRecDepth 100000 in
theorem put_k6 (k seq tr inst id side ord pr q sh st wh a b : Int) (tag : List UInt8) (hk : k = 6) : denX put_e put_s put_h Try.f44 ((k, seq, tr, inst, id, side, ord, pr, q, sh, st, wh, a, b, tag, ()), ()) := by
  subst hk
  intro hpre
  repeat' (first | (conv => whnf); first | refine And.intro ?_ ?_ | refine Is.mk ?_ | (intro h; cases h; done) | (intro _))
  all_goals try dsimp only [maxLen, El.ty] at *
  all_goals try trivial
  all_goals obtain ⟨ht, hb⟩ := hpre
  all_goals try dsimp only [El.ty] at hb ⊢
  all_goals try (simp only [take32 ht])
  all_goals try (simp only [Int.reduceEq, reduceIte, be1_mod, be4_mod, List.nil_append])
  all_goals first
    | exact ht
    | omega
    | (simp only [List.length_append, be_length, List.length_nil, List.length_take, List.length_drop]; omega)
    | skip
  all_goals try (rename (!rightF _ _ _ _ _ _ _ _ _ _ _ _ _ _ _) = _ => h9; simp only [Bool.not_eq_true', Bool.not_eq_false'] at h9)
  all_goals first
    | (simp only [putF, h9, Bool.false_eq_true, if_false]; done)
    | (simp [rightF, n1, n2, n3, n4, n5, n6, n7, n8, n9] at h9; done)
    | (simp only [putF, h9, if_true, bytesF, restF, be1_mod, be4_mod, Int.reduceEq, reduceIte, List.nil_append, List.append_nil, List.append_assoc]; done)
    | skip
set_option maxHeartbeats 2000000 in
set_option maxRecDepth 100000 in
theorem put_k7 (k seq tr inst id side ord pr q sh st wh a b : Int) (tag : List UInt8) (hk : k = 7) : denX put_e put_s put_h Try.f44 ((k, seq, tr, inst, id, side, ord, pr, q, sh, st, wh, a, b, tag, ()), ()) := by
  subst hk
  intro hpre
  repeat' (first | (conv => whnf); first | refine And.intro ?_ ?_ | refine Is.mk ?_ | (intro h; cases h; done) | (intro _))
  all_goals try dsimp only [maxLen, El.ty] at *
  all_goals try trivial
  all_goals obtain ⟨ht, hb⟩ := hpre
  all_goals try dsimp only [El.ty] at hb ⊢
  all_goals try (simp only [take32 ht])
  all_goals try (simp only [Int.reduceEq, reduceIte, be1_mod, be4_mod, List.nil_append])
  all_goals first
    | exact ht
    | omega
    | (simp only [List.length_append, be_length, List.length_nil, List.length_take, List.length_drop]; omega)
    | skip
  all_goals try (rename (!rightF _ _ _ _ _ _ _ _ _ _ _ _ _ _ _) = _ => h9; simp only [Bool.not_eq_true', Bool.not_eq_false'] at h9)
  all_goals first
    | (simp only [putF, h9, Bool.false_eq_true, if_false]; done)
    | (simp [rightF, n1, n2, n3, n4, n5, n6, n7, n8, n9] at h9; done)
    | (simp only [putF, h9, if_true, bytesF, restF, be1_mod, be4_mod, Int.reduceEq, reduceIte, List.nil_append, List.append_nil, List.append_assoc]; done)
    | skip
set_option maxHeartbeats 2000000 in
set_option maxRecDepth 100000 in
theorem put_k8 (k seq tr inst id side ord pr q sh st wh a b : Int) (tag : List UInt8) (hk : k = 8) : denX put_e put_s put_h Try.f44 ((k, seq, tr, inst, id, side, ord, pr, q, sh, st, wh, a, b, tag, ()), ()) := by
  subst hk
  intro hpre
  repeat' (first | (conv => whnf); first | refine And.intro ?_ ?_ | refine Is.mk ?_ | (intro h; cases h; done) | (intro _))
  all_goals try dsimp only [maxLen, El.ty] at *
  all_goals try trivial
  all_goals obtain ⟨ht, hb⟩ := hpre
  all_goals try dsimp only [El.ty] at hb ⊢
  all_goals try (simp only [take32 ht])
  all_goals try (simp only [Int.reduceEq, reduceIte, be1_mod, be4_mod, List.nil_append])
  all_goals first
    | exact ht
    | omega
    | (simp only [List.length_append, be_length, List.length_nil, List.length_take, List.length_drop]; omega)
    | skip
  all_goals try (rename (!rightF _ _ _ _ _ _ _ _ _ _ _ _ _ _ _) = _ => h9; simp only [Bool.not_eq_true', Bool.not_eq_false'] at h9)
  all_goals first
    | (simp only [putF, h9, Bool.false_eq_true, if_false]; done)
    | (simp [rightF, n1, n2, n3, n4, n5, n6, n7, n8, n9] at h9; done)
    | (simp only [putF, h9, if_true, bytesF, restF, be1_mod, be4_mod, Int.reduceEq, reduceIte, List.nil_append, List.append_nil, List.append_assoc]; done)
    | skip
set_option maxHeartbeats 2000000 in
set_option maxRecDepth 100000 in
theorem put_k9 (k seq tr inst id side ord pr q sh st wh a b : Int) (tag : List UInt8) (hk : k = 9) : denX put_e put_s put_h Try.f44 ((k, seq, tr, inst, id, side, ord, pr, q, sh, st, wh, a, b, tag, ()), ()) := by
  subst hk
  intro hpre
  repeat' (first | (conv => whnf); first | refine And.intro ?_ ?_ | refine Is.mk ?_ | (intro h; cases h; done) | (intro _))
  all_goals try dsimp only [maxLen, El.ty] at *
  all_goals try trivial
  all_goals obtain ⟨ht, hb⟩ := hpre
  all_goals try dsimp only [El.ty] at hb ⊢
  all_goals try (simp only [take32 ht])
  all_goals try (simp only [Int.reduceEq, reduceIte, be1_mod, be4_mod, List.nil_append])
  all_goals first
    | exact ht
    | omega
    | (simp only [List.length_append, be_length, List.length_nil, List.length_take, List.length_drop]; omega)
    | skip
  all_goals try (rename (!rightF _ _ _ _ _ _ _ _ _ _ _ _ _ _ _) = _ => h9; simp only [Bool.not_eq_true', Bool.not_eq_false'] at h9)
  all_goals first
    | (simp only [putF, h9, Bool.false_eq_true, if_false]; done)
    | (simp [rightF, n1, n2, n3, n4, n5, n6, n7, n8, n9] at h9; done)
    | (simp only [putF, h9, if_true, bytesF, restF, be1_mod, be4_mod, Int.reduceEq, reduceIte, List.nil_append, List.append_nil, List.append_assoc]; done)
    | skip
set_option maxHeartbeats 2000000 in
set_option maxRecDepth 100000 in
theorem put_k10 (k seq tr inst id side ord pr q sh st wh a b : Int) (tag : List UInt8) (hk : k ≠ 1 ∧ k ≠ 2 ∧ k ≠ 3 ∧ k ≠ 4 ∧ k ≠ 5 ∧ k ≠ 6 ∧ k ≠ 7 ∧ k ≠ 8 ∧ k ≠ 9) : denX put_e put_s put_h Try.f44 ((k, seq, tr, inst, id, side, ord, pr, q, sh, st, wh, a, b, tag, ()), ()) := by
  obtain ⟨n1, n2, n3, n4, n5, n6, n7, n8, n9⟩ := hk
  intro hpre
  repeat' (first | (conv => whnf); first | refine And.intro ?_ ?_ | refine Is.mk ?_ | (intro h; exact absurd h (by simp only [decide_eq_true_eq]; assumption)) | (intro h; cases h; done) | (intro _))
  all_goals try dsimp only [maxLen, El.ty] at *
  all_goals try trivial
  all_goals obtain ⟨ht, hb⟩ := hpre
  all_goals try dsimp only [El.ty] at hb ⊢
  all_goals try (simp only [take32 ht])
  all_goals try (simp only [Int.reduceEq, reduceIte, be1_mod, be4_mod, List.nil_append])
  all_goals first
    | exact ht
    | omega
    | (simp only [List.length_append, be_length, List.length_nil, List.length_take, List.length_drop]; omega)
    | skip
  all_goals try (rename (!rightF _ _ _ _ _ _ _ _ _ _ _ _ _ _ _) = _ => h9; simp only [Bool.not_eq_true', Bool.not_eq_false'] at h9)
  all_goals first
    | (simp only [putF, h9, Bool.false_eq_true, if_false]; done)
    | (simp [rightF, n1, n2, n3, n4, n5, n6, n7, n8, n9] at h9; done)
    | (simp only [putF, h9, if_true, bytesF, restF, be1_mod, be4_mod, Int.reduceEq, reduceIte, List.nil_append, List.append_nil, List.append_assoc]; done)
    | skip
set_option maxHeartbeats 1000000 in
set_option maxRecDepth 100000 in
theorem put_d : denF put_e put_s put_h Try.f44 := by
  intro k seq tr inst id side ord pr q sh st wh a b tag
  rcases kinds k with h | h | h | h | h | h | h | h | h | h
  · exact put_k1 k seq tr inst id side ord pr q sh st wh a b tag h
  · exact put_k2 k seq tr inst id side ord pr q sh st wh a b tag h
  · exact put_k3 k seq tr inst id side ord pr q sh st wh a b tag h
  · exact put_k4 k seq tr inst id side ord pr q sh st wh a b tag h
  · exact put_k5 k seq tr inst id side ord pr q sh st wh a b tag h
  · exact put_k6 k seq tr inst id side ord pr q sh st wh a b tag h
  · exact put_k7 k seq tr inst id side ord pr q sh st wh a b tag h
  · exact put_k8 k seq tr inst id side ord pr q sh st wh a b tag h
  · exact put_k9 k seq tr inst id side ord pr q sh st wh a b tag h
  · exact put_k10 k seq tr inst id side ord pr q sh st wh a b tag h
theorem put_p : (FnIs Try.prog 44 ∧ FnOk Try.prog 44 put_s) ∧ (idsOk put_s.cs && idsOk put_s.cs' && Nat.ble put_s.n put_s.n') = true :=
  fn_of (l := [(46, right_s.call), (26, u8_s.call), (57, fields_c), (58, mnum_s.call)]) (hi := put_h) (S := put_s) (fn := Try.f44) (c := Try.f44.body.get!) tysOk mixOk ⟨right_m, u8_m, fields_m, mnum_m, trivial⟩ (by kernel_rfl) (by kernel_rfl) (by kernel_rfl) (by kernel_rfl) (by kernel_rfl) put_d
theorem put_m : May Try.prog (44, put_s.call) := may_call put_p
theorem put_n : May Try.prog (44, put_s.callN) := may_callN put_p

end Go.J

set_option linter.unusedSimpArgs false
set_option linter.unusedVariables false
set_option linter.unusedSectionVars false
namespace Go.J
open Go.Proofs

/-- A function that meets a contract meets a weaker one. -/
theorem FnOk.weak {P : Program} {f : FuncId} {S : Spec} {q : PostK (Gh S.cs S.ar) (Gh S.cs' S.rs)} (h : FnOk P f S) (hw : ∀ x y, S.Post x y → Spec.Post { S with post := q } x y) : FnOk P f { S with post := q } := by
  intro w0 F0 G x vs hm hf hp
  refine Calls.mono (h w0 F0 G x vs hm hf hp) ?_
  rintro e w' ⟨rs, y, G', e1, e2, e3, e4, e5, e6⟩
  exact ⟨rs, y, G', e1, e2, e3, e4, e5, hw _ _ e6⟩
theorem weak_p {P : Program} {f : FuncId} {S : Spec} {q : PostK (Gh S.cs S.ar) (Gh S.cs' S.rs)} (h : (FnIs P f ∧ FnOk P f S) ∧ (idsOk S.cs && idsOk S.cs' && Nat.ble S.n S.n') = true) (hw : ∀ x y, S.Post x y → Spec.Post { S with post := q } x y) :
    (FnIs P f ∧ FnOk P f { S with post := q }) ∧ (idsOk S.cs && idsOk S.cs' && Nat.ble S.n S.n') = true := ⟨⟨h.1.1, h.1.2.weak hw⟩, h.2⟩

/-- The number that so many bytes from a place on tell. -/
def rv (xs : List UInt8) (o n : Nat) : Int := fb ((xs.drop o).take n)
/-- A number of n bytes is read. -/
structure Rd (xs : List UInt8) (at_ : Int) (bad : Bool) (n : Nat) (at' : Int) (bad' : Bool) (v : Int) : Prop where
  a : at' = adv xs at_ bad n
  b : bad' = !rdOk xs at_ bad n
  v : v = fb (tk xs at_ bad n)
theorem Rd.back {xs : List UInt8} {at_ at' v : Int} {bad : Bool} {n : Nat} (h : Rd xs at_ bad n at' false v) : bad = false ∧ at' = at_ + n ∧ at_ + n ≤ xs.length ∧ v = rv xs at_.toNat n := by
  have hb : rdOk xs at_ bad n = true := by have := h.b; simpa using this.symm
  have h2 := hb
  simp only [rdOk, Bool.and_eq_true, Bool.not_eq_true', decide_eq_true_eq] at h2
  refine ⟨h2.1, ?_, h2.2, ?_⟩
  · rw [h.a]; unfold adv; rw [if_pos hb]
  · rw [h.v]; unfold tk rv; rw [if_pos hb]; rfl
theorem Rd.fwd {xs : List UInt8} {at_ at' v : Int} {bad' : Bool} {n : Nat} (h : Rd xs at_ false n at' bad' v) (hl : at_ + n ≤ xs.length) : bad' = false ∧ at' = at_ + n ∧ v = rv xs at_.toNat n := by
  have hb : rdOk xs at_ false n = true := by simp [rdOk]; omega
  refine ⟨?_, ?_, ?_⟩
  · rw [h.b, hb]; rfl
  · rw [h.a]; unfold adv; rw [if_pos hb]
  · rw [h.v]; unfold tk rv; rw [if_pos hb]; rfl
theorem Rd.fwd1 {xs : List UInt8} {at_ at' v : Int} {bad' : Bool} (h : Rd xs at_ false 1 at' bad' v) (hl : at_ + 1 ≤ xs.length) : bad' = false ∧ at' = at_ + 1 ∧ v = rv xs at_.toNat 1 := h.fwd hl
theorem Rd.fwd4 {xs : List UInt8} {at_ at' v : Int} {bad' : Bool} (h : Rd xs at_ false 4 at' bad' v) (hl : at_ + 4 ≤ xs.length) : bad' = false ∧ at' = at_ + 4 ∧ v = rv xs at_.toNat 4 := h.fwd hl
theorem Rd.back1 {xs : List UInt8} {at_ at' v : Int} {bad : Bool} (h : Rd xs at_ bad 1 at' false v) : bad = false ∧ at' = at_ + 1 ∧ at_ + 1 ≤ xs.length := ⟨h.back.1, h.back.2.1, h.back.2.2.1⟩
theorem Rd.back4 {xs : List UInt8} {at_ at' v : Int} {bad : Bool} (h : Rd xs at_ bad 4 at' false v) : bad = false ∧ at' = at_ + 4 ∧ at_ + 4 ≤ xs.length := ⟨h.back.1, h.back.2.1, h.back.2.2.1⟩
theorem Rd.back1' {xs : List UInt8} {at_ at' v : Int} {bad : Bool} (h : Rd xs at_ bad 1 at' false v) : bad = false ∧ at' = at_ + 1 ∧ at_ + 1 ≤ xs.length ∧ v = rv xs at_.toNat 1 := h.back
theorem Rd.back4' {xs : List UInt8} {at_ at' v : Int} {bad : Bool} (h : Rd xs at_ bad 4 at' false v) : bad = false ∧ at' = at_ + 4 ∧ at_ + 4 ≤ xs.length ∧ v = rv xs at_.toNat 4 := h.back
theorem wrap_rv4 (xs : List UInt8) (o : Nat) : IntKind.i64.wrap (rv xs o 4) = rv xs o 4 := by
  have h1 := fb4 xs o false
  have h2 : 0 ≤ rv xs o 4 ∧ rv xs o 4 < 4294967296 := by
    unfold rv
    have h3 := fb_lt ((xs.drop o).take 4)
    refine ⟨h3.1, Int.lt_of_lt_of_le h3.2 ?_⟩
    have h4 : ((xs.drop o).take 4).length ≤ 4 := by rw [List.length_take]; omega
    have h5 : 256 ^ ((xs.drop o).take 4).length ≤ 256 ^ 4 := Nat.pow_le_pow_right (by decide) h4
    have h6 : ((256 ^ ((xs.drop o).take 4).length : Nat) : Int) = 256 ^ ((xs.drop o).take 4).length := Int.natCast_pow 256 _
    rw [← h6]
    exact Int.ofNat_le.2 (Nat.le_trans h5 (by decide))
  rw [IntKind.wrap_i64]
  omega
theorem Rd.in {xs : List UInt8} {at_ at' v : Int} {bad bad' : Bool} {n : Nat} (h : Rd xs at_ bad n at' bad' v) (h0 : 0 ≤ at_ ∧ at_ ≤ xs.length) : 0 ≤ at' ∧ at' ≤ xs.length := by
  rw [h.a]; exact adv_in xs at_ bad n h0 (by omega)
theorem Rd.first {xs : List UInt8} {at' v : Int} {bad' : Bool} (h : Rd xs 0 false 1 at' bad' v) : v = rv xs 0 1 := by
  rw [h.v]
  unfold tk rv rdOk
  cases xs with
  | nil => rfl
  | cons x xs => rw [if_pos (by rw [Bool.not_false, Bool.true_and, decide_eq_true_eq, List.length_cons]; omega)]; rfl
theorem Rd.lt {xs : List UInt8} {at_ at' v : Int} {bad bad' : Bool} {n : Nat} (h : Rd xs at_ bad n at' bad' v) : 0 ≤ v ∧ v < ((256 ^ n : Nat) : Int) := by
  rw [h.v]
  have := fb_tk_lt xs at_ bad n
  simpa using this
theorem in_l {a n : Int} (h : 0 ≤ a ∧ a ≤ n) : 0 ≤ a := h.1
theorem in_r {a n : Int} (h : 0 ≤ a ∧ a ≤ n) : a ≤ n := h.2
theorem in_z (xs : List UInt8) : (0 : Int) ≤ 0 ∧ (0 : Int) ≤ ((xs.length : Nat) : Int) := ⟨Int.le_refl _, Int.natCast_nonneg _⟩
/-- A digest is read. -/
structure RdS (xs : List UInt8) (at_ : Int) (bad : Bool) (at' : Int) (bad' : Bool) (v : List UInt8) : Prop where
  a : at' = adv xs at_ bad 32
  b : bad' = !rdOk xs at_ bad 32
  v : v = sumv xs at_ bad
theorem RdS.back {xs : List UInt8} {at_ at' : Int} {v : List UInt8} {bad : Bool} (h : RdS xs at_ bad at' false v) : bad = false ∧ at' = at_ + 32 ∧ at_ + 32 ≤ xs.length ∧ v = (xs.drop at_.toNat).take 32 := by
  have hb : rdOk xs at_ bad 32 = true := by have := h.b; simpa using this.symm
  have h2 := hb
  simp only [rdOk, Bool.and_eq_true, Bool.not_eq_true', decide_eq_true_eq] at h2
  refine ⟨h2.1, ?_, h2.2, ?_⟩
  · rw [h.a]; unfold adv; rw [if_pos hb]
  · rw [h.v]; unfold sumv; rw [if_pos hb]
theorem RdS.fwd {xs : List UInt8} {at_ at' : Int} {v : List UInt8} {bad' : Bool} (h : RdS xs at_ false at' bad' v) (hl : at_ + 32 ≤ xs.length) : bad' = false ∧ at' = at_ + 32 ∧ v = (xs.drop at_.toNat).take 32 := by
  have hb : rdOk xs at_ false 32 = true := by simp [rdOk]; omega
  refine ⟨?_, ?_, ?_⟩
  · rw [h.b, hb]; rfl
  · rw [h.a]; unfold adv; rw [if_pos hb]
  · rw [h.v]; unfold sumv; rw [if_pos hb]
theorem RdS.in {xs : List UInt8} {at_ at' : Int} {v : List UInt8} {bad bad' : Bool} (h : RdS xs at_ bad at' bad' v) (h0 : 0 ≤ at_ ∧ at_ ≤ xs.length) : 0 ≤ at' ∧ at' ≤ xs.length := by
  rw [h.a]; exact adv_in xs at_ bad 32 h0 (by omega)
theorem RdS.len {xs : List UInt8} {at_ at' : Int} {v : List UInt8} {bad bad' : Bool} (h : RdS xs at_ bad at' bad' v) (h0 : 0 ≤ at_) : v.length = 32 := by
  rw [h.v]
  unfold sumv
  split
  · next hb =>
    simp only [rdOk, Bool.and_eq_true, Bool.not_eq_true', decide_eq_true_eq] at hb
    simp only [List.length_take, List.length_drop]; omega
  · simp

@[reducible] def rr (n : Nat) (k : IntKind) : PostK (Gh [(0, .own rdr)] [.ref 0]) (Gh [(0, .own rdr)] [.el (.int k)]) := .rel fun (xs, at_, bad, _) (xs', at', bad', v, _) => xs' = xs ∧ Rd xs at_ bad n at' bad' v
@[reducible] def ru8r_s : Spec := { ru8_s with post := rr 1 .i64 }
theorem ru8r_m : May Try.prog (33, ru8r_s.call) := may_call (weak_p (q := rr 1 .i64) ru8_p fun x y h => by
  obtain ⟨xs, at_, bad, _⟩ := x; cases h; exact ⟨rfl, rfl, rfl, rfl⟩)
@[reducible] def ru32r_s : Spec := { ru32_s with post := rr 4 .u32 }
theorem ru32r_m : May Try.prog (34, ru32r_s.call) := may_call (weak_p (q := rr 4 .u32) ru32_p fun x y h => by
  obtain ⟨xs, at_, bad, _⟩ := x; cases h; exact ⟨rfl, rfl, rfl, rfl⟩)
@[reducible] def rrs : PostK (Gh [(0, .own rdr)] [.ref 0]) (Gh [(0, .own rdr)] [.el (.ar 32 .u8)]) := .rel fun (xs, at_, bad, _) (xs', at', bad', v, _) => xs' = xs ∧ RdS xs at_ bad at' bad' v
@[reducible] def rsumr_s : Spec := { rsum_s with post := rrs }
theorem rsumr_m : May Try.prog (40, rsumr_s.call) := may_call (weak_p (q := rrs) rsum_p fun x y h => by
  obtain ⟨xs, at_, bad, _⟩ := x; cases h; exact ⟨rfl, rfl, rfl, rfl⟩)
@[reducible] def fru8r_s : Spec := { fru8_s with post := rr 1 .i64 }
theorem fru8r_m : May Try.prog (37, fru8r_s.call) := may_call (weak_p (q := rr 1 .i64) fru8_p fun x y h => by
  obtain ⟨xs, at_, bad, _⟩ := x; cases h; exact ⟨rfl, rfl, rfl, rfl⟩)
@[reducible] def fru32r_s : Spec := { fru32_s with post := rr 4 .u32 }
theorem fru32r_m : May Try.prog (38, fru32r_s.call) := may_call (weak_p (q := rr 4 .u32) fru32_p fun x y h => by
  obtain ⟨xs, at_, bad, _⟩ := x; cases h; exact ⟨rfl, rfl, rfl, rfl⟩)
@[reducible] def frsumr_s : Spec := { frsum_s with post := rrs }
theorem frsumr_m : May Try.prog (41, frsumr_s.call) := may_call (weak_p (q := rrs) frsum_p fun x y h => by
  obtain ⟨xs, at_, bad, _⟩ := x; cases h; exact ⟨rfl, rfl, rfl, rfl⟩)

end Go.J

set_option linter.unusedSimpArgs false
set_option linter.unusedVariables false
set_option linter.unusedSectionVars false
namespace Go.J
open Go.Proofs

def rightC : cmdE.ty → Bool := fun (k, seq, tr, inst, id, side, ord, pr, q, sh, st, wh, a, b, tag, _) => rightF k seq tr inst id side ord pr q sh st wh a b tag
def noTag : List UInt8 := List.replicate 32 0
def zeroC : cmdE.ty := (0, 0, 0, 0, 0, 0, 0, 0, 0, 0, 0, 0, 0, 0, noTag, ())
/-- How long a command's bytes are. -/
def lenK (k : Int) : Int :=
  if k = 1 then 2 else if k = 2 then 33 else if k = 3 then 28 else if k = 4 then 11 else if k = 5 then 18 else if k = 6 then 7 else if k = 7 then 1 else if k = 8 then 1 else if k = 9 then 8 else -1
/-- What bytes of the right length tell. -/
def decC (xs : List UInt8) (k : Int) : cmdE.ty :=
  if k = 1 then (k, 0, rv xs 1 1, 0, 0, 0, 0, 0, 0, 0, 0, 0, 0, 0, noTag, ())
  else if k = 2 then (k, 0, 0, 0, 0, 0, 0, 0, 0, 0, 0, 0, 0, 0, (xs.drop 1).take 32, ())
  else if k = 3 then (k, rv xs 1 4, 0, rv xs 5 1, rv xs 6 4, rv xs 10 1, rv xs 11 1, rv xs 12 4, rv xs 16 4, rv xs 20 4, rv xs 24 4, 0, 0, 0, noTag, ())
  else if k = 4 then (k, rv xs 1 4, rv xs 10 1, rv xs 5 1, rv xs 6 4, 0, 0, 0, 0, 0, 0, 0, 0, 0, noTag, ())
  else if k = 5 then (k, rv xs 1 4, 0, rv xs 5 1, rv xs 6 4, 0, 0, rv xs 10 4, rv xs 14 4, 0, 0, 0, 0, 0, noTag, ())
  else if k = 6 then (k, rv xs 1 4, 0, rv xs 5 1, 0, 0, 0, 0, 0, 0, 0, rv xs 6 1, 0, 0, noTag, ())
  else if k = 9 then (k, rv xs 1 4, 0, 0, 0, 0, 0, 0, 0, 0, 0, rv xs 5 1, rv xs 6 1, rv xs 7 1, noTag, ())
  else (k, 0, 0, 0, 0, 0, 0, 0, 0, 0, 0, 0, 0, 0, noTag, ())
def getF (xs : List UInt8) : cmdE.ty × Bool :=
  if (xs.length : Int) = lenK (rv xs 0 1) ∧ rightC (decC xs (rv xs 0 1)) = true then (decC xs (rv xs 0 1), true) else (zeroC, false)

@[reducible] def get_s : Spec where
  n := 0
  cs := []
  ar := [.el (.rd .u8)]
  pre := fun (xs, _) => xs.length ≤ 1000000000000
  n' := 0
  cs' := []
  rs := [.el cmdE, .el .bool]
  post := .fn fun (xs, _) => ((getF xs).1, (getF xs).2, ())
theorem get_cases {xs : List UInt8} {k : Int} (h : k = rv xs 0 1) : ((xs.length : Int) = lenK k ∧ getF xs = if rightC (decC xs k) = true then (decC xs k, true) else (zeroC, false)) ∨ ((xs.length : Int) ≠ lenK k ∧ getF xs = (zeroC, false)) := by
  unfold getF
  rw [← h]
  by_cases hl : (xs.length : Int) = lenK k
  · left
    refine ⟨hl, ?_⟩
    by_cases hr : rightC (decC xs k) = true
    · rw [if_pos ⟨hl, hr⟩, if_pos hr]
    · rw [if_neg (fun e => hr e.2), if_neg hr]
  · right
    exact ⟨hl, if_neg (fun e => hl e.1)⟩
theorem end_no {bad : Bool} {at_ n : Int} (h : (!(!bad && decide (at_ = n))) = true) (hb : bad = false) : at_ ≠ n := by
  subst hb; simpa using h
theorem end_yes {bad : Bool} {at_ n : Int} (h : (!(!bad && decide (at_ = n))) = false) : bad = false ∧ at_ = n := by
  simpa using h

theorem zero_fst : (0, 0, 0, 0, 0, 0, 0, 0, 0, 0, 0, 0, 0, 0, List.replicate 32 El.u8.dflt, ()) = (zeroC, false).1 := rfl
theorem tag0 : List.replicate 32 El.u8.dflt = noTag := rfl
theorem not_t {b : Bool} (h : (!b) = true) : b = false := by simpa using h
theorem not_f {b : Bool} (h : (!b) = false) : b = true := by simpa using h
theorem fin_no1 {b : Bool} {x : cmdE.ty × Bool} (h : (!b) = true) : zeroC = (if b = true then x else (zeroC, false)).1 := by rw [not_t h]; rfl
theorem fin_no2 {b : Bool} {x : cmdE.ty × Bool} (h : (!b) = true) : false = (if b = true then x else (zeroC, false)).2 := by rw [not_t h]; rfl
theorem fin_yes1 {b : Bool} {x : cmdE.ty} {z : cmdE.ty × Bool} (h : (!b) = false) : x = (if b = true then (x, true) else z).1 := by rw [not_f h]; rfl
theorem fin_yes2 {b : Bool} {x : cmdE.ty} {z : cmdE.ty × Bool} (h : (!b) = false) : true = (if b = true then (x, true) else z).2 := by rw [not_f h]; rfl
theorem get_other {xs : List UInt8} {k : Int} (h : k = rv xs 0 1) (h1 : decide (k = 1) = false) (h2 : decide (k = 2) = false) (h3 : decide (k = 3) = false) (h4 : decide (k = 4) = false) (h5 : decide (k = 5) = false) (h6 : decide (k = 6) = false) (h7 : decide (k = 7) = false) (h8 : decide (k = 8) = false) (h9 : decide (k = 9) = false) : getF xs = (zeroC, false) := by
  rcases get_cases h with ⟨hl, _⟩ | ⟨_, hg⟩
  · exfalso
    simp only [decide_eq_false_iff_not] at h1 h2 h3 h4 h5 h6 h7 h8 h9
    simp only [lenK, h1, h2, h3, h4, h5, h6, h7, h8, h9, if_false] at hl
    omega
  · exact hg
theorem other_no {k seq tr inst id side ord pr q sh st wh a b : Int} {tag : List UInt8} (h : (!rightF k seq tr inst id side ord pr q sh st wh a b tag) = false) (h1 : decide (k = 1) = false) (h2 : decide (k = 2) = false) (h3 : decide (k = 3) = false) (h4 : decide (k = 4) = false) (h5 : decide (k = 5) = false) (h6 : decide (k = 6) = false) (h7 : decide (k = 7) = false) (h8 : decide (k = 8) = false) (h9 : decide (k = 9) = false) : False := by
  simp only [decide_eq_false_iff_not] at h1 h2 h3 h4 h5 h6 h7 h8 h9
  simp [rightF, h1, h2, h3, h4, h5, h6, h7, h8, h9] at h

@[reducible] def get_h : Hints := ⟨[(8, (tks 0 3 (.last 3 false [1] (.take 4 false (.last 5 false [] .done))))), (9, (tks 0 3 (.last 3 false [1] (tks 4 2 (.last 6 false [] .done)))))], [], [(5, 10)]⟩
@[reducible] noncomputable def get_e : Env := ⟨tys, [(17, read_s.call), (33, ru8r_s.call), (57, fields_c), (34, ru32r_s.call), (40, rsumr_s.call), (36, rend_s.call), (46, right_s.call)]⟩
set_option maxHeartbeats 1000000 in
set_option maxRecDepth 100000 in
theorem get_d : denF get_e get_s get_h Try.f50 := by
  intro xs
  intro hpre
  repeat' (first | (conv => whnf); first | refine And.intro ?_ ?_ | refine Is.mk ?_ | (intro h; cases h; done) | (intro h; obtain rfl := of_decide_eq_true h) | (intro _))
  all_goals try dsimp only [maxLen, El.ty] at *
  all_goals try trivial
  all_goals repeat (with_reducible cases ‹_ ∧ _›)
  all_goals try subst_vars
  all_goals try ((with_reducible apply in_l); (repeat (first | with_reducible refine Rd.in (by assumption) ?_ | with_reducible refine RdS.in (by assumption) ?_)); (with_reducible exact in_z _))
  all_goals try ((with_reducible apply in_r); (repeat (first | with_reducible refine Rd.in (by assumption) ?_ | with_reducible refine RdS.in (by assumption) ?_)); (with_reducible exact in_z _))
  all_goals try (with_reducible apply List.length_replicate)
  all_goals try ((with_reducible exact RdS.len (by assumption) (in_l (n := ((List.length (α := UInt8) _ : Nat) : Int)) (Rd.in (by assumption) (in_z _)))))
  all_goals try (with_reducible rename (!rightF _ _ _ _ _ _ _ _ _ _ _ _ _ _ _) = _ => h9)
  all_goals try ((with_reducible have hn := other_no h9 (by assumption) (by assumption) (by assumption) (by assumption) (by assumption) (by assumption) (by assumption) (by assumption) (by assumption)); (exact hn.elim))
  all_goals try (with_reducible rename Rd _ 0 false 1 _ _ _ => h1)
  all_goals try ((with_reducible have hg := get_other h1.first (by assumption) (by assumption) (by assumption) (by assumption) (by assumption) (by assumption) (by assumption) (by assumption) (by assumption)); (with_reducible rw [hg]); (try (with_reducible exact zero_fst)); done)
  all_goals try ((with_reducible have hg := get_cases h1.first); (with_reducible rcases hg with ⟨hL, hg⟩ | ⟨hL, hg⟩); all_goals (with_reducible rw [hg]); all_goals clear hg; all_goals (simp only [lenK, Int.reduceEq, reduceIte] at hL))
  all_goals try (with_reducible rename (!(!_ && decide (_ = _))) = _ => hE)
  all_goals try (with_reducible exact (rfl : false = (zeroC, false).2))
  all_goals try (with_reducible exact (zero_fst : _ = (zeroC, false).1))
  all_goals try ((with_reducible obtain ⟨rfl, hat⟩ := end_yes hE); (repeat (first | ((with_reducible rename Rd _ _ _ _ _ false _ => hR); (first | (with_reducible obtain ⟨rfl, rfl, hz, rfl⟩ := hR.back1'); (clear hR) | (with_reducible obtain ⟨rfl, rfl, hz, rfl⟩ := hR.back4'); (clear hR) | (with_reducible obtain ⟨_, rfl, hz, _⟩ := hR.back1'); (clear hR))) | ((with_reducible rename RdS _ _ _ _ false _ => hR); (with_reducible obtain ⟨rfl, rfl, hz, rfl⟩ := hR.back); (clear hR)))); exfalso; omega)
  all_goals try (repeat (first | ((with_reducible rename Rd _ _ false _ _ _ _ => hR); (first | (with_reducible obtain ⟨rfl, rfl, rfl⟩ := hR.fwd1 (by omega)); (clear hR) | (with_reducible obtain ⟨rfl, rfl, rfl⟩ := hR.fwd4 (by omega)); (clear hR) | (with_reducible obtain ⟨rfl, rfl, _⟩ := hR.fwd1 (by omega)); (clear hR))) | ((with_reducible rename RdS _ _ false _ _ _ => hR); (with_reducible obtain ⟨rfl, rfl, rfl⟩ := hR.fwd (by omega)); (clear hR))))
  all_goals try (have hn := end_no hE rfl; exfalso; omega)
  all_goals try (simp only [decC, rightC, Int.reduceEq, reduceIte, wrap_rv4, Int.reduceAdd, Int.reduceToNat] at h9 ⊢)
  all_goals try (first | exact fin_no1 h9 | exact fin_no2 h9 | exact fin_yes1 h9 | exact fin_yes2 h9)
theorem get_p : (FnIs Try.prog 50 ∧ FnOk Try.prog 50 get_s) ∧ (idsOk get_s.cs && idsOk get_s.cs' && Nat.ble get_s.n get_s.n') = true :=
  fn_of (l := [(17, read_s.call), (33, ru8r_s.call), (57, fields_c), (34, ru32r_s.call), (40, rsumr_s.call), (36, rend_s.call), (46, right_s.call)]) (hi := get_h) (S := get_s) (fn := Try.f50) (c := Try.f50.body.get!) tysOk mixOk ⟨read_m, ru8r_m, fields_m, ru32r_m, rsumr_m, rend_m, right_m, trivial⟩ (by kernel_rfl) (by kernel_rfl) (by kernel_rfl) (by kernel_rfl) (by kernel_rfl) get_d
theorem get_m : May Try.prog (50, get_s.call) := may_call get_p
theorem get_n : May Try.prog (50, get_s.callN) := may_callN get_p

end Go.J

set_option linter.unusedSimpArgs false
set_option linter.unusedVariables false
set_option linter.unusedSectionVars false
namespace Go.J
open Go.Proofs

@[reducible] def noteE : El := .cons iE (.cons iE (.cons iE (.cons iE (.cons iE (.cons iE (.cons iE (.cons iE (.cons iE (.cons iE (.cons (.ar 32 .u8) .nil))))))))))
def noteF (k err seq inst id no side pr q left : Int) (sum : List UInt8) : List UInt8 :=
  if k = 1 then be 1 k ++ sum
  else if k = 2 then be 1 k
  else if k = 3 then be 1 k ++ be 4 seq
  else if k = 4 then be 1 k ++ be 4 seq ++ be 1 err
  else if k = 5 then be 1 k ++ be 1 inst ++ be 4 id ++ be 4 no ++ be 4 pr ++ be 4 q ++ be 4 left
  else if k = 6 then be 1 k ++ be 1 inst ++ be 4 id ++ be 4 left
  else if k = 7 then be 1 k ++ be 1 inst ++ be 4 no ++ be 4 pr ++ be 4 q
  else if k = 8 then be 1 k ++ be 1 inst ++ be 1 side ++ be 4 pr ++ be 4 q
  else if k = 9 then be 1 k
  else []
@[reducible] def fit64 (n : Int) : Prop := -9223372036854775808 ≤ n ∧ n ≤ 9223372036854775807
@[reducible] def noteFit : noteE.ty → Prop := fun (k, err, seq, inst, id, no, side, pr, q, left, sum, _) => sum.length = 32 ∧ fit64 k ∧ fit64 err ∧ fit64 seq ∧ fit64 inst ∧ fit64 id ∧ fit64 no ∧ fit64 side ∧ fit64 pr ∧ fit64 q ∧ fit64 left
@[reducible] def note_s : Spec where
  n := 0
  cs := []
  ar := [.el noteE]
  pre := fun (c, _) => noteFit c
  n' := 1
  cs' := [(0, .row 5 .u8)]
  rs := [.own 0]
  post := .fn fun ((k, err, seq, inst, id, no, side, pr, q, left, sum, _), _) => (noteF k err seq inst id no side pr q left sum, ())
@[reducible] def note_h : Hints := ⟨[(10, (tks 0 3 (tks 4 2 (.last 3 false [5] (.last 6 false [] (.last 7 false [] .done)))))), (14, (tks 0 3 (tks 4 10 (.alt 3 false [5, 7, 9, 11, 13] (.alt 14 false [2] (.last 15 false [5, 7, 9, 11, 13] (.last 16 false [] .done)) (.last 15 false [5, 7, 9, 11, 13] (.last 14 false [2] (.last 16 false [] .done)))) (.last 14 false [2] (.last 3 false [5, 7, 9, 11, 13] (.last 15 false [5, 7, 9, 11, 13] (.last 16 false [] .done)))))))), (16, (tks 0 3 (tks 4 4 (.alt 3 false [5, 7] (.alt 8 false [2] (.last 9 false [5, 7] (.last 10 false [] .done)) (.last 9 false [5, 7] (.last 8 false [2] (.last 10 false [] .done)))) (.last 8 false [2] (.last 3 false [5, 7] (.last 9 false [5, 7] (.last 10 false [] .done)))))))), (18, (tks 0 3 (tks 4 6 (.alt 3 false [5, 7, 9] (.alt 10 false [2] (.last 11 false [5, 7, 9] (.last 12 false [] .done)) (.last 11 false [5, 7, 9] (.last 10 false [2] (.last 12 false [] .done)))) (.last 10 false [2] (.last 3 false [5, 7, 9] (.last 11 false [5, 7, 9] (.last 12 false [] .done)))))))), (20, (tks 0 3 (tks 4 2 (tks 7 4 (.alt 3 false [5, 8, 10] (.alt 6 false [8, 10] (.alt 11 false [2, 5] (.last 12 false [8, 10] (.last 13 false [] .done)) (.last 12 false [8, 10] (.last 11 false [2, 5] (.last 13 false [] .done)))) (.last 11 false [2, 5] (.last 6 false [8, 10] (.last 12 false [8, 10] (.last 13 false [] .done))))) (.last 11 false [2, 5] (.last 3 false [5, 8, 10] (.last 6 false [8, 10] (.last 12 false [8, 10] (.last 13 false [] .done))))))))))], [], [(22, 6)]⟩
@[reducible] noncomputable def note_e : Env := ⟨tys, [(26, u8_s.call), (58, mnum_s.call)]⟩
set_option maxHeartbeats 1000000 in
set_option maxRecDepth 100000 in
theorem note_d : denF note_e note_s note_h Try.f45 := by
  intro k err seq inst id no side pr q left sum
  intro hpre
  obtain ⟨ht, hb⟩ := hpre
  repeat' (first | (conv => whnf); first | refine And.intro ?_ ?_ | refine Is.mk ?_ | (intro h; cases h; done) | (intro h; obtain rfl := of_decide_eq_true h) | (intro h; simp only [List.length_cons, List.length_nil, IntKind.wrap_i64, Int.reduceAdd, Int.reduceMod, Int.reduceSub, Nat.reduceAdd, Nat.cast_ofNat_Int, Int.natCast_one, Int.reduceLT, decide_true, decide_false, reduceCtorEq] at h; done) | (intro _))
  all_goals try dsimp only [maxLen, El.ty, fit64] at *
  all_goals try trivial
  all_goals try (simp only [take32 ht])
  all_goals try (simp only [IntKind.wrap_i64, Int.reduceAdd, Int.reduceMod, Int.reduceSub, Int.reduceToNat, List.getD_cons_succ, List.getD_cons_zero, List.length_cons, List.length_nil, Nat.reduceAdd, Int.reduceEq, reduceIte, be1_mod, be4_mod, List.nil_append])
  all_goals first
    | omega
    | (simp only [List.length_append, be_length, List.length_nil, List.length_take, List.length_drop, ht]; omega)
    | (simp only [noteF, Int.reduceEq, reduceIte, List.append_assoc, List.append_nil]; done)
    | skip
  all_goals simp only [decide_eq_true_eq, decide_eq_false_iff_not] at *
  · unfold noteF; repeat (rw [if_neg (by omega)])
  · unfold noteF; repeat (rw [if_neg (by omega)])
  · rcases (show k = 2 ∨ k = 9 by omega) with rfl | rfl <;> rfl
theorem note_p : (FnIs Try.prog 45 ∧ FnOk Try.prog 45 note_s) ∧ (idsOk note_s.cs && idsOk note_s.cs' && Nat.ble note_s.n note_s.n') = true :=
  fn_of (l := [(26, u8_s.call), (58, mnum_s.call)]) (hi := note_h) (S := note_s) (fn := Try.f45) (c := Try.f45.body.get!) tysOk mixOk ⟨u8_m, mnum_m, trivial⟩ (by kernel_rfl) (by kernel_rfl) (by kernel_rfl) (by kernel_rfl) (by kernel_rfl) note_d
theorem note_m : May Try.prog (45, note_s.call) := may_call note_p
theorem note_n : May Try.prog (45, note_s.callN) := may_callN note_p

end Go.J

set_option linter.unusedSimpArgs false
set_option linter.unusedVariables false
set_option linter.unusedSectionVars false
namespace Go.J
open Go.Proofs

@[reducible] def refin_s : Spec where
  n := 0
  cs := []
  ar := [.el iE, .el iE, .el iE]
  pre := fun _ => True
  n' := 0
  cs' := []
  rs := [.el .bool]
  post := .fn fun (n, lo, hi, _) => (w1 lo hi n, ())
@[reducible] def refin_h : Hints := ⟨[], [], []⟩
@[reducible] noncomputable def refin_e : Env := ⟨tys, []⟩
set_option maxHeartbeats 1000000 in
set_option maxRecDepth 100000 in
theorem refin_d : denF refin_e refin_s refin_h Try.f59 := by
  intro n lo hi
  repeat' (first | (conv => whnf); first | refine And.intro ?_ ?_ | refine Is.mk ?_ | (intro h; cases h; done) | (intro _))
  all_goals try dsimp only [maxLen, El.ty] at *
  all_goals try trivial
  all_goals repeat (with_reducible cases ‹_ ∧ _›)
  all_goals try subst_eqs
  all_goals try simp only [IntKind.wrap_i64, IntKind.wrap_u64, IntKind.wrap_u32, IntKind.wrap_u8, decide_eq_true_eq, decide_eq_false_iff_not, Bool.not_eq_true', Bool.not_eq_false', Bool.not_not, Bool.not_true, Bool.not_false, List.length_cons, List.length_nil, Int.toNat_natCast, UInt8.ofNat_toNat] at *
  all_goals try first | omega | (with_reducible rfl) | (with_reducible exact u8lt _)
  all_goals simp [w1, *]
set_option maxRecDepth 100000 in
theorem refin_p : (FnIs Try.prog 59 ∧ FnOk Try.prog 59 refin_s) ∧ (idsOk refin_s.cs && idsOk refin_s.cs' && Nat.ble refin_s.n refin_s.n') = true :=
  fn_of (l := []) (hi := refin_h) (S := refin_s) (fn := Try.f59) (c := Try.f59.body.get!) tysOk mixOk trivial (by kernel_rfl) (by kernel_rfl) (by kernel_rfl) (by kernel_rfl) (by kernel_rfl) refin_d
theorem refin_m : May Try.prog (59, refin_s.call) := may_call refin_p
theorem refin_n : May Try.prog (59, refin_s.callN) := may_callN refin_p
theorem w4_w1 (n : Int) : w4 n = w1 0 1073741824 n := rfl
theorem w1_z (n : Int) : w1 0 n 0 = decide (0 ≤ n) := by simp [w1]
@[reducible] def fright_s : Spec := { right_s with }
@[reducible] def fright_h : Hints := ⟨[(10, (tks 0 19 (.last 19 false [3, 5, 7, 9, 11, 13, 15, 17] (.take 20 false (.last 21 false [5, 7, 9, 11, 13, 15, 17] (.take 22 false (.last 23 false [7, 9, 11, 13, 15, 17] (.take 24 false (.last 25 false [9, 11, 13, 15, 17] (.take 26 false (.last 27 false [11, 13, 15, 17] (.take 28 false (.last 29 false [13, 15, 17] (.take 30 false (.last 31 false [15, 17] (.take 32 false (.last 33 false [17] (.take 34 false (.last 35 false [] .done))))))))))))))))))), (12, (tks 0 9 (.last 9 false [3, 5, 7] (.take 10 false (.last 11 false [5, 7] (.take 12 false (.last 13 false [7] (.take 14 false (.last 15 false [] .done))))))))), (14, (tks 0 11 (.last 11 false [3, 5, 7, 9] (.take 12 false (.last 13 false [5, 7, 9] (.take 14 false (.last 15 false [7, 9] (.take 16 false (.last 17 false [9] (.take 18 false (.last 19 false [] .done))))))))))), (16, (tks 0 7 (.last 7 false [3, 5] (.take 8 false (.last 9 false [5] (.take 10 false (.last 11 false [] .done))))))), (21, (tks 0 9 (.last 9 false [3, 5, 7] (.take 10 false (.last 11 false [5, 7] (.take 12 false (.last 13 false [7] (.take 14 false (.last 15 false [] .done)))))))))], [], []⟩
@[reducible] noncomputable def fright_e : Env := ⟨tys, [(59, refin_s.call)]⟩
set_option maxHeartbeats 2000000 in
set_option maxRecDepth 100000 in
theorem fright_k1 (k seq tr inst id side ord pr q sh st wh a b : Int) (tag : List UInt8) (hk : k = 1) : denX fright_e fright_s fright_h Try.f47 ((k, seq, tr, inst, id, side, ord, pr, q, sh, st, wh, a, b, tag, ()), ()) := by
  subst hk
  intro htag
  repeat' (first | (conv => whnf); first | refine And.intro ?_ ?_ | refine Is.mk ?_ | (intro h; cases h; done) | (intro _))
  all_goals try trivial
  all_goals clear htag
  all_goals try ((with_reducible rename (_ && _) = _ => hE); (change (decide ((1 : Int) = 1) && (decide (seq = 0) && (decide (tr = tr) && (decide (inst = 0) && (decide (id = 0) && (decide (side = 0) && (decide (ord = 0) && (decide (pr = 0) && (decide (q = 0) && (decide (sh = 0) && (decide (st = 0) && (decide (wh = 0) && (decide (a = 0) && (decide (b = 0) && (zt tag))))))))))))))) = _ at hE))
  all_goals (simp_all [rightF, w4_w1, w1_z, zs]; done)
set_option maxHeartbeats 2000000 in
set_option maxRecDepth 100000 in
theorem fright_k2 (k seq tr inst id side ord pr q sh st wh a b : Int) (tag : List UInt8) (hk : k = 2) : denX fright_e fright_s fright_h Try.f47 ((k, seq, tr, inst, id, side, ord, pr, q, sh, st, wh, a, b, tag, ()), ()) := by
  subst hk
  intro htag
  repeat' (first | (conv => whnf); first | refine And.intro ?_ ?_ | refine Is.mk ?_ | (intro h; cases h; done) | (intro _))
  all_goals try trivial
  all_goals clear htag
  all_goals try ((with_reducible rename (_ && _) = _ => hE); (change (decide ((2 : Int) = 2) && (decide (seq = 0) && (decide (tr = 0) && (decide (inst = 0) && (decide (id = 0) && (decide (side = 0) && (decide (ord = 0) && (decide (pr = 0) && (decide (q = 0) && (decide (sh = 0) && (decide (st = 0) && (decide (wh = 0) && (decide (a = 0) && (decide (b = 0) && (decide (tag = tag)))))))))))))))) = _ at hE))
  all_goals (simp_all [rightF, w4_w1, w1_z, zs]; done)
set_option maxHeartbeats 2000000 in
set_option maxRecDepth 100000 in
theorem fright_k3 (k seq tr inst id side ord pr q sh st wh a b : Int) (tag : List UInt8) (hk : k = 3) : denX fright_e fright_s fright_h Try.f47 ((k, seq, tr, inst, id, side, ord, pr, q, sh, st, wh, a, b, tag, ()), ()) := by
  subst hk
  intro htag
  repeat' (first | (conv => whnf); first | refine And.intro ?_ ?_ | refine Is.mk ?_ | (intro h; cases h; done) | (intro _))
  all_goals try trivial
  all_goals clear htag
  all_goals try ((with_reducible rename (_ && _) = _ => hE); (change (decide ((3 : Int) = 3) && (decide (seq = seq) && (decide (tr = 0) && (decide (inst = inst) && (decide (id = id) && (decide (side = side) && (decide (ord = ord) && (decide (pr = pr) && (decide (q = q) && (decide (sh = sh) && (decide (st = st) && (decide (wh = 0) && (decide (a = 0) && (decide (b = 0) && (zt tag))))))))))))))) = _ at hE))
  all_goals (simp_all [rightF, w4_w1, w1_z, zs]; done)
set_option maxHeartbeats 2000000 in
set_option maxRecDepth 100000 in
theorem fright_k4 (k seq tr inst id side ord pr q sh st wh a b : Int) (tag : List UInt8) (hk : k = 4) : denX fright_e fright_s fright_h Try.f47 ((k, seq, tr, inst, id, side, ord, pr, q, sh, st, wh, a, b, tag, ()), ()) := by
  subst hk
  intro htag
  repeat' (first | (conv => whnf); first | refine And.intro ?_ ?_ | refine Is.mk ?_ | (intro h; cases h; done) | (intro _))
  all_goals try trivial
  all_goals clear htag
  all_goals try ((with_reducible rename (_ && _) = _ => hE); (change (decide ((4 : Int) = 4) && (decide (seq = seq) && (decide (tr = tr) && (decide (inst = inst) && (decide (id = id) && (decide (side = 0) && (decide (ord = 0) && (decide (pr = 0) && (decide (q = 0) && (decide (sh = 0) && (decide (st = 0) && (decide (wh = 0) && (decide (a = 0) && (decide (b = 0) && (zt tag))))))))))))))) = _ at hE))
  all_goals (simp_all [rightF, w4_w1, w1_z, zs]; done)
set_option maxHeartbeats 2000000 in
set_option maxRecDepth 100000 in
theorem fright_k5 (k seq tr inst id side ord pr q sh st wh a b : Int) (tag : List UInt8) (hk : k = 5) : denX fright_e fright_s fright_h Try.f47 ((k, seq, tr, inst, id, side, ord, pr, q, sh, st, wh, a, b, tag, ()), ()) := by
  subst hk
  intro htag
  repeat' (first | (conv => whnf); first | refine And.intro ?_ ?_ | refine Is.mk ?_ | (intro h; cases h; done) | (intro _))
  all_goals try trivial
  all_goals clear htag
  all_goals try ((with_reducible rename (_ && _) = _ => hE); (change (decide ((5 : Int) = 5) && (decide (seq = seq) && (decide (tr = 0) && (decide (inst = inst) && (decide (id = id) && (decide (side = 0) && (decide (ord = 0) && (decide (pr = pr) && (decide (q = q) && (decide (sh = 0) && (decide (st = 0) && (decide (wh = 0) && (decide (a = 0) && (decide (b = 0) && (zt tag))))))))))))))) = _ at hE))
  all_goals (simp_all [rightF, w4_w1, w1_z, zs]; done)
set_option maxHeartbeats 2000000 in
set_option maxRecDepth 100000 in
theorem fright_k6 (k seq tr inst id side ord pr q sh st wh a b : Int) (tag : List UInt8) (hk : k = 6) : denX fright_e fright_s fright_h Try.f47 ((k, seq, tr, inst, id, side, ord, pr, q, sh, st, wh, a, b, tag, ()), ()) := by
  subst hk
  intro htag
  repeat' (first | (conv => whnf); first | refine And.intro ?_ ?_ | refine Is.mk ?_ | (intro h; cases h; done) | (intro _))
  all_goals try trivial
  all_goals clear htag
  all_goals try ((with_reducible rename (_ && _) = _ => hE); (change (decide ((6 : Int) = 6) && (decide (seq = seq) && (decide (tr = 0) && (decide (inst = inst) && (decide (id = 0) && (decide (side = 0) && (decide (ord = 0) && (decide (pr = 0) && (decide (q = 0) && (decide (sh = 0) && (decide (st = 0) && (decide (wh = wh) && (decide (a = 0) && (decide (b = 0) && (zt tag))))))))))))))) = _ at hE))
  all_goals (simp_all [rightF, w4_w1, w1_z, zs]; done)
set_option maxHeartbeats 2000000 in
set_option maxRecDepth 100000 in
theorem fright_k7 (k seq tr inst id side ord pr q sh st wh a b : Int) (tag : List UInt8) (hk : k = 7) : denX fright_e fright_s fright_h Try.f47 ((k, seq, tr, inst, id, side, ord, pr, q, sh, st, wh, a, b, tag, ()), ()) := by
  subst hk
  intro htag
  repeat' (first | (conv => whnf); first | refine And.intro ?_ ?_ | refine Is.mk ?_ | (intro h; cases h; done) | (intro _))
  all_goals try trivial
  all_goals clear htag
  all_goals try ((with_reducible rename (_ && _) = _ => hE); (change (decide ((7 : Int) = 7) && (decide (seq = 0) && (decide (tr = 0) && (decide (inst = 0) && (decide (id = 0) && (decide (side = 0) && (decide (ord = 0) && (decide (pr = 0) && (decide (q = 0) && (decide (sh = 0) && (decide (st = 0) && (decide (wh = 0) && (decide (a = 0) && (decide (b = 0) && (zt tag))))))))))))))) = _ at hE))
  all_goals (simp_all [rightF, w4_w1, w1_z, zs]; done)
set_option maxHeartbeats 2000000 in
set_option maxRecDepth 100000 in
theorem fright_k8 (k seq tr inst id side ord pr q sh st wh a b : Int) (tag : List UInt8) (hk : k = 8) : denX fright_e fright_s fright_h Try.f47 ((k, seq, tr, inst, id, side, ord, pr, q, sh, st, wh, a, b, tag, ()), ()) := by
  subst hk
  intro htag
  repeat' (first | (conv => whnf); first | refine And.intro ?_ ?_ | refine Is.mk ?_ | (intro h; cases h; done) | (intro _))
  all_goals try trivial
  all_goals clear htag
  all_goals try ((with_reducible rename (_ && _) = _ => hE); (change (decide ((8 : Int) = 8) && (decide (seq = 0) && (decide (tr = 0) && (decide (inst = 0) && (decide (id = 0) && (decide (side = 0) && (decide (ord = 0) && (decide (pr = 0) && (decide (q = 0) && (decide (sh = 0) && (decide (st = 0) && (decide (wh = 0) && (decide (a = 0) && (decide (b = 0) && (zt tag))))))))))))))) = _ at hE))
  all_goals (simp_all [rightF, w4_w1, w1_z, zs]; done)
set_option maxHeartbeats 2000000 in
set_option maxRecDepth 100000 in
theorem fright_k9 (k seq tr inst id side ord pr q sh st wh a b : Int) (tag : List UInt8) (hk : k = 9) : denX fright_e fright_s fright_h Try.f47 ((k, seq, tr, inst, id, side, ord, pr, q, sh, st, wh, a, b, tag, ()), ()) := by
  subst hk
  intro htag
  repeat' (first | (conv => whnf); first | refine And.intro ?_ ?_ | refine Is.mk ?_ | (intro h; cases h; done) | (intro _))
  all_goals try trivial
  all_goals clear htag
  all_goals try ((with_reducible rename (_ && _) = _ => hE); (change (decide ((9 : Int) = 9) && (decide (seq = seq) && (decide (tr = 0) && (decide (inst = 0) && (decide (id = 0) && (decide (side = 0) && (decide (ord = 0) && (decide (pr = 0) && (decide (q = 0) && (decide (sh = 0) && (decide (st = 0) && (decide (wh = wh) && (decide (a = a) && (decide (b = b) && (zt tag))))))))))))))) = _ at hE))
  all_goals (simp_all [rightF, w4_w1, w1_z, zs]; done)
set_option maxHeartbeats 2000000 in
set_option maxRecDepth 100000 in
theorem fright_k10 (k seq tr inst id side ord pr q sh st wh a b : Int) (tag : List UInt8) (hk : k ≠ 1 ∧ k ≠ 2 ∧ k ≠ 3 ∧ k ≠ 4 ∧ k ≠ 5 ∧ k ≠ 6 ∧ k ≠ 7 ∧ k ≠ 8 ∧ k ≠ 9) : denX fright_e fright_s fright_h Try.f47 ((k, seq, tr, inst, id, side, ord, pr, q, sh, st, wh, a, b, tag, ()), ()) := by
  obtain ⟨n1, n2, n3, n4, n5, n6, n7, n8, n9⟩ := hk
  intro htag
  repeat' (first | (conv => whnf); first | refine And.intro ?_ ?_ | refine Is.mk ?_ | (intro h; exact absurd h (by simp only [decide_eq_true_eq]; assumption)) | (intro h; cases h; done) | (intro _))
  all_goals try trivial
  all_goals (simp only [rightF, n1, n2, n3, n4, n5, n6, n7, n8, n9, if_false]; done)
set_option maxHeartbeats 1000000 in
set_option maxRecDepth 100000 in
theorem fright_d : denF fright_e fright_s fright_h Try.f47 := by
  intro k seq tr inst id side ord pr q sh st wh a b tag
  rcases kinds k with h | h | h | h | h | h | h | h | h | h
  · exact fright_k1 k seq tr inst id side ord pr q sh st wh a b tag h
  · exact fright_k2 k seq tr inst id side ord pr q sh st wh a b tag h
  · exact fright_k3 k seq tr inst id side ord pr q sh st wh a b tag h
  · exact fright_k4 k seq tr inst id side ord pr q sh st wh a b tag h
  · exact fright_k5 k seq tr inst id side ord pr q sh st wh a b tag h
  · exact fright_k6 k seq tr inst id side ord pr q sh st wh a b tag h
  · exact fright_k7 k seq tr inst id side ord pr q sh st wh a b tag h
  · exact fright_k8 k seq tr inst id side ord pr q sh st wh a b tag h
  · exact fright_k9 k seq tr inst id side ord pr q sh st wh a b tag h
  · exact fright_k10 k seq tr inst id side ord pr q sh st wh a b tag h
set_option maxRecDepth 100000 in
theorem fright_p : (FnIs Try.prog 47 ∧ FnOk Try.prog 47 fright_s) ∧ (idsOk fright_s.cs && idsOk fright_s.cs' && Nat.ble fright_s.n fright_s.n') = true :=
  fn_of (l := [(59, refin_s.call)]) (hi := fright_h) (S := fright_s) (fn := Try.f47) (c := Try.f47.body.get!) tysOk mixOk ⟨refin_m, trivial⟩ (by kernel_rfl) (by kernel_rfl) (by kernel_rfl) (by kernel_rfl) (by kernel_rfl) fright_d
theorem fright_m : May Try.prog (47, fright_s.call) := may_call fright_p
theorem fright_n : May Try.prog (47, fright_s.callN) := may_callN fright_p

end Go.J

set_option linter.unusedSimpArgs false
set_option linter.unusedVariables false
set_option linter.unusedSectionVars false
namespace Go.J
open Go.Proofs

@[reducible] noncomputable def refu32s_c := inl ⟨tys, [(28, fu32_s.call)]⟩ ⟨[], [], [(2, 6)]⟩ Try.f60 Try.f60.body.get!
theorem refu32s_m : May Try.prog (60, refu32s_c) :=
  may_inl tysOk mixOk ⟨fu32_m, trivial⟩ (by kernel_rfl) (by kernel_rfl) (by kernel_rfl) (by kernel_rfl)
@[reducible] def fput_s : Spec := { put_s with }
@[reducible] def fput_h : Hints := ⟨[(10, (tks 0 3 (tks 5 2 (.last 3 false [6] (.last 4 false [6] (.last 7 false [] (.last 8 false [] .done))))))), (11, (tks 0 3 (tks 5 2 (tks 8 2 (.last 3 false [6, 9] (.last 4 false [6, 9] (.last 7 false [9] (.last 10 false [] (.last 11 false [] .done))))))))), (14, (tks 0 3 (tks 5 2 (.last 3 false [6] (.last 4 false [6] (.last 7 false [] (.last 8 false [] .done))))))), (15, (tks 0 3 (tks 5 2 (.last 3 false [6] (.last 4 false [6] (.last 7 false [] (.last 8 false [] .done))))))), (17, (tks 0 3 (tks 5 2 (.last 3 false [6] (.last 4 false [6] (.last 7 false [] (.last 8 false [] .done))))))), (20, (tks 0 3 (tks 5 2 (tks 8 2 (.last 3 false [6, 9] (.last 4 false [6, 9] (.last 7 false [9] (.last 10 false [] (.last 11 false [] .done))))))))), (22, (tks 0 3 (tks 5 2 (tks 8 2 (tks 11 2 (.last 3 false [6, 9, 12] (.last 4 false [6, 9, 12] (.last 7 false [9, 12] (.last 10 false [12] (.last 13 false [] (.last 14 false [] .done)))))))))))], [], []⟩
@[reducible] noncomputable def fput_e : Env := ⟨tys, [(47, fright_s.call), (27, fu8_s.call), (60, refu32s_c)]⟩
set_option maxHeartbeats 2000000 in
set_option maxRecDepth 100000 in
theorem fput_k1 (k seq tr inst id side ord pr q sh st wh a b : Int) (tag : List UInt8) (hk : k = 1) : denX fput_e fput_s fput_h Try.f48 ((k, seq, tr, inst, id, side, ord, pr, q, sh, st, wh, a, b, tag, ()), ()) := by
  subst hk
  intro hpre
  repeat' (first | (conv => whnf); first | refine And.intro ?_ ?_ | refine Is.mk ?_ | (intro h; cases h; done) | (intro h; simp only [List.length_cons, List.length_nil, IntKind.wrap_i64, Int.reduceAdd, Int.reduceMod, Int.reduceSub, Nat.reduceAdd, Nat.cast_ofNat_Int, Int.natCast_one, Int.reduceLT, decide_true, decide_false, reduceCtorEq] at h; done) | (intro _))
  all_goals try dsimp only [maxLen, El.ty] at *
  all_goals try trivial
  all_goals try (with_reducible rename rightF _ _ _ _ _ _ _ _ _ _ _ _ _ _ _ = _ => h8)
  all_goals obtain ⟨ht, hb⟩ := hpre
  all_goals try dsimp only [El.ty] at hb ⊢
  all_goals try (simp only [take32 ht])
  all_goals try (simp only [Int.reduceEq, reduceIte, be1_mod, be4_mod, List.nil_append])
  all_goals try (simp only [IntKind.wrap_i64, IntKind.wrap_u32, be4_mod, Int.reduceAdd, Int.reduceMod, Int.reduceSub, Int.reduceToNat, List.getD_cons_succ, List.getD_cons_zero, List.length_cons, List.length_nil, Nat.reduceAdd])
  all_goals first
    | exact ht
    | omega
    | (simp only [List.length_append, be_length, List.length_nil, List.length_take, List.length_drop]; omega)
    | skip
  all_goals try (with_reducible rename (!rightF _ _ _ _ _ _ _ _ _ _ _ _ _ _ _) = _ => h9; simp only [Bool.not_eq_true', Bool.not_eq_false'] at h9)
  all_goals first
    | (simp only [putF, h9, Bool.false_eq_true, if_false]; done)
    | (simp [rightF, n1, n2, n3, n4, n5, n6, n7, n8, n9] at h9; done)
    | (simp only [putF, h9, if_true, bytesF, restF, be1_mod, be4_mod, Int.reduceEq, reduceIte, List.nil_append, List.append_nil, List.append_assoc]; done)
    | skip
set_option maxHeartbeats 2000000 in
set_option maxRecDepth 100000 in
theorem fput_k2 (k seq tr inst id side ord pr q sh st wh a b : Int) (tag : List UInt8) (hk : k = 2) : denX fput_e fput_s fput_h Try.f48 ((k, seq, tr, inst, id, side, ord, pr, q, sh, st, wh, a, b, tag, ()), ()) := by
  subst hk
  intro hpre
  repeat' (first | (conv => whnf); first | refine And.intro ?_ ?_ | refine Is.mk ?_ | (intro h; cases h; done) | (intro h; simp only [List.length_cons, List.length_nil, IntKind.wrap_i64, Int.reduceAdd, Int.reduceMod, Int.reduceSub, Nat.reduceAdd, Nat.cast_ofNat_Int, Int.natCast_one, Int.reduceLT, decide_true, decide_false, reduceCtorEq] at h; done) | (intro _))
  all_goals try dsimp only [maxLen, El.ty] at *
  all_goals try trivial
  all_goals try (with_reducible rename rightF _ _ _ _ _ _ _ _ _ _ _ _ _ _ _ = _ => h8)
  all_goals obtain ⟨ht, hb⟩ := hpre
  all_goals try dsimp only [El.ty] at hb ⊢
  all_goals try (simp only [take32 ht])
  all_goals try (simp only [Int.reduceEq, reduceIte, be1_mod, be4_mod, List.nil_append])
  all_goals try (simp only [IntKind.wrap_i64, IntKind.wrap_u32, be4_mod, Int.reduceAdd, Int.reduceMod, Int.reduceSub, Int.reduceToNat, List.getD_cons_succ, List.getD_cons_zero, List.length_cons, List.length_nil, Nat.reduceAdd])
  all_goals first
    | exact ht
    | omega
    | (simp only [List.length_append, be_length, List.length_nil, List.length_take, List.length_drop]; omega)
    | skip
  all_goals try (with_reducible rename (!rightF _ _ _ _ _ _ _ _ _ _ _ _ _ _ _) = _ => h9; simp only [Bool.not_eq_true', Bool.not_eq_false'] at h9)
  all_goals first
    | (simp only [putF, h9, Bool.false_eq_true, if_false]; done)
    | (simp [rightF, n1, n2, n3, n4, n5, n6, n7, n8, n9] at h9; done)
    | (simp only [putF, h9, if_true, bytesF, restF, be1_mod, be4_mod, Int.reduceEq, reduceIte, List.nil_append, List.append_nil, List.append_assoc]; done)
    | skip
set_option maxHeartbeats 2000000 in
set_option maxRecDepth 100000 in
theorem fput_k3 (k seq tr inst id side ord pr q sh st wh a b : Int) (tag : List UInt8) (hk : k = 3) : denX fput_e fput_s fput_h Try.f48 ((k, seq, tr, inst, id, side, ord, pr, q, sh, st, wh, a, b, tag, ()), ()) := by
  subst hk
  intro hpre
  repeat' (first | (conv => whnf); first | refine And.intro ?_ ?_ | refine Is.mk ?_ | (intro h; cases h; done) | (intro h; simp only [List.length_cons, List.length_nil, IntKind.wrap_i64, Int.reduceAdd, Int.reduceMod, Int.reduceSub, Nat.reduceAdd, Nat.cast_ofNat_Int, Int.natCast_one, Int.reduceLT, decide_true, decide_false, reduceCtorEq] at h; done) | (intro _))
  all_goals try dsimp only [maxLen, El.ty] at *
  all_goals try trivial
  all_goals try (with_reducible rename rightF _ _ _ _ _ _ _ _ _ _ _ _ _ _ _ = _ => h8)
  all_goals obtain ⟨ht, hb⟩ := hpre
  all_goals try dsimp only [El.ty] at hb ⊢
  all_goals try (simp only [take32 ht])
  all_goals try (simp only [Int.reduceEq, reduceIte, be1_mod, be4_mod, List.nil_append])
  all_goals try (simp only [IntKind.wrap_i64, IntKind.wrap_u32, be4_mod, Int.reduceAdd, Int.reduceMod, Int.reduceSub, Int.reduceToNat, List.getD_cons_succ, List.getD_cons_zero, List.length_cons, List.length_nil, Nat.reduceAdd])
  all_goals first
    | exact ht
    | omega
    | (simp only [List.length_append, be_length, List.length_nil, List.length_take, List.length_drop]; omega)
    | skip
  all_goals try (with_reducible rename (!rightF _ _ _ _ _ _ _ _ _ _ _ _ _ _ _) = _ => h9; simp only [Bool.not_eq_true', Bool.not_eq_false'] at h9)
  all_goals first
    | (simp only [putF, h9, Bool.false_eq_true, if_false]; done)
    | (simp [rightF, n1, n2, n3, n4, n5, n6, n7, n8, n9] at h9; done)
    | (simp only [putF, h9, if_true, bytesF, restF, be1_mod, be4_mod, Int.reduceEq, reduceIte, List.nil_append, List.append_nil, List.append_assoc]; done)
    | skip
set_option maxHeartbeats 2000000 in
set_option maxRecDepth 100000 in
theorem fput_k4 (k seq tr inst id side ord pr q sh st wh a b : Int) (tag : List UInt8) (hk : k = 4) : denX fput_e fput_s fput_h Try.f48 ((k, seq, tr, inst, id, side, ord, pr, q, sh, st, wh, a, b, tag, ()), ()) := by
  subst hk
  intro hpre
  repeat' (first | (conv => whnf); first | refine And.intro ?_ ?_ | refine Is.mk ?_ | (intro h; cases h; done) | (intro h; simp only [List.length_cons, List.length_nil, IntKind.wrap_i64, Int.reduceAdd, Int.reduceMod, Int.reduceSub, Nat.reduceAdd, Nat.cast_ofNat_Int, Int.natCast_one, Int.reduceLT, decide_true, decide_false, reduceCtorEq] at h; done) | (intro _))
  all_goals try dsimp only [maxLen, El.ty] at *
  all_goals try trivial
  all_goals try (with_reducible rename rightF _ _ _ _ _ _ _ _ _ _ _ _ _ _ _ = _ => h8)
  all_goals obtain ⟨ht, hb⟩ := hpre
  all_goals try dsimp only [El.ty] at hb ⊢
  all_goals try (simp only [take32 ht])
  all_goals try (simp only [Int.reduceEq, reduceIte, be1_mod, be4_mod, List.nil_append])
  all_goals try (simp only [IntKind.wrap_i64, IntKind.wrap_u32, be4_mod, Int.reduceAdd, Int.reduceMod, Int.reduceSub, Int.reduceToNat, List.getD_cons_succ, List.getD_cons_zero, List.length_cons, List.length_nil, Nat.reduceAdd])
  all_goals first
    | exact ht
    | omega
    | (simp only [List.length_append, be_length, List.length_nil, List.length_take, List.length_drop]; omega)
    | skip
  all_goals try (with_reducible rename (!rightF _ _ _ _ _ _ _ _ _ _ _ _ _ _ _) = _ => h9; simp only [Bool.not_eq_true', Bool.not_eq_false'] at h9)
  all_goals first
    | (simp only [putF, h9, Bool.false_eq_true, if_false]; done)
    | (simp [rightF, n1, n2, n3, n4, n5, n6, n7, n8, n9] at h9; done)
    | (simp only [putF, h9, if_true, bytesF, restF, be1_mod, be4_mod, Int.reduceEq, reduceIte, List.nil_append, List.append_nil, List.append_assoc]; done)
    | skip
set_option maxHeartbeats 2000000 in
set_option maxRecDepth 100000 in
theorem fput_k5 (k seq tr inst id side ord pr q sh st wh a b : Int) (tag : List UInt8) (hk : k = 5) : denX fput_e fput_s fput_h Try.f48 ((k, seq, tr, inst, id, side, ord, pr, q, sh, st, wh, a, b, tag, ()), ()) := by
  subst hk
  intro hpre
  repeat' (first | (conv => whnf); first | refine And.intro ?_ ?_ | refine Is.mk ?_ | (intro h; cases h; done) | (intro h; simp only [List.length_cons, List.length_nil, IntKind.wrap_i64, Int.reduceAdd, Int.reduceMod, Int.reduceSub, Nat.reduceAdd, Nat.cast_ofNat_Int, Int.natCast_one, Int.reduceLT, decide_true, decide_false, reduceCtorEq] at h; done) | (intro _))
  all_goals try dsimp only [maxLen, El.ty] at *
  all_goals try trivial
  all_goals try (with_reducible rename rightF _ _ _ _ _ _ _ _ _ _ _ _ _ _ _ = _ => h8)
  all_goals obtain ⟨ht, hb⟩ := hpre
  all_goals try dsimp only [El.ty] at hb ⊢
  all_goals try (simp only [take32 ht])
  all_goals try (simp only [Int.reduceEq, reduceIte, be1_mod, be4_mod, List.nil_append])
  all_goals try (simp only [IntKind.wrap_i64, IntKind.wrap_u32, be4_mod, Int.reduceAdd, Int.reduceMod, Int.reduceSub, Int.reduceToNat, List.getD_cons_succ, List.getD_cons_zero, List.length_cons, List.length_nil, Nat.reduceAdd])
  all_goals first
    | exact ht
    | omega
    | (simp only [List.length_append, be_length, List.length_nil, List.length_take, List.length_drop]; omega)
    | skip
  all_goals try (with_reducible rename (!rightF _ _ _ _ _ _ _ _ _ _ _ _ _ _ _) = _ => h9; simp only [Bool.not_eq_true', Bool.not_eq_false'] at h9)
  all_goals first
    | (simp only [putF, h9, Bool.false_eq_true, if_false]; done)
    | (simp [rightF, n1, n2, n3, n4, n5, n6, n7, n8, n9] at h9; done)
    | (simp only [putF, h9, if_true, bytesF, restF, be1_mod, be4_mod, Int.reduceEq, reduceIte, List.nil_append, List.append_nil, List.append_assoc]; done)
    | skip
set_option maxHeartbeats 2000000 in
set_option maxRecDepth 100000 in
theorem fput_k6 (k seq tr inst id side ord pr q sh st wh a b : Int) (tag : List UInt8) (hk : k = 6) : denX fput_e fput_s fput_h Try.f48 ((k, seq, tr, inst, id, side, ord, pr, q, sh, st, wh, a, b, tag, ()), ()) := by
  subst hk
  intro hpre
  repeat' (first | (conv => whnf); first | refine And.intro ?_ ?_ | refine Is.mk ?_ | (intro h; cases h; done) | (intro h; simp only [List.length_cons, List.length_nil, IntKind.wrap_i64, Int.reduceAdd, Int.reduceMod, Int.reduceSub, Nat.reduceAdd, Nat.cast_ofNat_Int, Int.natCast_one, Int.reduceLT, decide_true, decide_false, reduceCtorEq] at h; done) | (intro _))
  all_goals try dsimp only [maxLen, El.ty] at *
  all_goals try trivial
  all_goals try (with_reducible rename rightF _ _ _ _ _ _ _ _ _ _ _ _ _ _ _ = _ => h8)
  all_goals obtain ⟨ht, hb⟩ := hpre
  all_goals try dsimp only [El.ty] at hb ⊢
  all_goals try (simp only [take32 ht])
  all_goals try (simp only [Int.reduceEq, reduceIte, be1_mod, be4_mod, List.nil_append])
  all_goals try (simp only [IntKind.wrap_i64, IntKind.wrap_u32, be4_mod, Int.reduceAdd, Int.reduceMod, Int.reduceSub, Int.reduceToNat, List.getD_cons_succ, List.getD_cons_zero, List.length_cons, List.length_nil, Nat.reduceAdd])
  all_goals first
    | exact ht
    | omega
    | (simp only [List.length_append, be_length, List.length_nil, List.length_take, List.length_drop]; omega)
    | skip
  all_goals try (with_reducible rename (!rightF _ _ _ _ _ _ _ _ _ _ _ _ _ _ _) = _ => h9; simp only [Bool.not_eq_true', Bool.not_eq_false'] at h9)
  all_goals first
    | (simp only [putF, h9, Bool.false_eq_true, if_false]; done)
    | (simp [rightF, n1, n2, n3, n4, n5, n6, n7, n8, n9] at h9; done)
    | (simp only [putF, h9, if_true, bytesF, restF, be1_mod, be4_mod, Int.reduceEq, reduceIte, List.nil_append, List.append_nil, List.append_assoc]; done)
    | skip
set_option maxHeartbeats 2000000 in
set_option maxRecDepth 100000 in
theorem fput_k7 (k seq tr inst id side ord pr q sh st wh a b : Int) (tag : List UInt8) (hk : k = 7) : denX fput_e fput_s fput_h Try.f48 ((k, seq, tr, inst, id, side, ord, pr, q, sh, st, wh, a, b, tag, ()), ()) := by
  subst hk
  intro hpre
  repeat' (first | (conv => whnf); first | refine And.intro ?_ ?_ | refine Is.mk ?_ | (intro h; cases h; done) | (intro h; simp only [List.length_cons, List.length_nil, IntKind.wrap_i64, Int.reduceAdd, Int.reduceMod, Int.reduceSub, Nat.reduceAdd, Nat.cast_ofNat_Int, Int.natCast_one, Int.reduceLT, decide_true, decide_false, reduceCtorEq] at h; done) | (intro _))
  all_goals try dsimp only [maxLen, El.ty] at *
  all_goals try trivial
  all_goals try (with_reducible rename rightF _ _ _ _ _ _ _ _ _ _ _ _ _ _ _ = _ => h8)
  all_goals obtain ⟨ht, hb⟩ := hpre
  all_goals try dsimp only [El.ty] at hb ⊢
  all_goals try (simp only [take32 ht])
  all_goals try (simp only [Int.reduceEq, reduceIte, be1_mod, be4_mod, List.nil_append])
  all_goals try (simp only [IntKind.wrap_i64, IntKind.wrap_u32, be4_mod, Int.reduceAdd, Int.reduceMod, Int.reduceSub, Int.reduceToNat, List.getD_cons_succ, List.getD_cons_zero, List.length_cons, List.length_nil, Nat.reduceAdd])
  all_goals first
    | exact ht
    | omega
    | (simp only [List.length_append, be_length, List.length_nil, List.length_take, List.length_drop]; omega)
    | skip
  all_goals try (with_reducible rename (!rightF _ _ _ _ _ _ _ _ _ _ _ _ _ _ _) = _ => h9; simp only [Bool.not_eq_true', Bool.not_eq_false'] at h9)
  all_goals first
    | (simp only [putF, h9, Bool.false_eq_true, if_false]; done)
    | (simp [rightF, n1, n2, n3, n4, n5, n6, n7, n8, n9] at h9; done)
    | (simp only [putF, h9, if_true, bytesF, restF, be1_mod, be4_mod, Int.reduceEq, reduceIte, List.nil_append, List.append_nil, List.append_assoc]; done)
    | skip
set_option maxHeartbeats 2000000 in
set_option maxRecDepth 100000 in
theorem fput_k8 (k seq tr inst id side ord pr q sh st wh a b : Int) (tag : List UInt8) (hk : k = 8) : denX fput_e fput_s fput_h Try.f48 ((k, seq, tr, inst, id, side, ord, pr, q, sh, st, wh, a, b, tag, ()), ()) := by
  subst hk
  intro hpre
  repeat' (first | (conv => whnf); first | refine And.intro ?_ ?_ | refine Is.mk ?_ | (intro h; cases h; done) | (intro h; simp only [List.length_cons, List.length_nil, IntKind.wrap_i64, Int.reduceAdd, Int.reduceMod, Int.reduceSub, Nat.reduceAdd, Nat.cast_ofNat_Int, Int.natCast_one, Int.reduceLT, decide_true, decide_false, reduceCtorEq] at h; done) | (intro _))
  all_goals try dsimp only [maxLen, El.ty] at *
  all_goals try trivial
  all_goals try (with_reducible rename rightF _ _ _ _ _ _ _ _ _ _ _ _ _ _ _ = _ => h8)
  all_goals obtain ⟨ht, hb⟩ := hpre
  all_goals try dsimp only [El.ty] at hb ⊢
  all_goals try (simp only [take32 ht])
  all_goals try (simp only [Int.reduceEq, reduceIte, be1_mod, be4_mod, List.nil_append])
  all_goals try (simp only [IntKind.wrap_i64, IntKind.wrap_u32, be4_mod, Int.reduceAdd, Int.reduceMod, Int.reduceSub, Int.reduceToNat, List.getD_cons_succ, List.getD_cons_zero, List.length_cons, List.length_nil, Nat.reduceAdd])
  all_goals first
    | exact ht
    | omega
    | (simp only [List.length_append, be_length, List.length_nil, List.length_take, List.length_drop]; omega)
    | skip
  all_goals try (with_reducible rename (!rightF _ _ _ _ _ _ _ _ _ _ _ _ _ _ _) = _ => h9; simp only [Bool.not_eq_true', Bool.not_eq_false'] at h9)
  all_goals first
    | (simp only [putF, h9, Bool.false_eq_true, if_false]; done)
    | (simp [rightF, n1, n2, n3, n4, n5, n6, n7, n8, n9] at h9; done)
    | (simp only [putF, h9, if_true, bytesF, restF, be1_mod, be4_mod, Int.reduceEq, reduceIte, List.nil_append, List.append_nil, List.append_assoc]; done)
    | skip
set_option maxHeartbeats 2000000 in
set_option maxRecDepth 100000 in
theorem fput_k9 (k seq tr inst id side ord pr q sh st wh a b : Int) (tag : List UInt8) (hk : k = 9) : denX fput_e fput_s fput_h Try.f48 ((k, seq, tr, inst, id, side, ord, pr, q, sh, st, wh, a, b, tag, ()), ()) := by
  subst hk
  intro hpre
  repeat' (first | (conv => whnf); first | refine And.intro ?_ ?_ | refine Is.mk ?_ | (intro h; cases h; done) | (intro h; simp only [List.length_cons, List.length_nil, IntKind.wrap_i64, Int.reduceAdd, Int.reduceMod, Int.reduceSub, Nat.reduceAdd, Nat.cast_ofNat_Int, Int.natCast_one, Int.reduceLT, decide_true, decide_false, reduceCtorEq] at h; done) | (intro _))
  all_goals try dsimp only [maxLen, El.ty] at *
  all_goals try trivial
  all_goals try (with_reducible rename rightF _ _ _ _ _ _ _ _ _ _ _ _ _ _ _ = _ => h8)
  all_goals obtain ⟨ht, hb⟩ := hpre
  all_goals try dsimp only [El.ty] at hb ⊢
  all_goals try (simp only [take32 ht])
  all_goals try (simp only [Int.reduceEq, reduceIte, be1_mod, be4_mod, List.nil_append])
  all_goals try (simp only [IntKind.wrap_i64, IntKind.wrap_u32, be4_mod, Int.reduceAdd, Int.reduceMod, Int.reduceSub, Int.reduceToNat, List.getD_cons_succ, List.getD_cons_zero, List.length_cons, List.length_nil, Nat.reduceAdd])
  all_goals first
    | exact ht
    | omega
    | (simp only [List.length_append, be_length, List.length_nil, List.length_take, List.length_drop]; omega)
    | skip
  all_goals try (with_reducible rename (!rightF _ _ _ _ _ _ _ _ _ _ _ _ _ _ _) = _ => h9; simp only [Bool.not_eq_true', Bool.not_eq_false'] at h9)
  all_goals first
    | (simp only [putF, h9, Bool.false_eq_true, if_false]; done)
    | (simp [rightF, n1, n2, n3, n4, n5, n6, n7, n8, n9] at h9; done)
    | (simp only [putF, h9, if_true, bytesF, restF, be1_mod, be4_mod, Int.reduceEq, reduceIte, List.nil_append, List.append_nil, List.append_assoc]; done)
    | skip
set_option maxHeartbeats 2000000 in
set_option maxRecDepth 100000 in
theorem fput_k10 (k seq tr inst id side ord pr q sh st wh a b : Int) (tag : List UInt8) (hk : k ≠ 1 ∧ k ≠ 2 ∧ k ≠ 3 ∧ k ≠ 4 ∧ k ≠ 5 ∧ k ≠ 6 ∧ k ≠ 7 ∧ k ≠ 8 ∧ k ≠ 9) : denX fput_e fput_s fput_h Try.f48 ((k, seq, tr, inst, id, side, ord, pr, q, sh, st, wh, a, b, tag, ()), ()) := by
  obtain ⟨n1, n2, n3, n4, n5, n6, n7, n8, n9⟩ := hk
  intro hpre
  repeat' (first | (conv => whnf); first | refine And.intro ?_ ?_ | refine Is.mk ?_ | (intro h; exact absurd h (by simp only [decide_eq_true_eq]; assumption)) | (intro h; cases h; done) | (intro _))
  all_goals try dsimp only [maxLen, El.ty] at *
  all_goals try trivial
  all_goals try (with_reducible rename rightF _ _ _ _ _ _ _ _ _ _ _ _ _ _ _ = _ => h8)
  all_goals obtain ⟨ht, hb⟩ := hpre
  all_goals try dsimp only [El.ty] at hb ⊢
  all_goals try (simp only [take32 ht])
  all_goals try (simp only [Int.reduceEq, reduceIte, be1_mod, be4_mod, List.nil_append])
  all_goals try (simp only [IntKind.wrap_i64, IntKind.wrap_u32, be4_mod, Int.reduceAdd, Int.reduceMod, Int.reduceSub, Int.reduceToNat, List.getD_cons_succ, List.getD_cons_zero, List.length_cons, List.length_nil, Nat.reduceAdd])
  all_goals first
    | exact ht
    | omega
    | (simp only [List.length_append, be_length, List.length_nil, List.length_take, List.length_drop]; omega)
    | skip
  all_goals try (with_reducible rename (!rightF _ _ _ _ _ _ _ _ _ _ _ _ _ _ _) = _ => h9; simp only [Bool.not_eq_true', Bool.not_eq_false'] at h9)
  all_goals first
    | (simp only [putF, h9, Bool.false_eq_true, if_false]; done)
    | (simp [rightF, n1, n2, n3, n4, n5, n6, n7, n8, n9] at h9; done)
    | (simp only [putF, h9, if_true, bytesF, restF, be1_mod, be4_mod, Int.reduceEq, reduceIte, List.nil_append, List.append_nil, List.append_assoc]; done)
    | skip
set_option maxHeartbeats 1000000 in
set_option maxRecDepth 100000 in
theorem fput_d : denF fput_e fput_s fput_h Try.f48 := by
  intro k seq tr inst id side ord pr q sh st wh a b tag
  rcases kinds k with h | h | h | h | h | h | h | h | h | h
  · exact fput_k1 k seq tr inst id side ord pr q sh st wh a b tag h
  · exact fput_k2 k seq tr inst id side ord pr q sh st wh a b tag h
  · exact fput_k3 k seq tr inst id side ord pr q sh st wh a b tag h
  · exact fput_k4 k seq tr inst id side ord pr q sh st wh a b tag h
  · exact fput_k5 k seq tr inst id side ord pr q sh st wh a b tag h
  · exact fput_k6 k seq tr inst id side ord pr q sh st wh a b tag h
  · exact fput_k7 k seq tr inst id side ord pr q sh st wh a b tag h
  · exact fput_k8 k seq tr inst id side ord pr q sh st wh a b tag h
  · exact fput_k9 k seq tr inst id side ord pr q sh st wh a b tag h
  · exact fput_k10 k seq tr inst id side ord pr q sh st wh a b tag h
set_option maxRecDepth 100000 in
theorem fput_p : (FnIs Try.prog 48 ∧ FnOk Try.prog 48 fput_s) ∧ (idsOk fput_s.cs && idsOk fput_s.cs' && Nat.ble fput_s.n fput_s.n') = true :=
  fn_of (l := [(47, fright_s.call), (27, fu8_s.call), (60, refu32s_c)]) (hi := fput_h) (S := fput_s) (fn := Try.f48) (c := Try.f48.body.get!) tysOk mixOk ⟨fright_m, fu8_m, refu32s_m, trivial⟩ (by kernel_rfl) (by kernel_rfl) (by kernel_rfl) (by kernel_rfl) (by kernel_rfl) fput_d
theorem fput_m : May Try.prog (48, fput_s.call) := may_call fput_p
theorem fput_n : May Try.prog (48, fput_s.callN) := may_callN fput_p

end Go.J

set_option linter.unusedSimpArgs false
set_option linter.unusedVariables false
set_option linter.unusedSectionVars false
namespace Go.J
open Go.Proofs

theorem k78 {xs : List UInt8} {at' k : Int} {bad' : Bool} (_ : Rd xs 0 false 1 at' bad' k) : k = 7 ∨ k = 8 ∨ (decide (k = 7) = false ∧ decide (k = 8) = false) := by
  by_cases h7 : k = 7
  · exact .inl h7
  · by_cases h8 : k = 8
    · exact .inr (.inl h8)
    · exact .inr (.inr ⟨decide_eq_false h7, decide_eq_false h8⟩)
@[reducible] def fnote_s : Spec := { note_s with }
@[reducible] def fnote_h : Hints := ⟨[(11, (tks 0 3 (tks 5 2 (.last 3 false [6] (.last 4 false [6] (.last 7 false [] (.last 8 false [] .done))))))), (13, (tks 0 3 (tks 4 10 (.alt 3 false [5, 7, 9, 11, 13] (.last 14 false [2] (.last 15 false [] (.last 16 false [] .done))) (.last 14 false [2] (.last 3 false [5, 7, 9, 11, 13] (.last 15 false [] (.last 16 false [] .done)))))))), (15, (tks 0 3 (tks 4 4 (.alt 3 false [5, 7] (.last 8 false [2] (.last 9 false [] (.last 10 false [] .done))) (.last 8 false [2] (.last 3 false [5, 7] (.last 9 false [] (.last 10 false [] .done)))))))), (17, (tks 0 3 (tks 4 6 (.alt 3 false [5, 7, 9] (.last 10 false [2] (.last 11 false [] (.last 12 false [] .done))) (.last 10 false [2] (.last 3 false [5, 7, 9] (.last 11 false [] (.last 12 false [] .done)))))))), (19, (tks 0 3 (tks 4 2 (tks 7 4 (.alt 3 false [5, 8, 10] (.alt 6 false [8, 10] (.last 11 false [2, 5] (.last 12 false [] (.last 13 false [] .done))) (.last 11 false [2, 5] (.last 6 false [8, 10] (.last 12 false [] (.last 13 false [] .done))))) (.last 11 false [2, 5] (.last 3 false [5, 8, 10] (.last 6 false [8, 10] (.last 12 false [] (.last 13 false [] .done))))))))))], [], []⟩
@[reducible] noncomputable def fnote_e : Env := ⟨tys, [(27, fu8_s.call), (60, refu32s_c)]⟩
set_option maxHeartbeats 1000000 in
set_option maxRecDepth 100000 in
theorem fnote_d : denF fnote_e fnote_s fnote_h Try.f49 := by
  intro k err seq inst id no side pr q left sum
  intro hpre
  obtain ⟨ht, hb⟩ := hpre
  repeat' (first | (conv => whnf); first | refine And.intro ?_ ?_ | refine Is.mk ?_ | (intro h; cases h; done) | (intro h; obtain rfl := of_decide_eq_true h) | (intro h; simp only [List.length_cons, List.length_nil, IntKind.wrap_i64, Int.reduceAdd, Int.reduceMod, Int.reduceSub, Nat.reduceAdd, Nat.cast_ofNat_Int, Int.natCast_one, Int.reduceLT, decide_true, decide_false, reduceCtorEq] at h; done) | (intro _))
  all_goals try dsimp only [maxLen, El.ty, fit64] at *
  all_goals try trivial
  all_goals try (simp only [take32 ht])
  all_goals try (simp only [IntKind.wrap_i64, IntKind.wrap_u32, be4_mod, Int.reduceAdd, Int.reduceMod, Int.reduceSub, Int.reduceToNat, List.getD_cons_succ, List.getD_cons_zero, List.length_cons, List.length_nil, Nat.reduceAdd, Int.reduceEq, reduceIte, be1_mod, be4_mod, List.nil_append])
  all_goals first
    | omega
    | (simp only [List.length_append, be_length, List.length_nil, List.length_take, List.length_drop, ht]; omega)
    | (simp only [noteF, Int.reduceEq, reduceIte, List.append_assoc, List.append_nil]; done)
    | skip
  all_goals simp only [decide_eq_true_eq, decide_eq_false_iff_not] at *
  all_goals (unfold noteF; repeat (rw [if_neg (by omega)]))
set_option maxRecDepth 100000 in
theorem fnote_p : (FnIs Try.prog 49 ∧ FnOk Try.prog 49 fnote_s) ∧ (idsOk fnote_s.cs && idsOk fnote_s.cs' && Nat.ble fnote_s.n fnote_s.n') = true :=
  fn_of (l := [(27, fu8_s.call), (60, refu32s_c)]) (hi := fnote_h) (S := fnote_s) (fn := Try.f49) (c := Try.f49.body.get!) tysOk mixOk ⟨fu8_m, refu32s_m, trivial⟩ (by kernel_rfl) (by kernel_rfl) (by kernel_rfl) (by kernel_rfl) (by kernel_rfl) fnote_d
theorem fnote_m : May Try.prog (49, fnote_s.call) := may_call fnote_p
theorem fnote_n : May Try.prog (49, fnote_s.callN) := may_callN fnote_p
@[reducible] noncomputable def refnum_c := inl ⟨tys, [(38, fru32r_s.call)]⟩ ⟨[], [], []⟩ Try.f61 Try.f61.body.get!
theorem refnum_m : May Try.prog (61, refnum_c) :=
  may_inl tysOk mixOk ⟨fru32r_m, trivial⟩ (by kernel_rfl) (by kernel_rfl) (by kernel_rfl) (by kernel_rfl)
@[reducible] def fget_s : Spec := { get_s with }
@[reducible] def fget_h : Hints := ⟨[], [], []⟩
@[reducible] noncomputable def fget_e : Env := ⟨tys, [(37, fru8r_s.call), (41, frsumr_s.call), (61, refnum_c), (43, frend_s.call), (47, fright_s.call)]⟩
set_option maxHeartbeats 1000000 in
set_option maxRecDepth 100000 in
theorem fget_d : denF fget_e fget_s fget_h Try.f51 := by
  intro xs
  intro hpre
  repeat' (first | (conv => whnf); first | refine And.intro ?_ ?_ | refine Is.mk ?_ | (intro h; cases h; done) | (intro h; obtain rfl := of_decide_eq_true h) | (intro _))
  all_goals try dsimp only [maxLen, El.ty] at *
  all_goals try trivial
  all_goals repeat (with_reducible cases ‹_ ∧ _›)
  all_goals try subst_vars
  all_goals try ((with_reducible apply in_l); (repeat (first | with_reducible refine Rd.in (by assumption) ?_ | with_reducible refine RdS.in (by assumption) ?_)); (with_reducible exact in_z _))
  all_goals try ((with_reducible apply in_r); (repeat (first | with_reducible refine Rd.in (by assumption) ?_ | with_reducible refine RdS.in (by assumption) ?_)); (with_reducible exact in_z _))
  all_goals try (with_reducible apply List.length_replicate)
  all_goals try ((with_reducible exact RdS.len (by assumption) (in_l (n := ((List.length (α := UInt8) _ : Nat) : Int)) (Rd.in (by assumption) (in_z _)))))
  all_goals try ((with_reducible rename decide (_ = 9) = false => k9); (with_reducible rename Rd _ 0 false 1 _ _ _ => h1); (with_reducible rcases k78 h1 with rfl | rfl | ⟨k7, k8⟩))
  all_goals try (with_reducible rename (!rightF _ _ _ _ _ _ _ _ _ _ _ _ _ _ _) = _ => h9)
  all_goals try ((with_reducible have hn := other_no h9 (by assumption) (by assumption) (by assumption) (by assumption) (by assumption) (by assumption) (by assumption) (by assumption) (by assumption)); (exact hn.elim))
  all_goals try (with_reducible rename Rd _ 0 false 1 _ _ _ => h1)
  all_goals try ((with_reducible have hg := get_other h1.first (by assumption) (by assumption) (by assumption) (by assumption) (by assumption) (by assumption) (by assumption) (by assumption) (by assumption)); (with_reducible rw [hg]); (try (with_reducible exact zero_fst)); done)
  all_goals try ((with_reducible have hg := get_cases h1.first); (with_reducible rcases hg with ⟨hL, hg⟩ | ⟨hL, hg⟩); all_goals (with_reducible rw [hg]); all_goals clear hg; all_goals (simp only [lenK, Int.reduceEq, reduceIte] at hL))
  all_goals try (with_reducible rename (!(!_ && decide (_ = _))) = _ => hE)
  all_goals try (with_reducible exact (rfl : false = (zeroC, false).2))
  all_goals try (with_reducible exact (zero_fst : _ = (zeroC, false).1))
  all_goals try ((with_reducible obtain ⟨rfl, hat⟩ := end_yes hE); (repeat (first | ((with_reducible rename Rd _ _ _ _ _ false _ => hR); (first | (with_reducible obtain ⟨rfl, rfl, hz, rfl⟩ := hR.back1'); (clear hR) | (with_reducible obtain ⟨rfl, rfl, hz, rfl⟩ := hR.back4'); (clear hR) | (with_reducible obtain ⟨_, rfl, hz, _⟩ := hR.back1'); (clear hR))) | ((with_reducible rename RdS _ _ _ _ false _ => hR); (with_reducible obtain ⟨rfl, rfl, hz, rfl⟩ := hR.back); (clear hR)))); exfalso; omega)
  all_goals try (repeat (first | ((with_reducible rename Rd _ _ false _ _ _ _ => hR); (first | (with_reducible obtain ⟨rfl, rfl, rfl⟩ := hR.fwd1 (by omega)); (clear hR) | (with_reducible obtain ⟨rfl, rfl, rfl⟩ := hR.fwd4 (by omega)); (clear hR) | (with_reducible obtain ⟨rfl, rfl, _⟩ := hR.fwd1 (by omega)); (clear hR))) | ((with_reducible rename RdS _ _ false _ _ _ => hR); (with_reducible obtain ⟨rfl, rfl, rfl⟩ := hR.fwd (by omega)); (clear hR))))
  all_goals try (have hn := end_no hE rfl; exfalso; omega)
  all_goals try (simp only [decC, rightC, Int.reduceEq, reduceIte, wrap_rv4, Int.reduceAdd, Int.reduceToNat] at h9 ⊢)
  all_goals try (first | exact fin_no1 h9 | exact fin_no2 h9 | exact fin_yes1 h9 | exact fin_yes2 h9)
set_option maxRecDepth 100000 in
theorem fget_p : (FnIs Try.prog 51 ∧ FnOk Try.prog 51 fget_s) ∧ (idsOk fget_s.cs && idsOk fget_s.cs' && Nat.ble fget_s.n fget_s.n') = true :=
  fn_of (l := [(37, fru8r_s.call), (41, frsumr_s.call), (61, refnum_c), (43, frend_s.call), (47, fright_s.call)]) (hi := fget_h) (S := fget_s) (fn := Try.f51) (c := Try.f51.body.get!) tysOk mixOk ⟨fru8r_m, frsumr_m, refnum_m, frend_m, fright_m, trivial⟩ (by kernel_rfl) (by kernel_rfl) (by kernel_rfl) (by kernel_rfl) (by kernel_rfl) fget_d
theorem fget_m : May Try.prog (51, fget_s.call) := may_call fget_p
theorem fget_n : May Try.prog (51, fget_s.callN) := may_callN fget_p

end Go.J

set_option linter.unusedSimpArgs false
set_option linter.unusedVariables false
set_option linter.unusedSectionVars false
namespace Go.J
open Go.Proofs

theorem w4_in {n : Int} (h : w4 n = true) : 0 ≤ n ∧ n ≤ 1073741824 := by simpa [w4] using h
theorem w1_in {lo hi n : Int} (h : w1 lo hi n = true) : lo ≤ n ∧ n ≤ hi := by simpa [w1] using h
theorem fb_be1 {n : Int} (h0 : 0 ≤ n) (h1 : n ≤ 255) : fb (be 1 n) = n := fb_be 1 n h0 (by show n < 256; omega)
theorem fb_be4 {n : Int} (h0 : 0 ≤ n) (h1 : n ≤ 1073741824) : fb (be 4 n) = n := fb_be 4 n h0 (by show n < 4294967296; omega)
@[reducible] def bytesC : cmdE.ty → List UInt8 := fun (k, seq, tr, inst, id, side, ord, pr, q, sh, st, wh, a, b, tag, _) => bytesF k seq tr inst id side ord pr q sh st wh a b tag
@[reducible] def lenC : cmdE.ty → Prop := fun (k, seq, tr, inst, id, side, ord, pr, q, sh, st, wh, a, b, tag, _) => tag.length = 32

/-- What a right command's kind is. -/
theorem right_kind {k seq tr inst id side ord pr q sh st wh a b : Int} {tag : List UInt8} (h : rightF k seq tr inst id side ord pr q sh st wh a b tag = true) : 1 ≤ k ∧ k ≤ 9 := by
  rcases kinds k with rfl | rfl | rfl | rfl | rfl | rfl | rfl | rfl | rfl | ⟨n1, n2, n3, n4, n5, n6, n7, n8, n9⟩
  all_goals first
    | omega
    | (simp only [rightF, n1, n2, n3, n4, n5, n6, n7, n8, n9, if_false] at h; cases h)
theorem right_len {k seq tr inst id side ord pr q sh st wh a b : Int} {tag : List UInt8} (ht : tag.length = 32) (h : rightF k seq tr inst id side ord pr q sh st wh a b tag = true) :
    ((bytesF k seq tr inst id side ord pr q sh st wh a b tag).length : Int) = lenK k := by
  rcases kinds k with rfl | rfl | rfl | rfl | rfl | rfl | rfl | rfl | rfl | ⟨n1, n2, n3, n4, n5, n6, n7, n8, n9⟩
  all_goals first
    | (simp only [rightF, n1, n2, n3, n4, n5, n6, n7, n8, n9, if_false] at h; cases h; done)
    | (simp only [bytesF, restF, lenK, Int.reduceEq, reduceIte, List.length_append, be_length, ht, List.length_nil]; rfl)
theorem rv_first {k : Int} (h0 : 0 ≤ k) (h1 : k ≤ 255) (r : List UInt8) : rv (be 1 k ++ r) 0 1 = k := by
  have e : rv (be 1 k ++ r) 0 1 = fb (be 1 k) := rfl
  rw [e, fb_be1 h0 h1]
theorem dec_bytes {k seq tr inst id side ord pr q sh st wh a b : Int} {tag : List UInt8} (ht : tag.length = 32) (h : rightF k seq tr inst id side ord pr q sh st wh a b tag = true) :
    decC (bytesF k seq tr inst id side ord pr q sh st wh a b tag) k = (k, seq, tr, inst, id, side, ord, pr, q, sh, st, wh, a, b, tag, ()) := by
  rcases kinds k with rfl | rfl | rfl | rfl | rfl | rfl | rfl | rfl | rfl | ⟨n1, n2, n3, n4, n5, n6, n7, n8, n9⟩
  all_goals try (simp only [rightF, n1, n2, n3, n4, n5, n6, n7, n8, n9, if_false] at h; cases h; done)
  all_goals simp only [rightF, zs, zt, Int.reduceEq, reduceIte, Bool.and_eq_true, decide_eq_true_eq, and_true] at h
  all_goals simp only [decC, bytesF, restF, Int.reduceEq, reduceIte, noTag]
  · obtain ⟨h1, ⟨rfl, rfl, rfl, rfl, rfl, rfl, rfl, rfl, rfl, rfl, rfl, rfl⟩, rfl⟩ := h
    have e1 := w1_in h1
    rw [show rv (be 1 1 ++ be 1 tr) 1 1 = fb (be 1 tr) from rfl, fb_be1 e1.1 (by omega)]
  · obtain ⟨rfl, rfl, rfl, rfl, rfl, rfl, rfl, rfl, rfl, rfl, rfl, rfl, rfl⟩ := h
    rw [show List.drop 1 (be 1 2 ++ tag) = tag from rfl, List.take_of_length_le (by omega)]
  · obtain ⟨a1, a2, a3, a4, a5, a6, a7, a8, a9, ⟨rfl, rfl, rfl, rfl⟩, rfl⟩ := h
    have a1 := w4_in a1; have a2 := w1_in a2; have a3 := w4_in a3; have a4 := w1_in a4; have a5 := w1_in a5; have a6 := w4_in a6; have a7 := w4_in a7; have a8 := w4_in a8; have a9 := w4_in a9
    simp only [List.append_assoc]
    generalize hb : be 1 3 ++ (be 4 seq ++ (be 1 inst ++ (be 4 id ++ (be 1 side ++ (be 1 ord ++ (be 4 pr ++ (be 4 q ++ (be 4 sh ++ be 4 st)))))))) = l
    have e1 : rv l 1 4 = fb (be 4 seq) := by rw [← hb]; rfl
    have e2 : rv l 5 1 = fb (be 1 inst) := by rw [← hb]; rfl
    have e3 : rv l 6 4 = fb (be 4 id) := by rw [← hb]; rfl
    have e4 : rv l 10 1 = fb (be 1 side) := by rw [← hb]; rfl
    have e5 : rv l 11 1 = fb (be 1 ord) := by rw [← hb]; rfl
    have e6 : rv l 12 4 = fb (be 4 pr) := by rw [← hb]; rfl
    have e7 : rv l 16 4 = fb (be 4 q) := by rw [← hb]; rfl
    have e8 : rv l 20 4 = fb (be 4 sh) := by rw [← hb]; rfl
    have e9 : rv l 24 4 = fb (be 4 st) := by rw [← hb]; rfl
    rw [e1, e2, e3, e4, e5, e6, e7, e8, e9, fb_be4 a1.1 a1.2, fb_be1 a2.1 (by omega), fb_be4 a3.1 a3.2, fb_be1 a4.1 a4.2, fb_be1 a5.1 a5.2, fb_be4 a6.1 a6.2, fb_be4 a7.1 a7.2, fb_be4 a8.1 a8.2, fb_be4 a9.1 a9.2]
  · obtain ⟨a1, a2, a3, a4, ⟨rfl, rfl, rfl, rfl, rfl, rfl, rfl, rfl, rfl⟩, rfl⟩ := h
    have a1 := w4_in a1; have a2 := w1_in a2; have a3 := w4_in a3; have a4 := w1_in a4
    simp only [List.append_assoc]
    generalize hb : be 1 4 ++ (be 4 seq ++ (be 1 inst ++ (be 4 id ++ be 1 tr))) = l
    have e1 : rv l 1 4 = fb (be 4 seq) := by rw [← hb]; rfl
    have e2 : rv l 5 1 = fb (be 1 inst) := by rw [← hb]; rfl
    have e3 : rv l 6 4 = fb (be 4 id) := by rw [← hb]; rfl
    have e4 : rv l 10 1 = fb (be 1 tr) := by rw [← hb]; rfl
    rw [e1, e2, e3, e4, fb_be4 a1.1 a1.2, fb_be1 a2.1 (by omega), fb_be4 a3.1 a3.2, fb_be1 a4.1 (by omega)]
  · obtain ⟨a1, a2, a3, a4, a5, ⟨rfl, rfl, rfl, rfl, rfl, rfl, rfl, rfl⟩, rfl⟩ := h
    have a1 := w4_in a1; have a2 := w1_in a2; have a3 := w4_in a3; have a4 := w4_in a4; have a5 := w4_in a5
    simp only [List.append_assoc]
    generalize hb : be 1 5 ++ (be 4 seq ++ (be 1 inst ++ (be 4 id ++ (be 4 pr ++ be 4 q)))) = l
    have e1 : rv l 1 4 = fb (be 4 seq) := by rw [← hb]; rfl
    have e2 : rv l 5 1 = fb (be 1 inst) := by rw [← hb]; rfl
    have e3 : rv l 6 4 = fb (be 4 id) := by rw [← hb]; rfl
    have e4 : rv l 10 4 = fb (be 4 pr) := by rw [← hb]; rfl
    have e5 : rv l 14 4 = fb (be 4 q) := by rw [← hb]; rfl
    rw [e1, e2, e3, e4, e5, fb_be4 a1.1 a1.2, fb_be1 a2.1 (by omega), fb_be4 a3.1 a3.2, fb_be4 a4.1 a4.2, fb_be4 a5.1 a5.2]
  · obtain ⟨a1, a2, a3, ⟨rfl, rfl, rfl, rfl, rfl, rfl, rfl, rfl, rfl, rfl⟩, rfl⟩ := h
    have a1 := w4_in a1; have a2 := w1_in a2; have a3 := w1_in a3
    simp only [List.append_assoc]
    generalize hb : be 1 6 ++ (be 4 seq ++ (be 1 inst ++ be 1 wh)) = l
    have e1 : rv l 1 4 = fb (be 4 seq) := by rw [← hb]; rfl
    have e2 : rv l 5 1 = fb (be 1 inst) := by rw [← hb]; rfl
    have e3 : rv l 6 1 = fb (be 1 wh) := by rw [← hb]; rfl
    rw [e1, e2, e3, fb_be4 a1.1 a1.2, fb_be1 a2.1 (by omega), fb_be1 (by omega) (by omega)]
  · obtain ⟨⟨rfl, rfl, rfl, rfl, rfl, rfl, rfl, rfl, rfl, rfl, rfl, rfl, rfl⟩, rfl⟩ := h
    rfl
  · obtain ⟨⟨rfl, rfl, rfl, rfl, rfl, rfl, rfl, rfl, rfl, rfl, rfl, rfl, rfl⟩, rfl⟩ := h
    rfl
  · obtain ⟨a1, a2, a3, a4, ⟨rfl, rfl, rfl, rfl, rfl, rfl, rfl, rfl, rfl⟩, rfl⟩ := h
    have a1 := w4_in a1; have a2 := w1_in a2; have a3 := w1_in a3; have a4 := w1_in a4
    simp only [List.append_assoc]
    generalize hb : be 1 9 ++ (be 4 seq ++ (be 1 wh ++ (be 1 a ++ be 1 b))) = l
    have e1 : rv l 1 4 = fb (be 4 seq) := by rw [← hb]; rfl
    have e2 : rv l 5 1 = fb (be 1 wh) := by rw [← hb]; rfl
    have e3 : rv l 6 1 = fb (be 1 a) := by rw [← hb]; rfl
    have e4 : rv l 7 1 = fb (be 1 b) := by rw [← hb]; rfl
    rw [e1, e2, e3, e4, fb_be4 a1.1 a1.2, fb_be1 (by omega) (by omega), fb_be1 a3.1 a3.2, fb_be1 a4.1 a4.2]
/-- A right command comes back. -/
theorem get_bytes {k seq tr inst id side ord pr q sh st wh a b : Int} {tag : List UInt8} (ht : tag.length = 32) (h : rightF k seq tr inst id side ord pr q sh st wh a b tag = true) :
    getF (bytesF k seq tr inst id side ord pr q sh st wh a b tag) = ((k, seq, tr, inst, id, side, ord, pr, q, sh, st, wh, a, b, tag, ()), true) := by
  have hk := right_kind h
  have e : rv (bytesF k seq tr inst id side ord pr q sh st wh a b tag) 0 1 = k := rv_first (by omega) (by omega) _
  unfold getF
  rw [e, dec_bytes ht h, if_pos ⟨right_len ht h, h⟩]
/-- What is read is as long as it must be. -/
theorem get_len {xs : List UInt8} (h : (getF xs).2 = true) : (xs.length : Int) = lenK (rv xs 0 1) := by
  unfold getF at h
  split at h
  · next hh => exact hh.1
  · cases h
theorem get_short {k seq tr inst id side ord pr q sh st wh a b : Int} {tag : List UInt8} (ht : tag.length = 32) (h : rightF k seq tr inst id side ord pr q sh st wh a b tag = true) {n : Nat} (hn : n < (bytesF k seq tr inst id side ord pr q sh st wh a b tag).length) :
    (getF ((bytesF k seq tr inst id side ord pr q sh st wh a b tag).take n)).2 = false := by
  have hk := right_kind h
  have hl := right_len ht h
  cases hg : (getF ((bytesF k seq tr inst id side ord pr q sh st wh a b tag).take n)).2
  · rfl
  · have h2 := get_len hg
    rw [List.length_take] at h2
    cases n with
    | zero =>
      rw [List.take_zero, show rv [] 0 1 = 0 from rfl] at h2
      have : lenK 0 = -1 := rfl
      omega
    | succ n =>
      have e : rv ((bytesF k seq tr inst id side ord pr q sh st wh a b tag).take (n + 1)) 0 1 = k := by
        have : rv ((bytesF k seq tr inst id side ord pr q sh st wh a b tag).take (n + 1)) 0 1 = fb (be 1 k) := rfl
        rw [this, fb_be1 (by omega) (by omega)]
      rw [e] at h2
      omega
theorem get_long {k seq tr inst id side ord pr q sh st wh a b : Int} {tag : List UInt8} (ht : tag.length = 32) (h : rightF k seq tr inst id side ord pr q sh st wh a b tag = true) (c : UInt8) :
    (getF (bytesF k seq tr inst id side ord pr q sh st wh a b tag ++ [c])).2 = false := by
  have hk := right_kind h
  have hl := right_len ht h
  cases hg : (getF (bytesF k seq tr inst id side ord pr q sh st wh a b tag ++ [c])).2
  · rfl
  · have h2 := get_len hg
    have e : rv (bytesF k seq tr inst id side ord pr q sh st wh a b tag ++ [c]) 0 1 = k := by
      have : rv (bytesF k seq tr inst id side ord pr q sh st wh a b tag ++ [c]) 0 1 = fb (be 1 k) := rfl
      rw [this, fb_be1 (by omega) (by omega)]
    rw [e, List.length_append, List.length_singleton] at h2
    omega
theorem bytes_pos (k seq tr inst id side ord pr q sh st wh a b : Int) (tag : List UInt8) : 0 < (bytesF k seq tr inst id side ord pr q sh st wh a b tag).length := by
  unfold bytesF
  rw [List.length_append, be_length]
  omega
theorem put_pos (k seq tr inst id side ord pr q sh st wh a b : Int) (tag : List UInt8) : decide (0 < ((putF k seq tr inst id side ord pr q sh st wh a b tag).length : Int)) = rightF k seq tr inst id side ord pr q sh st wh a b tag := by
  have := bytes_pos k seq tr inst id side ord pr q sh st wh a b tag
  unfold putF
  split
  · next h => rw [h]; exact decide_eq_true (by omega)
  · next h =>
    cases hr : rightF k seq tr inst id side ord pr q sh st wh a b tag
    · rfl
    · exact absurd hr h
theorem lenK_le (k : Int) : lenK k ≤ 33 := by
  unfold lenK
  repeat (split; omega)
  omega
theorem put_le (k seq tr inst id side ord pr q sh st wh a b : Int) (tag : List UInt8) (ht : tag.length = 32) : ((putF k seq tr inst id side ord pr q sh st wh a b tag).length : Int) ≤ 256 := by
  unfold putF
  split
  · next h =>
    have := right_len ht h
    have := lenK_le k
    omega
  · simp
theorem put_first (k seq tr inst id side ord pr q sh st wh a b : Int) (tag : List UInt8) (h : rightF k seq tr inst id side ord pr q sh st wh a b tag = true) : IntKind.i64.wrap ((putF k seq tr inst id side ord pr q sh st wh a b tag).getD (Int.toNat 0) El.u8.dflt).toNat = k := by
  have hk := right_kind h
  unfold putF
  rw [if_pos h]
  have e : ((bytesF k seq tr inst id side ord pr q sh st wh a b tag).getD (Int.toNat 0) El.u8.dflt) = UInt8.ofNat (k / 256 ^ 0 % 256).toNat := rfl
  rw [e, UInt8.toNat_ofNat_of_lt' (by show _ < 256; omega), IntKind.wrap_i64]
  omega
theorem put_right (k seq tr inst id side ord pr q sh st wh a b : Int) (tag : List UInt8) (h : rightF k seq tr inst id side ord pr q sh st wh a b tag = true) : putF k seq tr inst id side ord pr q sh st wh a b tag = bytesF k seq tr inst id side ord pr q sh st wh a b tag := if_pos h
theorem put_not (k seq tr inst id side ord pr q sh st wh a b : Int) (tag : List UInt8) (h : rightF k seq tr inst id side ord pr q sh st wh a b tag = false) : putF k seq tr inst id side ord pr q sh st wh a b tag = [] := if_neg (by rw [h]; exact Bool.false_ne_true)
theorem put_same (k seq tr inst id side ord pr q sh st wh a b : Int) (tag : List UInt8) (k2 seq2 tr2 inst2 id2 side2 ord2 pr2 q2 sh2 st2 wh2 a2 b2 : Int) (tag2 : List UInt8) (ht : tag.length = 32) (ht2 : tag2.length = 32) (h : rightF k seq tr inst id side ord pr q sh st wh a b tag = true) (h2 : rightF k2 seq2 tr2 inst2 id2 side2 ord2 pr2 q2 sh2 st2 wh2 a2 b2 tag2 = true) (e : k = k2) : ((putF k seq tr inst id side ord pr q sh st wh a b tag).length : Int) = ((putF k2 seq2 tr2 inst2 id2 side2 ord2 pr2 q2 sh2 st2 wh2 a2 b2 tag2).length : Int) := by
  rw [put_right _ _ _ _ _ _ _ _ _ _ _ _ _ _ _ h, put_right _ _ _ _ _ _ _ _ _ _ _ _ _ _ _ h2, right_len ht h, right_len ht2 h2, e]

end Go.J

set_option linter.unusedSimpArgs false
set_option linter.unusedVariables false
set_option linter.unusedSectionVars false
namespace Go.J
open Go.Proofs

@[reducible] def msgRuns_s : Spec := { law_s with }
@[reducible] def msgRuns_h : Hints := ⟨[], [], []⟩
@[reducible] noncomputable def msgRuns_e : Env := ⟨tys, [(44, put_s.call), (19, same_s.call), (45, note_s.call)]⟩
set_option maxHeartbeats 1000000 in
set_option maxRecDepth 100000 in
theorem msgRuns_d : denF msgRuns_e msgRuns_s msgRuns_h Try.f10 := by
  repeat' (first | (conv => whnf); first | refine And.intro ?_ ?_ | refine Is.mk ?_ | (intro h; cases h; done) | (intro _))
  all_goals try dsimp only [maxLen, El.ty] at *
  all_goals try trivial
  all_goals repeat (with_reducible cases ‹_ ∧ _›)
  all_goals try subst_eqs
  all_goals try simp only [IntKind.wrap_i64, IntKind.wrap_u64, IntKind.wrap_u32, IntKind.wrap_u8, decide_eq_true_eq, decide_eq_false_iff_not, Bool.not_eq_true', Bool.not_eq_false', Bool.not_not, Bool.not_true, Bool.not_false, List.length_cons, List.length_nil, Int.toNat_natCast, UInt8.ofNat_toNat] at *
  all_goals try first | omega | (with_reducible rfl) | (with_reducible exact u8lt _)
set_option maxRecDepth 100000 in
theorem msgRuns_p : (FnIs Try.prog 10 ∧ FnOk Try.prog 10 msgRuns_s) ∧ (idsOk msgRuns_s.cs && idsOk msgRuns_s.cs' && Nat.ble msgRuns_s.n msgRuns_s.n') = true :=
  fn_of (l := [(44, put_s.call), (19, same_s.call), (45, note_s.call)]) (hi := msgRuns_h) (S := msgRuns_s) (fn := Try.f10) (c := Try.f10.body.get!) tysOk mixOk ⟨put_m, same_m, note_m, trivial⟩ (by kernel_rfl) (by kernel_rfl) (by kernel_rfl) (by kernel_rfl) (by kernel_rfl) msgRuns_d
theorem msgRuns_m : May Try.prog (10, msgRuns_s.call) := may_call msgRuns_p
theorem msgRuns_n : May Try.prog (10, msgRuns_s.callN) := may_callN msgRuns_p
end Go.J

set_option linter.unusedSimpArgs false
set_option linter.unusedVariables false
set_option linter.unusedSectionVars false
namespace Go.J
open Go.Proofs

@[reducible] def msgReads_s : Spec where
  n := 0
  cs := []
  ar := [.el (.rd .u8)]
  pre := fun _ => True
  n' := 0
  cs' := []
  rs := [.el .bool]
  post := .fn fun _ => (true, ())
@[reducible] def msgReads_h : Hints := ⟨[], [], []⟩
@[reducible] noncomputable def msgReads_e : Env := ⟨tys, [(25, roomy_s.call), (50, get_s.call), (51, fget_s.call), (32, intact_s.call), (10, msgRuns_s.call)]⟩
set_option maxHeartbeats 1000000 in
set_option maxRecDepth 100000 in
theorem msgReads_d : denF msgReads_e msgReads_s msgReads_h Try.f15 := by
  intro b
  repeat' (first | (conv => whnf); first | refine And.intro ?_ ?_ | refine Is.mk ?_ | (intro h; cases h; done) | (intro _))
  all_goals try dsimp only [maxLen, El.ty] at *
  all_goals try trivial
  all_goals repeat (with_reducible cases ‹_ ∧ _›)
  all_goals try subst_eqs
  all_goals try simp only [IntKind.wrap_i64, IntKind.wrap_u64, IntKind.wrap_u32, IntKind.wrap_u8, decide_eq_true_eq, decide_eq_false_iff_not, Bool.not_eq_true', Bool.not_eq_false', Bool.not_not, Bool.not_true, Bool.not_false, List.length_cons, List.length_nil, Int.toNat_natCast, UInt8.ofNat_toNat] at *
  all_goals try first | omega | (with_reducible rfl) | (with_reducible exact u8lt _)
  all_goals obtain ⟨t, ht, hl⟩ : ∃ t, List.take ((if 120 < (b.length : Int) then 120 else (b.length : Int)) - 0).toNat (List.drop (Int.toNat 0) b) = t ∧ t.length ≤ 120 := ⟨_, rfl, by rw [List.length_take]; split <;> omega⟩
  all_goals have e2 : List.take ((t.length : Int) - 0).toNat (List.drop (Int.toNat 0) (t ++ List.replicate 80 (UInt8.ofNat (Int.toNat 7)))) = t := by
              rw [show ((t.length : Int) - 0).toNat = t.length by omega, show Int.toNat 0 = 0 from rfl, List.drop_zero, List.take_left]
  all_goals simp only [ht, e2, not_true_eq_false] at *
  all_goals try simp only [List.length_append, List.length_replicate] at *
  all_goals try omega
  all_goals (rename (_ && _) = false => h; simp only [decide_true, Bool.and_self, Bool.true_and, reduceCtorEq] at h)
set_option maxRecDepth 100000 in
theorem msgReads_p : (FnIs Try.prog 15 ∧ FnOk Try.prog 15 msgReads_s) ∧ (idsOk msgReads_s.cs && idsOk msgReads_s.cs' && Nat.ble msgReads_s.n msgReads_s.n') = true :=
  fn_of (l := [(25, roomy_s.call), (50, get_s.call), (51, fget_s.call), (32, intact_s.call), (10, msgRuns_s.call)]) (hi := msgReads_h) (S := msgReads_s) (fn := Try.f15) (c := Try.f15.body.get!) tysOk mixOk ⟨roomy_m, get_m, fget_m, intact_m, msgRuns_m, trivial⟩ (by kernel_rfl) (by kernel_rfl) (by kernel_rfl) (by kernel_rfl) (by kernel_rfl) msgReads_d
theorem msgReads_m : May Try.prog (15, msgReads_s.call) := may_call msgReads_p
theorem msgReads_n : May Try.prog (15, msgReads_s.callN) := may_callN msgReads_p
end Go.J

set_option linter.unusedSimpArgs false
set_option linter.unusedVariables false
set_option linter.unusedSectionVars false

namespace Go.J
open Go.RowKit

/-- The world as a call finds it: nothing that is there is written. -/
def cxOf (w : World) : Cx := ⟨fun _ => none, fun b => b < w.heap.size, w⟩
theorem mdl_start (w : World) (n : Nat) : Mdl w ⟨fun _ => False, fun b => b < w.heap.size⟩ (cxOf w) [] n :=
  ⟨rfl, rfl, rfl, Nat.le_refl _, fun _ _ _ => rfl, fun _ h => h, fun _ _ => rfl, fun _ _ h => (nomatch h), (by simp), fun _ _ _ _ _ _ h => (nomatch h), fun _ _ _ h => (nomatch h), fun _ h => .inl h⟩
theorem Mdl.below {w : World} {im : Nat → Prop} {G : Cx} {hp : Hp} {nx : Nat} (h : Mdl w ⟨fun _ => False, im⟩ G hp nx) : RowKit.Below w.heap.size w G.w :=
  ⟨h.os, h.tape, h.output, h.size, fun k hk => h.keep k hk (fun hf => hf)⟩

/-- A law's walk. -/
theorem law_walk {P : Program} {f : FuncId} {g : List T → Hp → Nat → (T → Hp → Nat → Prop) → Prop} (h : CallOk P f g) (w : World) (args : List T) (vs : List Value) (n : Nat) (hv : frOk (cxOf w) args ⟨vs⟩)
    (hg : ∀ k : T → Hp → Nat → Prop, (∀ hp nx, k (.v (.bool true)) hp nx) → g args [] n k) : Calls P f ⟨vs⟩ w fun e w' => e = .returned (.bool true) ∧ RowKit.Below w.heap.size w w' := by
  refine Calls.mono (h w _ (cxOf w) [] n args vs (fun x _ _ => x = .v (.bool true)) (mdl_start w n) hv (hg _ fun _ _ => rfl)) ?_
  rintro e w' ⟨G', x, v, hp', nx', rfl, rfl, _, hm, hv, rfl⟩
  have hv : v = .bool true := hv
  subst hv
  exact ⟨rfl, hm.below⟩

end Go.J

set_option linter.unusedSimpArgs false
set_option linter.unusedVariables false
namespace Go.J
open Go.RowKit Go.ChangeShapes Go.WideShapes

theorem wf_int {k : IntKind} {n : Int} (h : (Lit.int k n).wf = true) : k.min ≤ n ∧ n ≤ k.max := by simpa [Lit.wf] using h

/-- How great a value that comes in may be. -/
def El.fits : (e : El) → e.ty → Prop
  | .u8, _ => True
  | .int k, n => k.min ≤ n ∧ n ≤ k.max
  | .bool, _ => True
  | .str, s => s.length ≤ maxLen
  | .rd e, xs => xs.length ≤ maxLen ∧ ∀ x ∈ xs, e.fits x
  | .nil, _ => True
  | .cons e es, x => e.fits x.1 ∧ es.fits x.2
  | .ar n e, xs => xs.length = n ∧ ∀ x ∈ xs, e.fits x

/-- Is a type's value told so? -/
def elTys (f : TypeId → El → Bool) : List (TypeId × Nat) → Nat → El → Bool
  | [], _, .nil => true
  | (t, d) :: fs, d', .cons e es => Nat.beq d d' && f t e && elTys f fs (d' + e.sz) es
  | _, _, _ => false
def elTy (l : List (Nat × TyI)) : Nat → TypeId → El → Bool
  | 0, _, _ => false
  | n + 1, t, e => match lookTy l t with
    | none => false
    | some y => Nat.beq y.size e.sz && (match y.k, e with
      | .int k, .int k' => k == k'
      | .int k, .u8 => k == .u8
      | .bool, .bool => true
      | .str, .str => true
      | .sl et, .rd e => Nat.blt 0 e.sz && elTy l n et e
      | .st fs, e => elTys (elTy l n) fs 0 e
      | .ar m et, .ar m' e => Nat.beq m m' && elTy l n et e
      | _, _ => false)

section
variable {H : Type} {enc : TypeId × Value → H} {P : Program} {l : List (Nat × TyI)} {w : World}

theorem cellsOf_size {t : TypeId} {y : TyI} (h : TyOk P t y) : P.cellsOf t = y.size := by
  have := ty_size h
  unfold Program.cellsOf
  rw [this]
  rfl
theorem elTy_size (hty : ∀ t i, (t, i) ∈ l → TyOk P t i) {n : Nat} {t : TypeId} {e : El} (h : elTy l n t e = true) : P.cellsOf t = e.sz := by
  cases n with
  | zero => simp [elTy] at h
  | succ n =>
    unfold elTy at h
    split at h
    · cases h
    · next y hy =>
      simp only [Bool.and_eq_true] at h
      rw [cellsOf_size (hty t y (lookTy_out hy)), nat_beq_eq h.1]

theorem addr_add_add (a : Addr) (m n : Nat) : (a.add m).add n = a.add (m + n) := by
  unfold Addr.add
  by_cases h1 : m = 0 <;> by_cases h2 : n = 0 <;> simp [h1, h2, Nat.add_assoc]

theorem rows_of {α : Type} {R : α → List Value → Prop} {F : α → Prop} {a : Addr} {sz : Nat} : ∀ (len : Nat), (∀ i, i < len → ∃ x css, w.cells? 0 (a.add (i * sz)) sz = some css ∧ R x css ∧ F x) →
    ∃ xs css, xs.length = len ∧ css.length = len * sz ∧ listOf R xs css ∧ (∀ j v, css[j]? = some v → w.cell? (a.add j) = some v) ∧ ∀ x ∈ xs, F x
  | 0, _ => ⟨[], [], rfl, by simp, rfl, fun j v h => by simp at h, fun x h => by cases h⟩
  | len + 1, h => by
    obtain ⟨xs, css, h1, h2, h3, h4, h5⟩ := rows_of len fun i hi => h i (by omega)
    obtain ⟨x, c, k1, k2, k3⟩ := h len (by omega)
    obtain ⟨_, m1, m2⟩ := World.cells?_some k1
    refine ⟨xs ++ [x], css ++ c, by simp [h1], by rw [List.length_append, h2, m1, Nat.add_mul, Nat.one_mul], listOf_append h3 ⟨c, [], by simp, k2, rfl⟩, fun j v hj => ?_, fun y hy => ?_⟩
    · by_cases hlt : j < css.length
      · rw [List.getElem?_append_left hlt] at hj
        exact h4 j v hj
      · rw [List.getElem?_append_right (by omega)] at hj
        have hlt2 : j - css.length < c.length := (List.getElem?_eq_some_iff.1 hj).1
        have := m2 (j - css.length) (by omega)
        rw [addr_add_add, h2, show len * sz + (j - len * sz) = j by omega] at this
        rw [this, ← h2]
        exact hj
    · rcases List.mem_append.1 hy with hy | hy
      · exact h5 y hy
      · simp at hy; subst hy; exact k3

theorem trod_el (hty : ∀ t i, (t, i) ∈ l → TyOk P t i) : ∀ (n fuel : Nat) (t : TypeId) (e : El) (cs : List Value) (r : DataW H × List MemPlace), elTy l n t e = true → DataW.trod enc P w 0 (fun _ => true) true fuel t cs = some r →
    ∃ x : e.ty, cellsOf (fun b => b < w.heap.size) w e x cs ∧ e.fits x := by
  intro n
  induction n with
  | zero => intro fuel t e cs r he; simp [elTy] at he
  | succ n ih =>
    intro fuel t e cs r he h
    have hsz : P.cellsOf t = e.sz := elTy_size hty he
    unfold elTy at he
    split at he
    · cases he
    · next y hy =>
      have hT := hty t y (lookTy_out hy)
      have und := hT.und
      rw [Bool.and_eq_true] at he
      obtain ⟨hsz0, he⟩ := he
      clear hsz0
      revert he
      generalize hyk : y.k = yk
      rw [hyk] at und
      intro he
      split at he
      · next k k' =>
        obtain rfl := eq_of_beq he
        obtain ⟨m, rfl, _, hw⟩ := DataW.trod_int und h
        exact ⟨m, rfl, wf_int hw⟩
      · next k =>
        obtain rfl := eq_of_beq he
        obtain ⟨m, rfl, _, hw⟩ := DataW.trod_int und h
        have hb := wf_int hw
        have e1 : IntKind.u8.min = 0 := by decide
        have e2 : IntKind.u8.max = 255 := by decide
        refine ⟨UInt8.ofNat m.toNat, ?_, trivial⟩
        show [Value.int .u8 m] = [.int .u8 ((UInt8.ofNat m.toNat).toNat : Int)]
        rw [UInt8.toNat_ofNat_of_lt' (by show m.toNat < 256; omega), Int.toNat_of_nonneg (by omega)]
      · obtain ⟨b, rfl, _⟩ := DataW.trod_bool und h
        exact ⟨b, rfl, trivial⟩
      · obtain ⟨s, rfl, _, hs⟩ := DataW.trod_string und h
        exact ⟨s.data.toList, rfl, by show s.data.toList.length ≤ maxLen; simpa using hs⟩
      · next et e' =>
        simp only [Bool.and_eq_true] at he
        obtain ⟨he0, he⟩ := he
        have he0 : 0 < e'.sz := by simpa [Nat.blt_eq] using he0
        have hsz' := elTy_size hty he
        rcases DataW.trod_slice und h with ⟨rfl, _⟩ | ⟨a, len, cap, elems, rest, m, _, rfl, _, _, hl, hm, hlen, hel, _, _⟩
        · exact ⟨[], ⟨none, 0, rfl, Nat.le_refl _, Nat.zero_le _, fun hp => absurd hp (by simp)⟩, by simp [El.fits]⟩
        · obtain ⟨xs, css, h1, h2, h3, h4, h5⟩ := rows_of (w := w) (a := a) (sz := e'.sz) (R := cellsOf (fun b => b < w.heap.size) w e') (F := e'.fits) len fun i hi => by
            have := hel i hi
            rw [List.getElem?_eq_getElem (by omega), Option.bind_eq_some_iff, hsz'] at this
            obtain ⟨c, hc, ht⟩ := this
            obtain ⟨x, k1, k2⟩ := ih m et e' c _ he ht
            exact ⟨x, c, hc, k1, k2⟩
          refine ⟨xs, ⟨some a, cap, by rw [h1], by omega, hm, fun hp => ?_⟩, by omega, h5⟩
          have hc0 : 0 < css.length := by rw [h2]; exact Nat.mul_pos (by omega) he0
          have hv := h4 0 css[0] (List.getElem?_eq_getElem hc0)
          have ha0 : a.add 0 = a := by simp [Addr.add]
          rw [ha0] at hv
          obtain ⟨b, o, sp⟩ := a
          have hsp : sp = none := World.cell?_spot hv
          subst hsp
          refine ⟨b, o, css, rfl, ?_, ?_, fun j v hj => ?_, h3⟩
          · exact World.block_lt_of_cell? w _ hv
          · exact World.block_lt_of_cell? w _ hv
          · have := h4 j v hj
            rwa [show (⟨b, o, none⟩ : Addr).add j = ⟨b, o + j, none⟩ by unfold Addr.add; split <;> simp_all] at this
      · next fs =>
        obtain ⟨fields, hu, hfs, _⟩ := und
        obtain ⟨xs, m, _, _, hcl, hxl, hf⟩ := DataW.trod_struct hu h
        have walk : ∀ (fs' : List (TypeId × Nat)) (i d' : Nat) (e' : El), (fields.toList.drop i).map (fun f => (f.type, f.offset)) = fs' → elTys (elTy l n) fs' d' e' = true → d' + e'.sz = cs.length →
            ∃ x : e'.ty, cellsOf (fun b => b < w.heap.size) w e' x (cs.drop d') ∧ e'.fits x := by
          intro fs'
          induction fs' with
          | nil =>
            intro i d' e' _ h2 h3
            cases e' <;> simp [elTys] at h2
            exact ⟨(), by simp only [El.sz] at h3; simp [cellsOf]; omega, trivial⟩
          | cons p fs' ih2 =>
            intro i d' e' h1 h2 h3
            obtain ⟨t', d⟩ := p
            cases e' <;> simp [elTys] at h2
            next e1 es =>
              obtain ⟨⟨hd, ht⟩, hr⟩ := h2
              subst hd
              cases hfi : fields.toList.drop i with
              | nil => rw [hfi] at h1; simp at h1
              | cons f rest =>
                rw [hfi, List.map_cons] at h1
                injection h1 with h11 h12
                injection h11 with h13 h14
                have hget : fields[i]? = some f := by
                  have : (fields.toList.drop i)[0]? = some f := by rw [hfi]; rfl
                  rw [List.getElem?_drop] at this
                  simpa using this
                have hlt : i < fields.size := (Array.getElem?_eq_some_iff.1 hget).1
                have := hf i f hget
                rw [List.getElem?_eq_getElem (by omega), h13, h14, elTy_size hty ht] at this
                obtain ⟨x1, k1, k2⟩ := ih m t' e1 _ _ ht this
                simp only [El.sz] at h3
                obtain ⟨x2, k3, k4⟩ := ih2 (i + 1) (d + e1.sz) es (by rw [← h12, ← List.drop_drop, hfi]; rfl) hr (by omega)
                exact ⟨(x1, x2), ⟨_, _, by rw [← List.drop_drop]; exact (List.take_append_drop e1.sz (cs.drop d)).symm, k1, k3⟩, k2, k4⟩
        have := walk fs 0 0 e (by simpa using hfs) he (by rw [hcl, hsz]; omega)
        simpa using this
      · next m et m' e' =>
        simp only [Bool.and_eq_true] at he
        obtain ⟨hm, he⟩ := he
        obtain rfl := nat_beq_eq hm
        have hsz' := elTy_size hty he
        obtain ⟨xs, q, _, _, hcl, hxl, hf⟩ := DataW.trod_array und h
        have walk : ∀ k, k ≤ m → ∃ ys : List e'.ty, ys.length = k ∧ listOf (cellsOf (fun b => b < w.heap.size) w e') ys (cs.take (k * e'.sz)) ∧ ∀ y ∈ ys, e'.fits y := by
          intro k
          induction k with
          | zero => intro _; exact ⟨[], rfl, by simp [listOf], fun y hy => by cases hy⟩
          | succ k ihk =>
            intro hk
            obtain ⟨ys, g1, g2, g3⟩ := ihk (by omega)
            have := hf k (by omega)
            rw [List.getElem?_eq_getElem (by omega), hsz'] at this
            obtain ⟨x, k1, k2⟩ := ih q et e' _ _ he this
            refine ⟨ys ++ [x], by simp [g1], ?_, fun y hy => ?_⟩
            · rw [Nat.add_mul, Nat.one_mul, List.take_add]
              exact listOf_append g2 ⟨_, [], by simp, k1, rfl⟩
            · rcases List.mem_append.1 hy with hy | hy
              · exact g3 y hy
              · simp at hy; subst hy; exact k2
        obtain ⟨ys, g1, g2, g3⟩ := walk m (Nat.le_refl _)
        have hlen : cs.length = m * e'.sz := by rw [hcl, hsz]; rfl
        rw [← hlen, List.take_length] at g2
        exact ⟨ys, ⟨g1, g2⟩, g1, g3⟩
      · cases he

/-- An argument, told by its content. -/
theorem arg_el {n : Nat} {t : TypeId} {e : El} {v : Value} {d : DataW H} {p : List MemPlace} (h1 : tysB P l = true) (he : elTy l n t e = true) (hv : Value.okWide P w .any 0 t v) (h : DataW.Trod enc P w 0 (fun _ => true) true t v d p) :
    ∃ x : e.ty, tVal (cxOf w) (e.enc x) v ∧ e.fits x := by
  have hty := tysB_out h1
  obtain ⟨fuel, hf⟩ := h
  obtain ⟨x, hc, hx⟩ := trod_el hty n fuel t e _ _ he hf
  refine ⟨x, ?_, hx⟩
  have hcells : tCells (cxOf w) (e.enc x) v.cells.toList := (tCells_enc (G := cxOf w) e x _).2 hc
  have one : ∀ y : V, (∃ u : Value, v = u ∧ u.cells = #[u]) → e.enc x = .v y → tVal (cxOf w) (e.enc x) v := by
    rintro y ⟨u, rfl, hu⟩ hy
    rw [hy] at hcells ⊢
    obtain ⟨c, e1, _, e3⟩ := hcells
    rw [hu] at e1
    simp at e1
    subst e1
    exact e3
  cases n with
  | zero => simp [elTy] at he
  | succ n =>
    unfold elTy at he
    split at he
    · cases he
    · next y hy =>
      have und := (hty t y (lookTy_out hy)).und
      rw [Bool.and_eq_true] at he
      obtain ⟨hsz0, he⟩ := he
      clear hsz0
      revert he
      generalize hyk : y.k = yk
      rw [hyk] at und
      intro he
      split at he
      · next k k' =>
        obtain ⟨m, rfl⟩ := okWide_int und hv
        exact one _ ⟨_, rfl, rfl⟩ rfl
      · next k =>
        obtain ⟨m, rfl⟩ := okWide_int und hv
        exact one _ ⟨_, rfl, rfl⟩ rfl
      · obtain ⟨m, rfl⟩ := okWide_bool und hv
        exact one _ ⟨_, rfl, rfl⟩ rfl
      · obtain ⟨m, rfl⟩ := okWide_string und hv
        exact one _ ⟨_, rfl, rfl⟩ rfl
      · next et e' =>
        obtain ⟨a, len, cap, rfl⟩ := okWide_slice und hv
        exact one _ ⟨_, rfl, rfl⟩ rfl
      · next fs =>
        obtain ⟨fields, hu, hfs, _⟩ := und
        obtain ⟨cs, rfl, _⟩ := okWide_struct hu hv
        cases e <;> first | exact ⟨cs.toList, by simp, hcells⟩ | (cases fs <;> simp [elTys] at he)
      · next m et m' e' =>
        have : ∃ cs, v = .agg cs := by
          unfold Value.okWide at hv
          rw [und] at hv
          obtain ⟨cs, h, _⟩ := hv
          exact ⟨cs, h⟩
        obtain ⟨cs, rfl⟩ := this
        exact ⟨cs.toList, by simp, hcells⟩
      · cases he
end
end Go.J

set_option linter.unusedSimpArgs false
set_option linter.unusedVariables false
set_option linter.unusedSectionVars false
namespace Go.J
open Go.Proofs

theorem b64 {n : Int} (h : IntKind.i64.min ≤ n ∧ n ≤ IntKind.i64.max) : -9223372036854775808 ≤ n ∧ n ≤ 9223372036854775807 := h
theorem cmdFit_of {c : cmdE.ty} (h : El.fits cmdE c) : cmdFit c := by
  obtain ⟨k, seq, tr, inst, id, side, ord, pr, q, sh, st, wh, a, b, tag, _⟩ := c
  obtain ⟨h0, h1, h2, h3, h4, h5, h6, h7, h8, h9, h10, h11, h12, h13, ⟨ht, _⟩, _⟩ := h
  exact ⟨ht, b64 h0, b64 h1, b64 h2, b64 h3, b64 h4, b64 h5, b64 h6, b64 h7, b64 h8, b64 h9, b64 h10, b64 h11, b64 h12, b64 h13⟩
theorem noteFit_of {c : noteE.ty} (h : El.fits noteE c) : noteFit c := by
  obtain ⟨k, err, seq, inst, id, no, side, pr, q, left, sum, _⟩ := c
  obtain ⟨h0, h1, h2, h3, h4, h5, h6, h7, h8, h9, ⟨ht, _⟩, _⟩ := h
  exact ⟨ht, b64 h0, b64 h1, b64 h2, b64 h3, b64 h4, b64 h5, b64 h6, b64 h7, b64 h8, b64 h9⟩

end Go.J

set_option linter.unusedSimpArgs false
set_option linter.unusedVariables false
set_option linter.unusedSectionVars false
namespace Go.J
open Go.Proofs
theorem msgReads_pre {c : List UInt8} (_ : El.fits (.rd .u8) c) : msgReads_s.pre (c, ()) := trivial
end Go.J

