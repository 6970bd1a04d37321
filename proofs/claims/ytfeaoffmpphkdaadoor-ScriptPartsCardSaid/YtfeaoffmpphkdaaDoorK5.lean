/-
  JOBBER: the engine and the functions of this claim, part 5.
-/
import Derived.Test.YtfeaoffmpphkdaaDoorK4
import Derived.KernelRfl
import Derived.Laws.BitsLemmas
import Derived.Laws.LoneSync
import Derived.Defers
set_option linter.unusedSimpArgs false
set_option linter.unusedVariables false
set_option linter.unusedSectionVars false
namespace Go.J
open Go.Proofs

/-- The bytes of a number, the highest first. -/
def be : Nat → Int → List UInt8
  | 0, _ => []
  | k + 1, n => UInt8.ofNat ((n / 256 ^ k) % 256).toNat :: be k n

theorem be_length : ∀ (k : Nat) (n : Int), (be k n).length = k
  | 0, _ => rfl
  | k + 1, n => by simp [be, be_length k n]

@[reducible] def clone_s : Spec where
  n := 0
  cs := []
  ar := [.lend .u8]
  pre := fun (xs, _) => xs.length ≤ 1000000000000
  n' := 1
  cs' := [(0, .row 5 .u8)]
  rs := [.own 0]
  post := .fn fun (xs, _) => (xs, ())
@[reducible] def clone_h : Hints := ⟨[], [], []⟩
@[reducible] noncomputable def clone_e : Env := ⟨tys, []⟩
set_option maxHeartbeats 1000000 in
set_option maxRecDepth 100000 in
theorem clone_d : denF clone_e clone_s clone_h Tryd.f19 := by
  intro xs
  repeat' (first | (conv => whnf); first | refine And.intro ?_ ?_ | refine Is.mk ?_ | (intro h; cases h; done) | (intro _))
  all_goals try dsimp only [maxLen, El.ty] at *
  all_goals try trivial
  all_goals repeat (with_reducible cases ‹_ ∧ _›)
  all_goals try subst_eqs
  all_goals try simp only [IntKind.wrap_i64, IntKind.wrap_u64, IntKind.wrap_u32, IntKind.wrap_u8, decide_eq_true_eq, decide_eq_false_iff_not, Bool.not_eq_true', Bool.not_eq_false', Bool.not_not, Bool.not_true, Bool.not_false, List.length_cons, List.length_nil, Int.toNat_natCast, UInt8.ofNat_toNat] at *
  all_goals try first | omega | (with_reducible rfl) | (with_reducible exact u8lt _)
  rename_i h
  symm
  refine List.eq_nil_of_length_eq_zero ?_
  cases hx : xs.length with
  | zero => rfl
  | succ n => exact absurd (h (by omega)) (by simp)
set_option maxRecDepth 100000 in
theorem clone_p : (FnIs Tryd.prog 19 ∧ FnOk Tryd.prog 19 clone_s) ∧ (idsOk clone_s.cs && idsOk clone_s.cs' && Nat.ble clone_s.n clone_s.n') = true :=
  fn_of (l := []) (hi := clone_h) (S := clone_s) (fn := Tryd.f19) (c := Tryd.f19.body.get!) tysOk mixOk trivial (by kernel_rfl) (by kernel_rfl) (by kernel_rfl) (by kernel_rfl) (by kernel_rfl) clone_d
theorem clone_m : May Tryd.prog (19, clone_s.call) := may_call clone_p
theorem clone_n : May Tryd.prog (19, clone_s.callN) := may_callN clone_p

@[reducible] def number_s : Spec where
  n := 0
  cs := []
  ar := [.lend .u8, .el (.int .u64), .el (.int .i64)]
  pre := fun (xs, n, size, _) => xs.length ≤ 1000000000000 ∧ 0 ≤ n ∧ n < 18446744073709551616 ∧ 0 ≤ size ∧ size ≤ 8
  n' := 1
  cs' := [(0, .row 5 .u8)]
  rs := [.own 0]
  post := .fn fun (xs, n, size, _) => (xs ++ be size.toNat n, ())
@[reducible] def number_a : Ann where
  nx := 1
  cs := [(0, .row 5 .u8)]
  ss := [(1, .el (.int .u64)), (7, .own 0), (8, .el (.int .i64))]
  inv := fun (xs0, n0, i0, _) (xs, n, i, _) => n = n0 ∧ -1 ≤ i ∧ i ≤ i0 ∧ xs ++ be (i + 1).toNat n = xs0 ++ be (i0 + 1).toNat n0
  mu := fun (_, _, i, _) => (i + 1).toNat
@[reducible] def number_h : Hints := ⟨[], [(3, number_a)], []⟩
@[reducible] noncomputable def number_e : Env := ⟨tys, [(19, clone_s.call)]⟩
set_option maxHeartbeats 1000000 in
set_option maxRecDepth 100000 in
theorem number_d : denF number_e number_s number_h Tryd.f38 := by
  intro xs n size
  repeat' (first | (conv => whnf); first | refine And.intro ?_ ?_ | refine Is.mk ?_ | (intro h; cases h; done) | (intro _))
  all_goals try dsimp only [maxLen, El.ty] at *
  all_goals try trivial
  all_goals repeat (with_reducible cases ‹_ ∧ _›)
  all_goals try subst_eqs
  all_goals try simp only [IntKind.wrap_i64, IntKind.wrap_u64, IntKind.wrap_u32, IntKind.wrap_u8, decide_eq_true_eq, decide_eq_false_iff_not, Bool.not_eq_true', Bool.not_eq_false', Bool.not_not, Bool.not_true, Bool.not_false, List.length_cons, List.length_nil, Int.toNat_natCast, UInt8.ofNat_toNat] at *
  all_goals try first | omega | (with_reducible rfl) | (with_reducible exact u8lt _)
  all_goals
    rename Int => i
    rename List UInt8 => ys
    rename _ ++ be _ n = _ => h8
    have hs : (size - 1 + 9223372036854775808) % 18446744073709551616 - 9223372036854775808 + 1 = size := by omega
    rw [hs] at h8
    have hl := congrArg List.length h8
    simp only [List.length_append, be_length] at hl
  · omega
  · omega
  · rw [hs, ← h8, List.append_assoc]
    congr 1
    obtain ⟨j, rfl⟩ := Int.eq_ofNat_of_zero_le (show 0 ≤ i by omega)
    rw [show ((j : Int) + 1).toNat = j + 1 by omega, show ((j : Int) - 1 + 9223372036854775808) % 18446744073709551616 - 9223372036854775808 + 1 = j by omega]
    simp only [Int.toNat_natCast, be, List.singleton_append]
    congr 2
    have hj : j < 8 := by omega
    rw [show ((8 * (j : Int) + 9223372036854775808) % 18446744073709551616 - 9223372036854775808) % 18446744073709551616 = ((8 * j : Nat) : Int) by omega, Int.toNat_natCast]
    have hb : min (8 * j) IntKind.u64.bits = 8 * j := Nat.min_eq_left (by simp only [IntKind.bits]; omega)
    rw [hb, Int.fdiv_eq_ediv_of_nonneg _ (Int.le_of_lt (Int.pow_pos (by omega)))]
    rw [show (2 : Int) ^ (8 * j) = 256 ^ j by rw [Int.pow_mul]; rfl]
  · have h9 : be (i + 1).toNat n = [] := by rw [show (i + 1).toNat = 0 by omega]; rfl
    rw [h9, List.append_nil] at h8
    exact h8
set_option maxRecDepth 100000 in
theorem number_p : (FnIs Tryd.prog 38 ∧ FnOk Tryd.prog 38 number_s) ∧ (idsOk number_s.cs && idsOk number_s.cs' && Nat.ble number_s.n number_s.n') = true :=
  fn_of (l := [(19, clone_s.call)]) (hi := number_h) (S := number_s) (fn := Tryd.f38) (c := Tryd.f38.body.get!) tysOk mixOk ⟨.inl clone_m, trivial⟩ (by kernel_rfl) (by kernel_rfl) (by kernel_rfl) (by kernel_rfl) (by kernel_rfl) number_d
theorem number_m : May Tryd.prog (38, number_s.call) := may_call number_p
theorem number_n : May Tryd.prog (38, number_s.callN) := may_callN number_p

end Go.J

set_option linter.unusedSimpArgs false
set_option linter.unusedVariables false
set_option linter.unusedSectionVars false
namespace Go.J
open Go.Proofs

@[reducible] def u8_s : Spec where
  n := 0
  cs := []
  ar := [.lend .u8, .el (.int .i64)]
  pre := fun (xs, n, _) => xs.length ≤ 1000000000000 ∧ -9223372036854775808 ≤ n ∧ n ≤ 9223372036854775807
  n' := 1
  cs' := [(0, .row 5 .u8)]
  rs := [.own 0]
  post := .fn fun (xs, n, _) => (xs ++ be 1 (n % 18446744073709551616), ())
@[reducible] def u8_h : Hints := ⟨[], [], []⟩
@[reducible] noncomputable def u8_e : Env := ⟨tys, [(38, number_s.call)]⟩
set_option maxHeartbeats 1000000 in
set_option maxRecDepth 100000 in
theorem u8_d : denF u8_e u8_s u8_h Tryd.f22 := by
  intro xs n
  repeat' (first | (conv => whnf); first | refine And.intro ?_ ?_ | refine Is.mk ?_ | (intro h; cases h; done) | (intro _))
  all_goals try dsimp only [maxLen, El.ty] at *
  all_goals try trivial
  all_goals repeat (with_reducible cases ‹_ ∧ _›)
  all_goals try subst_eqs
  all_goals try simp only [IntKind.wrap_i64, IntKind.wrap_u64, IntKind.wrap_u32, IntKind.wrap_u8, decide_eq_true_eq, decide_eq_false_iff_not, Bool.not_eq_true', Bool.not_eq_false', Bool.not_not, Bool.not_true, Bool.not_false, List.length_cons, List.length_nil, Int.toNat_natCast, UInt8.ofNat_toNat] at *
  all_goals try first | omega | (with_reducible rfl) | (with_reducible exact u8lt _)
set_option maxRecDepth 100000 in
theorem u8_p : (FnIs Tryd.prog 22 ∧ FnOk Tryd.prog 22 u8_s) ∧ (idsOk u8_s.cs && idsOk u8_s.cs' && Nat.ble u8_s.n u8_s.n') = true :=
  fn_of (l := [(38, number_s.call)]) (hi := u8_h) (S := u8_s) (fn := Tryd.f22) (c := Tryd.f22.body.get!) tysOk mixOk ⟨.inl number_m, trivial⟩ (by kernel_rfl) (by kernel_rfl) (by kernel_rfl) (by kernel_rfl) (by kernel_rfl) u8_d
theorem u8_m : May Tryd.prog (22, u8_s.call) := may_call u8_p
theorem u8_n : May Tryd.prog (22, u8_s.callN) := may_callN u8_p

@[reducible] def u32_s : Spec where
  n := 0
  cs := []
  ar := [.lend .u8, .el (.int .u32)]
  pre := fun (xs, n, _) => xs.length ≤ 1000000000000 ∧ 0 ≤ n ∧ n < 4294967296
  n' := 1
  cs' := [(0, .row 5 .u8)]
  rs := [.own 0]
  post := .fn fun (xs, n, _) => (xs ++ be 4 n, ())
@[reducible] def u32_h : Hints := ⟨[], [], []⟩
@[reducible] noncomputable def u32_e : Env := ⟨tys, [(38, number_s.call)]⟩
set_option maxHeartbeats 1000000 in
set_option maxRecDepth 100000 in
theorem u32_d : denF u32_e u32_s u32_h Tryd.f39 := by
  intro xs n
  repeat' (first | (conv => whnf); first | refine And.intro ?_ ?_ | refine Is.mk ?_ | (intro h; cases h; done) | (intro _))
  all_goals try dsimp only [maxLen, El.ty] at *
  all_goals try trivial
  all_goals repeat (with_reducible cases ‹_ ∧ _›)
  all_goals try subst_eqs
  all_goals try simp only [IntKind.wrap_i64, IntKind.wrap_u64, IntKind.wrap_u32, IntKind.wrap_u8, decide_eq_true_eq, decide_eq_false_iff_not, Bool.not_eq_true', Bool.not_eq_false', Bool.not_not, Bool.not_true, Bool.not_false, List.length_cons, List.length_nil, Int.toNat_natCast, UInt8.ofNat_toNat] at *
  all_goals try first | omega | (with_reducible rfl) | (with_reducible exact u8lt _)
  rename_i h _
  rw [show n % 18446744073709551616 = n by omega]
  rfl
set_option maxRecDepth 100000 in
theorem u32_p : (FnIs Tryd.prog 39 ∧ FnOk Tryd.prog 39 u32_s) ∧ (idsOk u32_s.cs && idsOk u32_s.cs' && Nat.ble u32_s.n u32_s.n') = true :=
  fn_of (l := [(38, number_s.call)]) (hi := u32_h) (S := u32_s) (fn := Tryd.f39) (c := Tryd.f39.body.get!) tysOk mixOk ⟨.inl number_m, trivial⟩ (by kernel_rfl) (by kernel_rfl) (by kernel_rfl) (by kernel_rfl) (by kernel_rfl) u32_d
theorem u32_m : May Tryd.prog (39, u32_s.call) := may_call u32_p
theorem u32_n : May Tryd.prog (39, u32_s.callN) := may_callN u32_p

@[reducible] def u64_s : Spec where
  n := 0
  cs := []
  ar := [.lend .u8, .el (.int .u64)]
  pre := fun (xs, n, _) => xs.length ≤ 1000000000000 ∧ 0 ≤ n ∧ n < 18446744073709551616
  n' := 1
  cs' := [(0, .row 5 .u8)]
  rs := [.own 0]
  post := .fn fun (xs, n, _) => (xs ++ be 8 n, ())

/-- What a text is written as. -/
def txt (s : List UInt8) : List UInt8 := UInt8.ofNat (min s.length 255) :: s.take 255
@[reducible] def text_s : Spec where
  n := 0
  cs := []
  ar := [.lend .u8, .el .str]
  pre := fun (xs, s, _) => xs.length ≤ 100000000000
  n' := 1
  cs' := [(0, .row 5 .u8)]
  rs := [.own 0]
  post := .fn fun (xs, s, _) => (xs ++ txt s, ())

/-- A reader's bytes, place, badness: may so many be taken? -/
def rdOk (xs : List UInt8) (at_ : Int) (bad : Bool) (n : Int) : Bool := !bad && decide (at_ + n ≤ xs.length)
/-- What is taken. -/
def tk (xs : List UInt8) (at_ : Int) (bad : Bool) (n : Int) : List UInt8 := if rdOk xs at_ bad n then (xs.drop at_.toNat).take n.toNat else []
/-- The place behind it. -/
def adv (xs : List UInt8) (at_ : Int) (bad : Bool) (n : Int) : Int := if rdOk xs at_ bad n then at_ + n else at_
theorem adv_in (xs : List UInt8) (at_ : Int) (bad : Bool) (n : Int) (h : 0 ≤ at_ ∧ at_ ≤ xs.length) (hn : 0 ≤ n) : 0 ≤ adv xs at_ bad n ∧ adv xs at_ bad n ≤ xs.length := by
  unfold adv rdOk
  cases bad <;> simp <;> (try split) <;> omega
theorem tk_len (xs : List UInt8) (at_ : Int) (bad : Bool) (n : Int) (h : 0 ≤ at_) (hn : 0 ≤ n) (hk : rdOk xs at_ bad n = true) : (tk xs at_ bad n).length = n.toNat := by
  unfold tk
  rw [if_pos hk]
  simp only [rdOk, Bool.and_eq_true, decide_eq_true_eq] at hk
  simp only [List.length_take, List.length_drop]
  omega
theorem tk_le (xs : List UInt8) (at_ : Int) (bad : Bool) (n : Int) : (tk xs at_ bad n).length ≤ n.toNat := by
  unfold tk
  split
  · simp only [List.length_take]; omega
  · simp

@[reducible] def rdr : Sh := .cons (.el (.rd .u8)) (.cons (.el (.int .i64)) (.cons (.el .bool) .nil))

@[reducible] def read_s : Spec where
  n := 0
  cs := []
  ar := [.el (.rd .u8)]
  pre := fun (xs, _) => xs.length ≤ 1000000000000
  n' := 1
  cs' := [(0, .own rdr)]
  rs := [.ref 0]
  post := .fn fun (xs, _) => (xs, 0, false, ())
@[reducible] def read_h : Hints := ⟨[], [], []⟩
@[reducible] noncomputable def read_e : Env := ⟨tys, [(19, clone_s.call)]⟩
set_option maxHeartbeats 1000000 in
set_option maxRecDepth 100000 in
theorem read_d : denF read_e read_s read_h Tryd.f24 := by
  intro xs
  repeat' (first | (conv => whnf); first | refine And.intro ?_ ?_ | refine Is.mk ?_ | (intro h; cases h; done) | (intro _))
  all_goals try dsimp only [maxLen, El.ty] at *
  all_goals try trivial
  all_goals repeat (with_reducible cases ‹_ ∧ _›)
  all_goals try subst_eqs
  all_goals try simp only [IntKind.wrap_i64, IntKind.wrap_u64, IntKind.wrap_u32, IntKind.wrap_u8, decide_eq_true_eq, decide_eq_false_iff_not, Bool.not_eq_true', Bool.not_eq_false', Bool.not_not, Bool.not_true, Bool.not_false, List.length_cons, List.length_nil, Int.toNat_natCast, UInt8.ofNat_toNat] at *
  all_goals try first | omega | (with_reducible rfl) | (with_reducible exact u8lt _)
set_option maxRecDepth 100000 in
theorem read_p : (FnIs Tryd.prog 24 ∧ FnOk Tryd.prog 24 read_s) ∧ (idsOk read_s.cs && idsOk read_s.cs' && Nat.ble read_s.n read_s.n') = true :=
  fn_of (l := [(19, clone_s.call)]) (hi := read_h) (S := read_s) (fn := Tryd.f24) (c := Tryd.f24.body.get!) tysOk mixOk ⟨.inl clone_m, trivial⟩ (by kernel_rfl) (by kernel_rfl) (by kernel_rfl) (by kernel_rfl) (by kernel_rfl) read_d
theorem read_m : May Tryd.prog (24, read_s.call) := may_call read_p
theorem read_n : May Tryd.prog (24, read_s.callN) := may_callN read_p

@[reducible] def take_s : Spec where
  n := 1
  cs := [(0, .own rdr)]
  ar := [.ref 0, .el (.int .i64)]
  pre := fun (xs, at_, _, n, _) => 0 ≤ at_ ∧ at_ ≤ xs.length ∧ 0 ≤ n ∧ n ≤ 9223372036854775807
  n' := 1
  cs' := [(0, .own rdr)]
  rs := [.el (.rd .u8)]
  post := .fn fun (xs, at_, bad, n, _) => (xs, adv xs at_ bad n, !rdOk xs at_ bad n, tk xs at_ bad n, ())
@[reducible] def take_h : Hints := ⟨[(1, (tks 0 4 (.take 4 true (tks 5 13 .done)))), (5, (tks 0 15 (.last 15 false [] .done)))], [], []⟩
@[reducible] noncomputable def take_e : Env := ⟨tys, []⟩
set_option maxHeartbeats 1000000 in
set_option maxRecDepth 100000 in
theorem take_d : denF take_e take_s take_h Tryd.f41 := by
  intro xs at_ bad n
  repeat' (first | (conv => whnf); first | refine And.intro ?_ ?_ | refine Is.mk ?_ | (intro h; cases h; done) | (intro _))
  all_goals try dsimp only [maxLen, El.ty] at *
  all_goals try trivial
  all_goals repeat (with_reducible cases ‹_ ∧ _›)
  all_goals try subst_eqs
  all_goals try simp only [IntKind.wrap_i64, IntKind.wrap_u64, IntKind.wrap_u32, IntKind.wrap_u8, decide_eq_true_eq, decide_eq_false_iff_not, Bool.not_eq_true', Bool.not_eq_false', Bool.not_not, Bool.not_true, Bool.not_false, List.length_cons, List.length_nil, Int.toNat_natCast, UInt8.ofNat_toNat] at *
  all_goals try first | omega | (with_reducible rfl) | (with_reducible exact u8lt _)
  all_goals subst_vars
  all_goals first
    | (simp [adv, tk, rdOk]; done)
    | (have h9 : ¬ (at_ + n ≤ (xs.length : Int)) := by omega
       simp [adv, tk, rdOk, h9]; done)
    | (have h9 : at_ + n ≤ (xs.length : Int) := by omega
       simp [adv, tk, rdOk, h9]
       try omega)
  congr 1
  · omega
  · congr 1; omega
set_option maxRecDepth 100000 in
theorem take_p : (FnIs Tryd.prog 41 ∧ FnOk Tryd.prog 41 take_s) ∧ (idsOk take_s.cs && idsOk take_s.cs' && Nat.ble take_s.n take_s.n') = true :=
  fn_of (l := []) (hi := take_h) (S := take_s) (fn := Tryd.f41) (c := Tryd.f41.body.get!) tysOk mixOk trivial (by kernel_rfl) (by kernel_rfl) (by kernel_rfl) (by kernel_rfl) (by kernel_rfl) take_d
theorem take_m : May Tryd.prog (41, take_s.call) := may_call take_p
theorem take_n : May Tryd.prog (41, take_s.callN) := may_callN take_p

/-- The number that bytes tell. -/
def fb (l : List UInt8) : Int := l.foldl (fun n c => n * 256 + c.toNat) 0
theorem foldl_lt : ∀ (l : List UInt8) (k : Nat) (m : Int), 0 ≤ m ∧ m < 256 ^ k → 0 ≤ l.foldl (fun n c => n * 256 + (c.toNat : Int)) m ∧ l.foldl (fun n c => n * 256 + (c.toNat : Int)) m < 256 ^ (k + l.length)
  | [], k, m, h => h
  | c :: l, k, m, h => by
    have hc : c.toNat < 256 := c.toNat_lt
    have := foldl_lt l (k + 1) (m * 256 + c.toNat) (by rw [Int.pow_succ]; omega)
    rw [List.foldl_cons, List.length_cons, show k + (l.length + 1) = k + 1 + l.length by omega]
    exact this
theorem fb_lt (l : List UInt8) : 0 ≤ fb l ∧ fb l < 256 ^ l.length := by
  have := foldl_lt l 0 0 (by decide)
  rwa [Nat.zero_add] at this
theorem fb_snoc (l : List UInt8) (c : UInt8) : fb (l ++ [c]) = fb l * 256 + c.toNat := by simp [fb]
theorem fb_nil : fb [] = 0 := rfl

@[reducible] def rnum_s : Spec where
  n := 1
  cs := [(0, .own rdr)]
  ar := [.ref 0, .el (.int .i64)]
  pre := fun (xs, at_, _, n, _) => 0 ≤ at_ ∧ at_ ≤ xs.length ∧ 0 ≤ n ∧ n ≤ 8
  n' := 1
  cs' := [(0, .own rdr)]
  rs := [.el (.int .u64)]
  post := .fn fun (xs, at_, bad, n, _) => (xs, adv xs at_ bad n, !rdOk xs at_ bad n, fb (tk xs at_ bad n), ())
theorem u64_shl8_or (n : Int) (c : UInt8) (h : 0 ≤ n ∧ n < 256 ^ 7) : bits .or .u64 (n * 2 ^ min (Int.toNat 8) IntKind.u64.bits % 18446744073709551616) (c.toNat % 18446744073709551616) = n * 256 + c.toNat := by
  have hc : c.toNat < 256 := c.toNat_lt
  have e : min (Int.toNat 8) IntKind.u64.bits = 8 := by decide
  rw [e, show (2 : Int) ^ 8 = 256 by decide]
  have h7 : n < 72057594037927936 := by have := h.2; simpa using this
  rw [show n * 256 % 18446744073709551616 = n * 256 by omega, show (c.toNat : Int) % 18446744073709551616 = c.toNat by omega]
  have hw : ∀ n : Int, 0 ≤ n → n < 2 ^ 64 → IntKind.u64.wrap n = n := fun n h1 h2 => by rw [IntKind.wrap_u64]; omega
  exact bits_join .u64 64 (by decide) hw 8 (n * 256) c.toNat (by omega) (by omega) (by omega) (by omega) (by omega) (by omega)
theorem take_succ_getD (l : List UInt8) (i : Nat) (h : i < l.length) : l.take (i + 1) = l.take i ++ [l.getD i 0] := by
  rw [List.take_add_one, List.getElem?_eq_getElem h]
  simp [List.getD, List.getElem?_eq_getElem h]

@[reducible] def rnum_a : Ann where
  nx := 1
  cs := [(0, .own rdr)]
  ss := [(5, .el (.int .u64)), (10, .el (.rd .u8)), (11, .el (.int .i64)), (12, .el (.int .i64))]
  inv := fun (b0, a0, d0, _, l0, k0, _, _) (b, a, d, n, l, k, i, _) => b = b0 ∧ a = a0 ∧ d = d0 ∧ l = l0 ∧ k = k0 ∧ 0 ≤ i ∧ i ≤ l.length ∧ n = fb (l.take i.toNat)
  mu := fun (_, _, _, _, l, _, i, _) => l.length - i.toNat
@[reducible] def rnum_h : Hints := ⟨[], [(3, rnum_a)], []⟩
@[reducible] noncomputable def rnum_e : Env := ⟨tys, [(41, take_s.call)]⟩
set_option maxHeartbeats 1000000 in
set_option maxRecDepth 100000 in
theorem rnum_d : denF rnum_e rnum_s rnum_h Tryd.f40 := by
  intro xs at_ bad n
  repeat' (first | (conv => whnf); first | refine And.intro ?_ ?_ | refine Is.mk ?_ | (intro h; cases h; done) | (intro _))
  all_goals try dsimp only [maxLen, El.ty] at *
  all_goals try trivial
  all_goals repeat (with_reducible cases ‹_ ∧ _›)
  all_goals try subst_eqs
  all_goals try simp only [IntKind.wrap_i64, IntKind.wrap_u64, IntKind.wrap_u32, IntKind.wrap_u8, decide_eq_true_eq, decide_eq_false_iff_not, Bool.not_eq_true', Bool.not_eq_false', Bool.not_not, Bool.not_true, Bool.not_false, List.length_cons, List.length_nil, Int.toNat_natCast, UInt8.ofNat_toNat] at *
  all_goals try first | omega | (with_reducible rfl) | (with_reducible exact u8lt _)
  all_goals rename_i _ i _ _ _ _ _ _ _ _ _
  · have h7 := tk_le xs at_ bad n
    rw [u64_shl8_or, show ((i + 1 + 9223372036854775808) % 18446744073709551616 - 9223372036854775808).toNat = i.toNat + 1 by omega, take_succ_getD _ _ (by omega), fb_snoc]
    · rfl
    · have := fb_lt (List.take i.toNat (tk xs at_ bad n))
      have hl : (List.take i.toNat (tk xs at_ bad n)).length ≤ 7 := by rw [List.length_take]; omega
      exact ⟨this.1, Int.lt_of_lt_of_le this.2 (by exact_mod_cast Nat.pow_le_pow_right (by decide) hl)⟩
  · rw [List.take_of_length_le (by omega)]
set_option maxRecDepth 100000 in
theorem rnum_p : (FnIs Tryd.prog 40 ∧ FnOk Tryd.prog 40 rnum_s) ∧ (idsOk rnum_s.cs && idsOk rnum_s.cs' && Nat.ble rnum_s.n rnum_s.n') = true :=
  fn_of (l := [(41, take_s.call)]) (hi := rnum_h) (S := rnum_s) (fn := Tryd.f40) (c := Tryd.f40.body.get!) tysOk mixOk ⟨.inl take_m, trivial⟩ (by kernel_rfl) (by kernel_rfl) (by kernel_rfl) (by kernel_rfl) (by kernel_rfl) rnum_d
theorem rnum_m : May Tryd.prog (40, rnum_s.call) := may_call rnum_p
theorem rnum_n : May Tryd.prog (40, rnum_s.callN) := may_callN rnum_p

end Go.J

set_option linter.unusedSimpArgs false
set_option linter.unusedVariables false
set_option linter.unusedSectionVars false
namespace Go.J
open Go.Proofs

theorem fb_tk_lt (xs : List UInt8) (at_ : Int) (bad : Bool) (n : Int) : 0 ≤ fb (tk xs at_ bad n) ∧ fb (tk xs at_ bad n) < ((256 ^ n.toNat : Nat) : Int) := by
  have h1 := fb_lt (tk xs at_ bad n)
  have h2 := tk_le xs at_ bad n
  have h3 : 256 ^ (tk xs at_ bad n).length ≤ 256 ^ n.toNat := Nat.pow_le_pow_right (by decide) h2
  have h4 : ((256 ^ (tk xs at_ bad n).length : Nat) : Int) = 256 ^ (tk xs at_ bad n).length := Int.natCast_pow 256 _
  exact ⟨h1.1, Int.lt_of_lt_of_le h1.2 (h4 ▸ Int.ofNat_le.2 h3)⟩
theorem fb1 (xs : List UInt8) (at_ : Int) (bad : Bool) : 0 ≤ fb (tk xs at_ bad 1) ∧ fb (tk xs at_ bad 1) < 256 := fb_tk_lt xs at_ bad 1
theorem fb4 (xs : List UInt8) (at_ : Int) (bad : Bool) : 0 ≤ fb (tk xs at_ bad 4) ∧ fb (tk xs at_ bad 4) < 4294967296 := fb_tk_lt xs at_ bad 4
theorem fb8 (xs : List UInt8) (at_ : Int) (bad : Bool) : 0 ≤ fb (tk xs at_ bad 8) ∧ fb (tk xs at_ bad 8) < 18446744073709551616 := fb_tk_lt xs at_ bad 8

@[reducible] def ru8_s : Spec where
  n := 1
  cs := [(0, .own rdr)]
  ar := [.ref 0]
  pre := fun (xs, at_, _, _) => 0 ≤ at_ ∧ at_ ≤ xs.length
  n' := 1
  cs' := [(0, .own rdr)]
  rs := [.el (.int .i64)]
  post := .fn fun (xs, at_, bad, _) => (xs, adv xs at_ bad 1, !rdOk xs at_ bad 1, fb (tk xs at_ bad 1), ())
@[reducible] def ru8_h : Hints := ⟨[], [], []⟩
@[reducible] noncomputable def ru8_e : Env := ⟨tys, [(40, rnum_s.call)]⟩
set_option maxHeartbeats 1000000 in
set_option maxRecDepth 100000 in
theorem ru8_d : denF ru8_e ru8_s ru8_h Tryd.f25 := by
  intro xs at_ bad
  repeat' (first | (conv => whnf); first | refine And.intro ?_ ?_ | refine Is.mk ?_ | (intro h; cases h; done) | (intro _))
  all_goals try dsimp only [maxLen, El.ty] at *
  all_goals try trivial
  all_goals repeat (with_reducible cases ‹_ ∧ _›)
  all_goals try subst_eqs
  all_goals try simp only [IntKind.wrap_i64, IntKind.wrap_u64, IntKind.wrap_u32, IntKind.wrap_u8, decide_eq_true_eq, decide_eq_false_iff_not, Bool.not_eq_true', Bool.not_eq_false', Bool.not_not, Bool.not_true, Bool.not_false, List.length_cons, List.length_nil, Int.toNat_natCast, UInt8.ofNat_toNat] at *
  all_goals try first | omega | (with_reducible rfl) | (with_reducible exact u8lt _)
  have := fb1 xs at_ bad
  omega
set_option maxRecDepth 100000 in
theorem ru8_p : (FnIs Tryd.prog 25 ∧ FnOk Tryd.prog 25 ru8_s) ∧ (idsOk ru8_s.cs && idsOk ru8_s.cs' && Nat.ble ru8_s.n ru8_s.n') = true :=
  fn_of (l := [(40, rnum_s.call)]) (hi := ru8_h) (S := ru8_s) (fn := Tryd.f25) (c := Tryd.f25.body.get!) tysOk mixOk ⟨.inl rnum_m, trivial⟩ (by kernel_rfl) (by kernel_rfl) (by kernel_rfl) (by kernel_rfl) (by kernel_rfl) ru8_d
theorem ru8_m : May Tryd.prog (25, ru8_s.call) := may_call ru8_p
theorem ru8_n : May Tryd.prog (25, ru8_s.callN) := may_callN ru8_p

@[reducible] def ru32_s : Spec where
  n := 1
  cs := [(0, .own rdr)]
  ar := [.ref 0]
  pre := fun (xs, at_, _, _) => 0 ≤ at_ ∧ at_ ≤ xs.length
  n' := 1
  cs' := [(0, .own rdr)]
  rs := [.el (.int .u32)]
  post := .fn fun (xs, at_, bad, _) => (xs, adv xs at_ bad 4, !rdOk xs at_ bad 4, fb (tk xs at_ bad 4), ())
@[reducible] def ru32_h : Hints := ⟨[], [], []⟩
@[reducible] noncomputable def ru32_e : Env := ⟨tys, [(40, rnum_s.call)]⟩
set_option maxHeartbeats 1000000 in
set_option maxRecDepth 100000 in
theorem ru32_d : denF ru32_e ru32_s ru32_h Tryd.f27 := by
  intro xs at_ bad
  repeat' (first | (conv => whnf); first | refine And.intro ?_ ?_ | refine Is.mk ?_ | (intro h; cases h; done) | (intro _))
  all_goals try dsimp only [maxLen, El.ty] at *
  all_goals try trivial
  all_goals repeat (with_reducible cases ‹_ ∧ _›)
  all_goals try subst_eqs
  all_goals try simp only [IntKind.wrap_i64, IntKind.wrap_u64, IntKind.wrap_u32, IntKind.wrap_u8, decide_eq_true_eq, decide_eq_false_iff_not, Bool.not_eq_true', Bool.not_eq_false', Bool.not_not, Bool.not_true, Bool.not_false, List.length_cons, List.length_nil, Int.toNat_natCast, UInt8.ofNat_toNat] at *
  all_goals try first | omega | (with_reducible rfl) | (with_reducible exact u8lt _)
  have := fb4 xs at_ bad
  omega
set_option maxRecDepth 100000 in
theorem ru32_p : (FnIs Tryd.prog 27 ∧ FnOk Tryd.prog 27 ru32_s) ∧ (idsOk ru32_s.cs && idsOk ru32_s.cs' && Nat.ble ru32_s.n ru32_s.n') = true :=
  fn_of (l := [(40, rnum_s.call)]) (hi := ru32_h) (S := ru32_s) (fn := Tryd.f27) (c := Tryd.f27.body.get!) tysOk mixOk ⟨.inl rnum_m, trivial⟩ (by kernel_rfl) (by kernel_rfl) (by kernel_rfl) (by kernel_rfl) (by kernel_rfl) ru32_d
theorem ru32_m : May Tryd.prog (27, ru32_s.call) := may_call ru32_p
theorem ru32_n : May Tryd.prog (27, ru32_s.callN) := may_callN ru32_p

@[reducible] def ru64_s : Spec where
  n := 1
  cs := [(0, .own rdr)]
  ar := [.ref 0]
  pre := fun (xs, at_, _, _) => 0 ≤ at_ ∧ at_ ≤ xs.length
  n' := 1
  cs' := [(0, .own rdr)]
  rs := [.el (.int .u64)]
  post := .fn fun (xs, at_, bad, _) => (xs, adv xs at_ bad 8, !rdOk xs at_ bad 8, fb (tk xs at_ bad 8), ())

/-- A digest that is read. -/
def sumv (xs : List UInt8) (at_ : Int) (bad : Bool) : List UInt8 := if rdOk xs at_ bad 32 then (xs.drop at_.toNat).take 32 else List.replicate 32 0
@[reducible] def rsum_s : Spec where
  n := 1
  cs := [(0, .own rdr)]
  ar := [.ref 0]
  pre := fun (xs, at_, _, _) => 0 ≤ at_ ∧ at_ ≤ xs.length
  n' := 1
  cs' := [(0, .own rdr)]
  rs := [.el (.ar 32 .u8)]
  post := .fn fun (xs, at_, bad, _) => (xs, adv xs at_ bad 32, !rdOk xs at_ bad 32, sumv xs at_ bad, ())
@[reducible] def rsum_h : Hints := ⟨[(2, (tks 0 2 (.last 2 false [0] (.last 3 false [] .done))))], [], []⟩
@[reducible] noncomputable def rsum_e : Env := ⟨tys, [(41, take_s.call)]⟩
set_option maxHeartbeats 1000000 in
set_option maxRecDepth 100000 in
theorem rsum_d : denF rsum_e rsum_s rsum_h Tryd.f28 := by
  intro xs at_ bad
  repeat' (first | (conv => whnf); first | refine And.intro ?_ ?_ | refine Is.mk ?_ | (intro h; cases h; done) | (intro _))
  all_goals try dsimp only [maxLen, El.ty] at *
  all_goals try trivial
  all_goals repeat (with_reducible cases ‹_ ∧ _›)
  all_goals try subst_eqs
  all_goals try simp only [IntKind.wrap_i64, IntKind.wrap_u64, IntKind.wrap_u32, IntKind.wrap_u8, decide_eq_true_eq, decide_eq_false_iff_not, Bool.not_eq_true', Bool.not_eq_false', Bool.not_not, Bool.not_true, Bool.not_false, List.length_cons, List.length_nil, Int.toNat_natCast, UInt8.ofNat_toNat] at *
  all_goals try first | omega | (with_reducible rfl) | (with_reducible exact u8lt _)
  unfold sumv
  cases hk : rdOk xs at_ bad 32
  · simp only [tk, hk, Bool.false_eq_true, if_false]
    rfl
  · have hl := tk_len xs at_ bad 32 (by assumption) (by decide) hk
    rw [if_pos rfl, show ((32 : Nat) - 0 : Int).toNat = 32 by decide, show Int.toNat 0 = 0 from rfl, List.take_zero, List.nil_append, List.drop_of_length_le (by rw [List.length_replicate]; omega), List.append_nil, List.take_of_length_le (by omega)]
    unfold tk
    rw [if_pos hk]
    rfl
set_option maxRecDepth 100000 in
theorem rsum_p : (FnIs Tryd.prog 28 ∧ FnOk Tryd.prog 28 rsum_s) ∧ (idsOk rsum_s.cs && idsOk rsum_s.cs' && Nat.ble rsum_s.n rsum_s.n') = true :=
  fn_of (l := [(41, take_s.call)]) (hi := rsum_h) (S := rsum_s) (fn := Tryd.f28) (c := Tryd.f28.body.get!) tysOk mixOk ⟨.inl take_m, trivial⟩ (by kernel_rfl) (by kernel_rfl) (by kernel_rfl) (by kernel_rfl) (by kernel_rfl) rsum_d
theorem rsum_m : May Tryd.prog (28, rsum_s.call) := may_call rsum_p
theorem rsum_n : May Tryd.prog (28, rsum_s.callN) := may_callN rsum_p

@[reducible] def rat_s : Spec where
  n := 1
  cs := [(0, .own rdr)]
  ar := [.ref 0]
  pre := fun _ => True
  n' := 1
  cs' := [(0, .own rdr)]
  rs := [.el (.int .i64)]
  post := .fn fun (xs, at_, bad, _) => (xs, at_, bad, at_, ())

@[reducible] def rbad_s : Spec where
  n := 1
  cs := [(0, .own rdr)]
  ar := [.ref 0]
  pre := fun _ => True
  n' := 1
  cs' := [(0, .own rdr)]
  rs := [.el .bool]
  post := .fn fun (xs, at_, bad, _) => (xs, at_, bad, bad, ())

@[reducible] def rend_s : Spec where
  n := 1
  cs := [(0, .own rdr)]
  ar := [.ref 0]
  pre := fun (xs, at_, _, _) => 0 ≤ at_ ∧ at_ ≤ xs.length
  n' := 1
  cs' := [(0, .own rdr)]
  rs := [.el .bool]
  post := .fn fun (xs, at_, bad, _) => (xs, at_, bad, !bad && decide (at_ = xs.length), ())
@[reducible] def rend_h : Hints := ⟨[(1, (tks 0 5 (.take 5 true (tks 6 11 (.last 17 false [] .done)))))], [], []⟩
@[reducible] noncomputable def rend_e : Env := ⟨tys, []⟩
set_option maxHeartbeats 1000000 in
set_option maxRecDepth 100000 in
theorem rend_d : denF rend_e rend_s rend_h Tryd.f29 := by
  intro xs at_ bad
  repeat' (first | (conv => whnf); first | refine And.intro ?_ ?_ | refine Is.mk ?_ | (intro h; cases h; done) | (intro _))
  all_goals try dsimp only [maxLen, El.ty] at *
  all_goals try trivial
  all_goals repeat (with_reducible cases ‹_ ∧ _›)
  all_goals try subst_eqs
  all_goals try simp only [IntKind.wrap_i64, IntKind.wrap_u64, IntKind.wrap_u32, IntKind.wrap_u8, decide_eq_true_eq, decide_eq_false_iff_not, Bool.not_eq_true', Bool.not_eq_false', Bool.not_not, Bool.not_true, Bool.not_false, List.length_cons, List.length_nil, Int.toNat_natCast, UInt8.ofNat_toNat] at *
  all_goals try first | omega | (with_reducible rfl) | (with_reducible exact u8lt _)
  all_goals (subst_vars; simp)
set_option maxRecDepth 100000 in
theorem rend_p : (FnIs Tryd.prog 29 ∧ FnOk Tryd.prog 29 rend_s) ∧ (idsOk rend_s.cs && idsOk rend_s.cs' && Nat.ble rend_s.n rend_s.n') = true :=
  fn_of (l := []) (hi := rend_h) (S := rend_s) (fn := Tryd.f29) (c := Tryd.f29.body.get!) tysOk mixOk trivial (by kernel_rfl) (by kernel_rfl) (by kernel_rfl) (by kernel_rfl) (by kernel_rfl) rend_d
theorem rend_m : May Tryd.prog (29, rend_s.call) := may_call rend_p
theorem rend_n : May Tryd.prog (29, rend_s.callN) := may_callN rend_p

/-- How many bytes a text has that is read; is it there? -/
def tn (xs : List UInt8) (at_ : Int) (bad : Bool) : Int := fb (tk xs at_ bad 1)
def tOk (xs : List UInt8) (at_ : Int) (bad : Bool) (m : Int) : Bool := rdOk xs at_ bad 1 && decide (tn xs at_ bad ≤ m) && decide (at_ + 1 + tn xs at_ bad ≤ xs.length)
def tv (xs : List UInt8) (at_ : Int) (bad : Bool) (m : Int) : List UInt8 := if tOk xs at_ bad m then (xs.drop (at_ + 1).toNat).take (tn xs at_ bad).toNat else []
def tadv (xs : List UInt8) (at_ : Int) (bad : Bool) (m : Int) : Int := if tOk xs at_ bad m then at_ + 1 + tn xs at_ bad else at_
@[reducible] def rtext_s : Spec where
  n := 1
  cs := [(0, .own rdr)]
  ar := [.ref 0, .el (.int .i64)]
  pre := fun (xs, at_, _, _) => 0 ≤ at_ ∧ at_ ≤ xs.length
  n' := 1
  cs' := [(0, .own rdr)]
  rs := [.el .str]
  post := .fn fun (xs, at_, bad, m, _) => (xs, tadv xs at_ bad m, !tOk xs at_ bad m, tv xs at_ bad m, ())

end Go.J

set_option linter.unusedSimpArgs false
set_option linter.unusedVariables false
set_option linter.unusedSectionVars false
namespace Go.J
open Go.Proofs

theorem be8 (n : Int) (h : 0 ≤ n ∧ n < 18446744073709551616) : be 8 n = be 4 (n / 4294967296 % 4294967296) ++ be 4 (n % 4294967296) := by
  simp only [be, show (256 : Int) ^ 7 = 72057594037927936 by decide, show (256 : Int) ^ 6 = 281474976710656 by decide, show (256 : Int) ^ 5 = 1099511627776 by decide, show (256 : Int) ^ 4 = 4294967296 by decide, show (256 : Int) ^ 3 = 16777216 by decide, show (256 : Int) ^ 2 = 65536 by decide, show (256 : Int) ^ 1 = 256 by decide, show (256 : Int) ^ 0 = 1 by decide, List.cons_append, List.nil_append]
  congr 2
  · omega
  congr 2
  · omega
  congr 2
  · omega
  congr 2
  · omega
  congr 2
  · omega
  congr 2
  · omega
  congr 2
  · omega
  congr 2
  omega

@[reducible] def fu8_s : Spec := { u8_s with }
@[reducible] def fu32_s : Spec := { u32_s with }
@[reducible] def fu32_h : Hints := ⟨[], [], []⟩
@[reducible] noncomputable def fu32_e : Env := ⟨tys, []⟩
set_option maxHeartbeats 1000000 in
set_option maxRecDepth 100000 in
theorem fu32_d : denF fu32_e fu32_s fu32_h Tryd.f46 := by
  intro xs n
  repeat' (first | (conv => whnf); first | refine And.intro ?_ ?_ | refine Is.mk ?_ | (intro h; cases h; done) | (intro _))
  all_goals try dsimp only [maxLen, El.ty] at *
  all_goals try trivial
  all_goals repeat (with_reducible cases ‹_ ∧ _›)
  all_goals try subst_eqs
  all_goals try simp only [IntKind.wrap_i64, IntKind.wrap_u64, IntKind.wrap_u32, IntKind.wrap_u8, decide_eq_true_eq, decide_eq_false_iff_not, Bool.not_eq_true', Bool.not_eq_false', Bool.not_not, Bool.not_true, Bool.not_false, List.length_cons, List.length_nil, Int.toNat_natCast, UInt8.ofNat_toNat] at *
  all_goals try first | omega | (with_reducible rfl) | (with_reducible exact u8lt _)
  all_goals simp only [List.nil_append]
  · omega
  · omega
  · simp only [be, Int.fdiv_eq_ediv_of_nonneg _ (show (0 : Int) ≤ 2 ^ min (Int.toNat 24) IntKind.u32.bits by decide), Int.fdiv_eq_ediv_of_nonneg _ (show (0 : Int) ≤ 2 ^ min (Int.toNat 16) IntKind.u32.bits by decide), Int.fdiv_eq_ediv_of_nonneg _ (show (0 : Int) ≤ 2 ^ min (Int.toNat 8) IntKind.u32.bits by decide), show (256 : Int) ^ 0 = 1 by decide, Int.ediv_one]
    rfl
set_option maxRecDepth 100000 in
theorem fu32_p : (FnIs Tryd.prog 46 ∧ FnOk Tryd.prog 46 fu32_s) ∧ (idsOk fu32_s.cs && idsOk fu32_s.cs' && Nat.ble fu32_s.n fu32_s.n') = true :=
  fn_of (l := []) (hi := fu32_h) (S := fu32_s) (fn := Tryd.f46) (c := Tryd.f46.body.get!) tysOk mixOk trivial (by kernel_rfl) (by kernel_rfl) (by kernel_rfl) (by kernel_rfl) (by kernel_rfl) fu32_d
theorem fu32_m : May Tryd.prog (46, fu32_s.call) := may_call fu32_p
theorem fu32_n : May Tryd.prog (46, fu32_s.callN) := may_callN fu32_p
@[reducible] def fu64_s : Spec := { u64_s with pre := fun (xs, n, _) => xs.length ≤ 100000000000 ∧ 0 ≤ n ∧ n < 18446744073709551616 }
@[reducible] def fu64_h : Hints := ⟨[], [], []⟩
@[reducible] noncomputable def fu64_e : Env := ⟨tys, [(46, fu32_s.call)]⟩
set_option maxHeartbeats 1000000 in
set_option maxRecDepth 100000 in
theorem fu64_d : denF fu64_e fu64_s fu64_h Tryd.f35 := by
  intro xs n
  repeat' (first | (conv => whnf); first | refine And.intro ?_ ?_ | refine Is.mk ?_ | (intro h; cases h; done) | (intro _))
  all_goals try dsimp only [maxLen, El.ty] at *
  all_goals try trivial
  all_goals repeat (with_reducible cases ‹_ ∧ _›)
  all_goals try subst_eqs
  all_goals try simp only [IntKind.wrap_i64, IntKind.wrap_u64, IntKind.wrap_u32, IntKind.wrap_u8, decide_eq_true_eq, decide_eq_false_iff_not, Bool.not_eq_true', Bool.not_eq_false', Bool.not_not, Bool.not_true, Bool.not_false, List.length_cons, List.length_nil, Int.toNat_natCast, UInt8.ofNat_toNat] at *
  all_goals try first | omega | (with_reducible rfl) | (with_reducible exact u8lt _)
  all_goals rw [Int.fdiv_eq_ediv_of_nonneg _ (show (0 : Int) ≤ 2 ^ min (Int.toNat 32) IntKind.u64.bits by decide), show (2 : Int) ^ min (Int.toNat 32) IntKind.u64.bits = 4294967296 by decide]
  · simp only [List.length_append, be_length]
    omega
  · rw [be8]
    · simp only [List.append_assoc]
    · omega
set_option maxRecDepth 100000 in
theorem fu64_p : (FnIs Tryd.prog 35 ∧ FnOk Tryd.prog 35 fu64_s) ∧ (idsOk fu64_s.cs && idsOk fu64_s.cs' && Nat.ble fu64_s.n fu64_s.n') = true :=
  fn_of (l := [(46, fu32_s.call)]) (hi := fu64_h) (S := fu64_s) (fn := Tryd.f35) (c := Tryd.f35.body.get!) tysOk mixOk ⟨.inl fu32_m, trivial⟩ (by kernel_rfl) (by kernel_rfl) (by kernel_rfl) (by kernel_rfl) (by kernel_rfl) fu64_d
theorem fu64_m : May Tryd.prog (35, fu64_s.call) := may_call fu64_p
theorem fu64_n : May Tryd.prog (35, fu64_s.callN) := may_callN fu64_p
@[reducible] def ftext_s : Spec := { text_s with }

end Go.J

set_option linter.unusedSimpArgs false
set_option linter.unusedVariables false
set_option linter.unusedSectionVars false
namespace Go.J
open Go.Proofs

theorem rd_no {xs : List UInt8} {at_ n : Int} (h : ¬ at_ + n ≤ xs.length) : rdOk xs at_ false n = false := by simp [rdOk, h]
theorem rd_yes {xs : List UInt8} {at_ n : Int} (h : at_ + n ≤ xs.length) : rdOk xs at_ false n = true := by simp [rdOk, h]
theorem rd_bad (xs : List UInt8) (at_ n : Int) : rdOk xs at_ true n = false := rfl
theorem tk_yes {xs : List UInt8} {at_ n : Int} (h : at_ + n ≤ xs.length) : tk xs at_ false n = (xs.drop at_.toNat).take (at_ + n - at_).toNat := by
  unfold tk
  rw [if_pos (rd_yes h), show at_ + n - at_ = n by omega]
theorem tk_no {xs : List UInt8} {at_ n : Int} {bad : Bool} (h : rdOk xs at_ bad n = false) : tk xs at_ bad n = [] := by unfold tk; rw [h]; rfl
theorem adv_no {xs : List UInt8} {at_ n : Int} {bad : Bool} (h : rdOk xs at_ bad n = false) : adv xs at_ bad n = at_ := by unfold adv; rw [h]; rfl
theorem adv_yes {xs : List UInt8} {at_ n : Int} {bad : Bool} (h : rdOk xs at_ bad n = true) : adv xs at_ bad n = at_ + n := by unfold adv; rw [h]; rfl

theorem adv_bad (xs : List UInt8) (at_ n : Int) : adv xs at_ true n = at_ := adv_no rfl
theorem tk_bad (xs : List UInt8) (at_ n : Int) : tk xs at_ true n = [] := tk_no rfl
theorem fb_one {l : List UInt8} (h : l.length = 1) : fb l = (l.getD 0 0).toNat := by
  match l, h with
  | [a], _ => simp [fb]
theorem fb_four {l : List UInt8} (h : l.length = 4) : fb l = (l.getD 0 0).toNat * 16777216 + (l.getD 1 0).toNat * 65536 + (l.getD 2 0).toNat * 256 + (l.getD 3 0).toNat := by
  match l, h with
  | [a, b, c, d], _ =>
    simp [fb]
    omega
theorem u32_join (i : Nat) (x y : Int) (hx₀ : 0 ≤ x) (hx : x % 2 ^ i = 0) (hx₁ : x < 4294967296) (hy₀ : 0 ≤ y) (hy : y < 2 ^ i) (hy₁ : y < 4294967296) : bits .or .u32 x y = x + y :=
  bits_join .u32 32 (by decide) (fun n h1 h2 => by rw [IntKind.wrap_u32]; omega) i x y hx₀ hx hx₁ hy₀ hy hy₁
theorem u32_shl (x : UInt8) : ((x.toNat : Int) % 4294967296 * 2 ^ min (Int.toNat 24) IntKind.u32.bits % 4294967296 = x.toNat * 16777216) ∧ ((x.toNat : Int) % 4294967296 * 2 ^ min (Int.toNat 16) IntKind.u32.bits % 4294967296 = x.toNat * 65536) ∧
    ((x.toNat : Int) % 4294967296 * 2 ^ min (Int.toNat 8) IntKind.u32.bits % 4294967296 = x.toNat * 256) := by
  have h : x.toNat < 256 := x.toNat_lt
  rw [show (2 : Int) ^ min (Int.toNat 24) IntKind.u32.bits = 16777216 by decide, show (2 : Int) ^ min (Int.toNat 16) IntKind.u32.bits = 65536 by decide, show (2 : Int) ^ min (Int.toNat 8) IntKind.u32.bits = 256 by decide]
  omega
theorem u32_four (a b c d : UInt8) : bits .or .u32 (bits .or .u32 (bits .or .u32 ((a.toNat : Int) % 4294967296 * 2 ^ min (Int.toNat 24) IntKind.u32.bits % 4294967296) ((b.toNat : Int) % 4294967296 * 2 ^ min (Int.toNat 16) IntKind.u32.bits % 4294967296)) ((c.toNat : Int) % 4294967296 * 2 ^ min (Int.toNat 8) IntKind.u32.bits % 4294967296)) ((d.toNat : Int) % 4294967296) =
    a.toNat * 16777216 + b.toNat * 65536 + c.toNat * 256 + d.toNat := by
  have ha : a.toNat < 256 := a.toNat_lt
  have hb : b.toNat < 256 := b.toNat_lt
  have hc : c.toNat < 256 := c.toNat_lt
  have hd : d.toNat < 256 := d.toNat_lt
  rw [(u32_shl a).1, (u32_shl b).2.1, (u32_shl c).2.2, show (d.toNat : Int) % 4294967296 = d.toNat by omega]
  rw [u32_join 24 (a.toNat * 16777216) (b.toNat * 65536) (by omega) (by omega) (by omega) (by omega) (by omega) (by omega)]
  rw [u32_join 16 _ (c.toNat * 256) (by omega) (by omega) (by omega) (by omega) (by omega) (by omega)]
  rw [u32_join 8 _ _ (by omega) (by omega) (by omega) (by omega) (by omega) (by omega)]

theorem fb_step {l : List UInt8} {i : Int} (h0 : 0 ≤ i) (h1 : i < l.length) (h2 : l.length ≤ 8) : bits .or .u64 (fb (List.take i.toNat l) * 2 ^ min (Int.toNat 8) IntKind.u64.bits % 18446744073709551616) ((l.getD i.toNat 0).toNat % 18446744073709551616) =
    fb (List.take ((i + 1 + 9223372036854775808) % 18446744073709551616 - 9223372036854775808).toNat l) := by
  rw [u64_shl8_or, show ((i + 1 + 9223372036854775808) % 18446744073709551616 - 9223372036854775808).toNat = i.toNat + 1 by omega, take_succ_getD _ _ (by omega), fb_snoc]
  have := fb_lt (List.take i.toNat l)
  have hl : (List.take i.toNat l).length ≤ 7 := by rw [List.length_take]; omega
  have h4 : ((256 ^ (List.take i.toNat l).length : Nat) : Int) = 256 ^ (List.take i.toNat l).length := Int.natCast_pow 256 _
  exact ⟨this.1, Int.lt_of_lt_of_le this.2 (h4 ▸ Int.ofNat_le.2 (Nat.pow_le_pow_right (by decide) hl))⟩


@[reducible] def fru32_s : Spec := { ru32_s with }

@[reducible] def fru64_s : Spec := { ru64_s with }
@[reducible] def fru64_a : Ann where
  nx := 1
  cs := [(0, .own rdr)]
  ss := [(4, .el (.int .u64)), (11, .el (.rd .u8)), (12, .el (.int .i64)), (13, .el (.int .i64))]
  inv := fun (b0, a0, d0, _, l0, k0, _, _) (b, a, d, n, l, k, i, _) => b = b0 ∧ a = a0 ∧ d = d0 ∧ l = l0 ∧ k = k0 ∧ 0 ≤ i ∧ i ≤ l.length ∧ n = fb (l.take i.toNat)
  mu := fun (_, _, _, _, l, _, i, _) => l.length - i.toNat

end Go.J

set_option linter.unusedSimpArgs false
set_option linter.unusedVariables false
set_option linter.unusedSectionVars false
namespace Go.J
open Go.Proofs

@[reducible] def ftk_s : Spec := { take_s with }

theorem set_step (l : List UInt8) (i : Nat) (h : i < l.length) (h2 : l.length ≤ 32) : (l.take i ++ List.replicate (32 - i) 0).set i (l.getD i El.u8.dflt) = l.take (i + 1) ++ List.replicate (32 - (i + 1)) 0 := by
  rw [take_succ_getD l i h, show 32 - i = (32 - (i + 1)) + 1 by omega, List.replicate_succ]
  rw [List.set_append_right _ _ (by rw [List.length_take]; omega), List.length_take, show i - min i l.length = 0 by omega]
  simp only [List.set_cons_zero, List.append_assoc, List.singleton_append]
  rfl

@[reducible] def frsum_s : Spec := { rsum_s with }
@[reducible] def frsum_a : Ann where
  nx := 3
  cs := [(0, .own rdr), (1, .own (.el (.ar 32 .u8))), (2, .own (.el (.ar 32 .u8)))]
  ss := [(2, .ref 1), (3, .ref 2), (7, .el (.rd .u8)), (8, .el (.int .i64)), (9, .el (.int .i64))]
  inv := fun (b0, a0, d0, _, _, l0, k0, _) (b, a, d, _, s, l, k, i, _) => b = b0 ∧ a = a0 ∧ d = d0 ∧ l = l0 ∧ k = k0 ∧ 0 ≤ i ∧ i ≤ l.length ∧ s = l.take i.toNat ++ List.replicate (32 - i.toNat) 0
  mu := fun (_, _, _, _, _, l, _, i, _) => l.length - i.toNat

@[reducible] def frend_s : Spec := { rend_s with }

@[reducible] def frtext_s : Spec := { rtext_s with }

@[reducible] def same_s : Spec where
  n := 0
  cs := []
  ar := [.lend .u8, .lend .u8]
  pre := fun _ => True
  n' := 0
  cs' := []
  rs := [.el .bool]
  post := .fn fun (xs, ys, _) => (decide (xs = ys), ())
@[reducible] def same_a : Ann where
  nx := 0
  cs := []
  ss := [(0, .lend .u8), (1, .lend .u8), (5, .el (.int .i64))]
  inv := fun (x0, y0, _) (x, y, i, _) => x = x0 ∧ y = y0 ∧ 0 ≤ i ∧ i ≤ x.length ∧ x.take i.toNat = y.take i.toNat
  mu := fun (x, _, i, _) => x.length - i.toNat
@[reducible] def same_h : Hints := ⟨[(6, (tks 0 9 .done))], [(4, same_a)], []⟩
@[reducible] noncomputable def same_e : Env := ⟨tys, []⟩
set_option maxHeartbeats 1000000 in
set_option maxRecDepth 100000 in
theorem same_d : denF same_e same_s same_h Tryd.f17 := by
  intro xs ys
  repeat' (first | (conv => whnf); first | refine And.intro ?_ ?_ | refine Is.mk ?_ | (intro h; cases h; done) | (intro _))
  all_goals try dsimp only [maxLen, El.ty] at *
  all_goals try trivial
  all_goals repeat (with_reducible cases ‹_ ∧ _›)
  all_goals try subst_eqs
  all_goals try simp only [IntKind.wrap_i64, IntKind.wrap_u64, IntKind.wrap_u32, IntKind.wrap_u8, decide_eq_true_eq, decide_eq_false_iff_not, Bool.not_eq_true', Bool.not_eq_false', Bool.not_not, Bool.not_true, Bool.not_false, List.length_cons, List.length_nil, Int.toNat_natCast, UInt8.ofNat_toNat] at *
  all_goals try first | omega | (with_reducible rfl) | (with_reducible exact u8lt _)
  · have : xs ≠ ys := fun e => by subst e; omega
    simp [this]
  all_goals rename Int => i
  all_goals rename List.take _ _ = _ => h1
  · have : xs ≠ ys := fun e => by subst e; exact absurd rfl (by assumption)
    simp [this]
  · rw [show ((i + 1 + 9223372036854775808) % 18446744073709551616 - 9223372036854775808).toNat = i.toNat + 1 by omega, take_succ_getD _ _ (by omega), take_succ_getD _ _ (by omega), h1]
    congr 2
    exact UInt8.toNat_inj.1 (Int.ofNat_inj.1 (by assumption))
  · rw [List.take_of_length_le (by omega), List.take_of_length_le (by omega)] at h1
    simp [h1]
set_option maxRecDepth 100000 in
theorem same_p : (FnIs Tryd.prog 17 ∧ FnOk Tryd.prog 17 same_s) ∧ (idsOk same_s.cs && idsOk same_s.cs' && Nat.ble same_s.n same_s.n') = true :=
  fn_of (l := []) (hi := same_h) (S := same_s) (fn := Tryd.f17) (c := Tryd.f17.body.get!) tysOk mixOk trivial (by kernel_rfl) (by kernel_rfl) (by kernel_rfl) (by kernel_rfl) (by kernel_rfl) same_d
theorem same_m : May Tryd.prog (17, same_s.call) := may_call same_p
theorem same_n : May Tryd.prog (17, same_s.callN) := may_callN same_p

@[reducible] def roomy_s : Spec where
  n := 0
  cs := []
  ar := [.lend .u8, .el .u8]
  pre := fun (xs, _) => xs.length ≤ 1000000000000
  n' := 1
  cs' := [(0, .row 5 .u8)]
  rs := [.own 0]
  post := .fn fun (xs, m, _) => (xs ++ List.replicate 80 m, ())
@[reducible] def roomy_a : Ann where
  nx := 1
  cs := [(0, .row 5 .u8)]
  ss := [(0, .lend .u8), (1, .el .u8), (5, .own 0), (6, .el (.int .i64))]
  inv := fun (_, s0, m0, _, _) (x, s, m, i, _) => s = s0 ∧ m = m0 ∧ s.length ≤ i ∧ i ≤ s.length + 80 ∧ x.length = s.length + 80 ∧ x.take i.toNat = s ++ List.replicate (i.toNat - s.length) m
  mu := fun (x, _, _, i, _) => x.length - i.toNat
theorem room_fill (l xs : List UInt8) (i : Nat) (m : UInt8) (h : xs.length ≤ i) (hi : i < l.length) (e : l.take i = xs ++ List.replicate (i - xs.length) m) : (l.set i m).take (i + 1) = xs ++ List.replicate (i + 1 - xs.length) m := by
  rw [take_succ_getD _ _ (by rw [List.length_set]; exact hi), List.take_set_of_le (Nat.le_refl i), e, show i + 1 - xs.length = (i - xs.length) + 1 by omega, List.replicate_succ', List.append_assoc]
  congr 3
  simp [List.getD, hi]
@[reducible] def roomy_h : Hints := ⟨[], [(4, roomy_a)], []⟩
@[reducible] noncomputable def roomy_e : Env := ⟨tys, []⟩
set_option maxHeartbeats 1000000 in
set_option maxRecDepth 100000 in
theorem roomy_d : denF roomy_e roomy_s roomy_h Tryd.f11 := by
  intro xs m
  repeat' (first | (conv => whnf); first | refine And.intro ?_ ?_ | refine Is.mk ?_ | (intro h; cases h; done) | (intro _))
  all_goals try dsimp only [maxLen, El.ty] at *
  all_goals try trivial
  all_goals repeat (with_reducible cases ‹_ ∧ _›)
  all_goals try subst_eqs
  all_goals try simp only [IntKind.wrap_i64, IntKind.wrap_u64, IntKind.wrap_u32, IntKind.wrap_u8, decide_eq_true_eq, decide_eq_false_iff_not, Bool.not_eq_true', Bool.not_eq_false', Bool.not_not, Bool.not_true, Bool.not_false, List.length_cons, List.length_nil, Int.toNat_natCast, UInt8.ofNat_toNat] at *
  all_goals try first | omega | (with_reducible rfl) | (with_reducible exact u8lt _)
  all_goals try (have e : List.take (List.replicate ((↑xs.length + 80 + 9223372036854775808) % 18446744073709551616 - 9223372036854775808 : Int).toNat El.u8.dflt).length xs ++ List.drop xs.length (List.replicate ((↑xs.length + 80 + 9223372036854775808) % 18446744073709551616 - 9223372036854775808 : Int).toNat El.u8.dflt) = xs ++ List.replicate 80 0 := by
                   rw [show ((↑xs.length + 80 + 9223372036854775808) % 18446744073709551616 - 9223372036854775808 : Int).toNat = xs.length + 80 by omega, List.length_replicate, List.take_of_length_le (by omega), List.drop_replicate, show xs.length + 80 - xs.length = 80 by omega]
                   rfl
                 rw [e])
  · rw [List.length_append, List.length_replicate]
  · simp
  all_goals rename Int => i
  · rw [List.length_set]
    assumption
  · rw [show ((i + 1 + 9223372036854775808) % 18446744073709551616 - 9223372036854775808).toNat = i.toNat + 1 by omega]
    exact room_fill _ _ _ _ (by omega) (by omega) (by assumption)
  · rw [List.length_set]
    omega
  · rename List.take _ _ = _ => h
    rw [List.take_of_length_le (by omega)] at h
    rw [h, show i.toNat - xs.length = 80 by omega]
set_option maxRecDepth 100000 in
theorem roomy_p : (FnIs Tryd.prog 11 ∧ FnOk Tryd.prog 11 roomy_s) ∧ (idsOk roomy_s.cs && idsOk roomy_s.cs' && Nat.ble roomy_s.n roomy_s.n') = true :=
  fn_of (l := []) (hi := roomy_h) (S := roomy_s) (fn := Tryd.f11) (c := Tryd.f11.body.get!) tysOk mixOk trivial (by kernel_rfl) (by kernel_rfl) (by kernel_rfl) (by kernel_rfl) (by kernel_rfl) roomy_d
theorem roomy_m : May Tryd.prog (11, roomy_s.call) := may_call roomy_p
theorem roomy_n : May Tryd.prog (11, roomy_s.callN) := may_callN roomy_p

end Go.J

set_option linter.unusedSimpArgs false
set_option linter.unusedVariables false
set_option linter.unusedSectionVars false
namespace Go.J
open Go.Proofs

@[reducible] def intact_s : Spec where
  n := 0
  cs := []
  ar := [.lend .u8, .lend .u8, .el .u8]
  pre := fun (_, ys, _, _) => ys.length ≤ 1000000000000
  n' := 0
  cs' := []
  rs := [.el .bool]
  post := .fn fun (xs, ys, m, _) => (decide (xs = ys ++ List.replicate 80 m), ())
@[reducible] def intact_a : Ann where
  nx := 0
  cs := []
  ss := [(0, .lend .u8), (1, .lend .u8), (2, .el .u8), (7, .el (.int .i64))]
  inv := fun (x0, y0, m0, _) (x, y, m, i, _) => x = x0 ∧ y = y0 ∧ m = m0 ∧ y.length ≤ i ∧ i ≤ x.length ∧ x.take i.toNat = y ++ List.replicate (i.toNat - y.length) m
  mu := fun (x, _, _, i, _) => x.length - i.toNat
@[reducible] def intact_h : Hints := ⟨[], [(4, intact_a)], []⟩
@[reducible] noncomputable def intact_e : Env := ⟨tys, [(17, same_s.call)]⟩
set_option maxHeartbeats 1000000 in
set_option maxRecDepth 100000 in
theorem intact_d : denF intact_e intact_s intact_h Tryd.f13 := by
  intro xs ys m
  repeat' (first | (conv => whnf); first | refine And.intro ?_ ?_ | refine Is.mk ?_ | (intro h; cases h; done) | (intro _))
  all_goals try dsimp only [maxLen, El.ty] at *
  all_goals try trivial
  all_goals repeat (with_reducible cases ‹_ ∧ _›)
  all_goals try subst_eqs
  all_goals try simp only [IntKind.wrap_i64, IntKind.wrap_u64, IntKind.wrap_u32, IntKind.wrap_u8, decide_eq_true_eq, decide_eq_false_iff_not, Bool.not_eq_true', Bool.not_eq_false', Bool.not_not, Bool.not_true, Bool.not_false, List.length_cons, List.length_nil, Int.toNat_natCast, UInt8.ofNat_toNat] at *
  all_goals try first | omega | (with_reducible rfl) | (with_reducible exact u8lt _)
  all_goals try simp only [show (↑ys.length - 0 : Int).toNat = ys.length by omega, show Int.toNat 0 = 0 from rfl, List.drop_zero] at *
  · have : xs ≠ ys ++ List.replicate 80 m := fun e => by
      have := congrArg List.length e
      rw [List.length_append, List.length_replicate] at this
      omega
    exact (decide_eq_false this).symm
  · have : xs ≠ ys ++ List.replicate 80 m := fun e => by
      subst e
      simp at *
    exact (decide_eq_false this).symm
  · rename List.take _ _ = _ => h
    rw [h]
    simp
  all_goals rename Int => i
  all_goals rename List.take (Int.toNat i) _ = _ => h
  · have : xs ≠ ys ++ List.replicate 80 m := fun e => by
      rename ¬ (_ = (m.toNat : Int)) => h2
      apply h2
      rw [e]
      simp only [List.getD, List.getElem?_append_right (show ys.length ≤ i.toNat by omega), List.getElem?_replicate]
      rw [if_pos (by omega)]
      rfl
    exact (decide_eq_false this).symm
  · rename _ = (m.toNat : Int) => h2
    rw [show ((i + 1 + 9223372036854775808) % 18446744073709551616 - 9223372036854775808).toNat = i.toNat + 1 by omega, take_succ_getD _ _ (by omega), h, show i.toNat + 1 - ys.length = (i.toNat - ys.length) + 1 by omega, List.replicate_succ', List.append_assoc]
    congr 3
    exact UInt8.toNat_inj.1 (Int.ofNat_inj.1 h2)
  · rw [List.take_of_length_le (by omega)] at h
    rw [h, show i.toNat - ys.length = 80 by omega]
    simp
set_option maxRecDepth 100000 in
theorem intact_p : (FnIs Tryd.prog 13 ∧ FnOk Tryd.prog 13 intact_s) ∧ (idsOk intact_s.cs && idsOk intact_s.cs' && Nat.ble intact_s.n intact_s.n') = true :=
  fn_of (l := [(17, same_s.call)]) (hi := intact_h) (S := intact_s) (fn := Tryd.f13) (c := Tryd.f13.body.get!) tysOk mixOk ⟨.inl same_m, trivial⟩ (by kernel_rfl) (by kernel_rfl) (by kernel_rfl) (by kernel_rfl) (by kernel_rfl) intact_d
theorem intact_m : May Tryd.prog (13, intact_s.call) := may_call intact_p
theorem intact_n : May Tryd.prog (13, intact_s.callN) := may_callN intact_p

theorem tmod_fix (n m : Int) (h : 0 < m) : (n.tmod m < 0 → n.tmod m + m = n % m) ∧ (¬ n.tmod m < 0 → n.tmod m = n % m) ∧ -m < n.tmod m ∧ n.tmod m < m := by
  have h1 := Int.mul_tdiv_add_tmod n m
  have h2 := Int.tmod_lt_of_pos n h
  have h3 : -m < n.tmod m := by
    have := Int.lt_tmod_of_pos n h
    omega
  have e : n % m = n.tmod m % m := by
    conv => lhs; rw [← h1]
    rw [Int.add_comm, Int.add_mul_emod_self_left]
  refine ⟨fun hn => ?_, fun hn => ?_, h3, h2⟩
  · rw [e, ← Int.add_emod_right, Int.emod_eq_of_lt (by omega) (by omega)]
  · rw [e, Int.emod_eq_of_lt (by omega) (by omega)]

@[reducible] def within_s : Spec where
  n := 0
  cs := []
  ar := [.el (.int .i64), .el (.int .i64), .el (.int .i64)]
  pre := fun (n, lo, hi, _) => -4611686018427387904 ≤ lo ∧ hi ≤ 4611686018427387904 ∧ lo ≤ hi ∧ hi - lo < 4611686018427387904 ∧ -9223372036854775808 ≤ n ∧ n ≤ 9223372036854775807
  n' := 0
  cs' := []
  rs := [.el (.int .i64)]
  post := .fn fun (n, lo, hi, _) => (lo + n % (hi - lo + 1), ())
@[reducible] def within_h : Hints := ⟨[], [], []⟩
@[reducible] noncomputable def within_e : Env := ⟨tys, []⟩
set_option maxHeartbeats 1000000 in
set_option maxRecDepth 100000 in
theorem within_d : denF within_e within_s within_h Tryd.f14 := by
  intro n lo hi
  repeat' (first | (conv => whnf); first | refine And.intro ?_ ?_ | refine Is.mk ?_ | (intro h; cases h; done) | (intro _))
  all_goals try dsimp only [maxLen, El.ty] at *
  all_goals try trivial
  all_goals repeat (with_reducible cases ‹_ ∧ _›)
  all_goals try subst_eqs
  all_goals try simp only [IntKind.wrap_i64, IntKind.wrap_u64, IntKind.wrap_u32, IntKind.wrap_u8, decide_eq_true_eq, decide_eq_false_iff_not, Bool.not_eq_true', Bool.not_eq_false', Bool.not_not, Bool.not_true, Bool.not_false, List.length_cons, List.length_nil, Int.toNat_natCast, UInt8.ofNat_toNat] at *
  all_goals try first | omega | (with_reducible rfl) | (with_reducible exact u8lt _)
  all_goals
    rw [show ((hi - lo + 9223372036854775808) % 18446744073709551616 - 9223372036854775808 + 1 + 9223372036854775808) % 18446744073709551616 - 9223372036854775808 = hi - lo + 1 by omega] at *
    obtain ⟨e1, e2, e3, e4⟩ := tmod_fix n (hi - lo + 1) (by omega)
    omega
set_option maxRecDepth 100000 in
theorem within_p : (FnIs Tryd.prog 14 ∧ FnOk Tryd.prog 14 within_s) ∧ (idsOk within_s.cs && idsOk within_s.cs' && Nat.ble within_s.n within_s.n') = true :=
  fn_of (l := []) (hi := within_h) (S := within_s) (fn := Tryd.f14) (c := Tryd.f14.body.get!) tysOk mixOk trivial (by kernel_rfl) (by kernel_rfl) (by kernel_rfl) (by kernel_rfl) (by kernel_rfl) within_d
theorem within_m : May Tryd.prog (14, within_s.call) := may_call within_p
theorem within_n : May Tryd.prog (14, within_s.callN) := may_callN within_p

@[reducible] def law_s : Spec where
  n := 0
  cs := []
  ar := []
  pre := fun _ => True
  n' := 0
  cs' := []
  rs := [.el .bool]
  post := .fn fun _ => (true, ())
end Go.J

set_option linter.unusedSimpArgs false
set_option linter.unusedVariables false
set_option linter.unusedSectionVars false
namespace Go.J
open Go.Proofs

@[reducible] def wireRuns_s : Spec := { law_s with }
end Go.J

set_option linter.unusedSimpArgs false
set_option linter.unusedVariables false
set_option linter.unusedSectionVars false
namespace Go.J
open Go.Proofs

theorem txt_len (t : List UInt8) : (txt t).length = 1 + min t.length 255 := by simp [txt]; omega
theorem rd_mid (p q r : List UInt8) (n : Int) (hn : (q.length : Int) = n) : rdOk (p ++ (q ++ r)) p.length false n = true := by
  unfold rdOk
  simp only [List.length_append, Bool.not_false, Bool.true_and, decide_eq_true_eq]
  omega
theorem tk_mid (p q r : List UInt8) (n : Int) (hn : (q.length : Int) = n) : tk (p ++ (q ++ r)) p.length false n = q := by
  unfold tk
  rw [if_pos (rd_mid p q r n hn), Int.toNat_natCast, List.drop_left, ← hn, Int.toNat_natCast, List.take_left]
theorem adv_mid (p q r : List UInt8) (n : Int) (hn : (q.length : Int) = n) : adv (p ++ (q ++ r)) p.length false n = (p.length : Int) + n := by
  unfold adv
  rw [if_pos (rd_mid p q r n hn)]
theorem emod_two (n a b : Int) (ha : 0 ≤ a) : n % (a * b) = n % a + a * (n / a % b) := by
  rw [Int.emod_def, Int.emod_def n a, Int.emod_def (n / a) b, show n / a / b = n / (a * b) from Int.ediv_ediv_of_nonneg ha, Int.mul_sub, Int.mul_assoc]
  omega
theorem fb_be : ∀ (k : Nat) (n : Int), 0 ≤ n → n < 256 ^ k → fb (be k n) = n := by
  have gen : ∀ (k : Nat) (n m : Int), 0 ≤ n → (be k n).foldl (fun n c => n * 256 + (c.toNat : Int)) m = m * 256 ^ k + n % 256 ^ k := by
    intro k
    induction k with
    | zero => intro n m _; simp [be]
    | succ k ih =>
      intro n m hn
      rw [be, List.foldl_cons, ih _ _ hn]
      have hb : ((UInt8.ofNat (n / 256 ^ k % 256).toNat).toNat : Int) = n / 256 ^ k % 256 := by
        have h0 : 0 ≤ n / 256 ^ k % 256 := Int.emod_nonneg _ (by decide)
        have h1 : n / 256 ^ k % 256 < 256 := Int.emod_lt_of_pos _ (by decide)
        rw [UInt8.toNat_ofNat_of_lt' (by rw [Int.toNat_lt h0]; exact h1)]
        omega
      rw [hb]
      have e1 : (256 : Int) ^ (k + 1) = 256 ^ k * 256 := Int.pow_succ 256 k
      have e2 : n % (256 ^ k * 256) = n % 256 ^ k + 256 ^ k * (n / 256 ^ k % 256) := emod_two n (256 ^ k) 256 (Int.le_of_lt (Int.pow_pos (by decide)))
      rw [e1, e2, Int.add_mul, Int.mul_assoc, Int.mul_comm (n / 256 ^ k % 256), Int.mul_comm (256 ^ k) 256]
      omega
  intro k n h0 h1
  have := gen k n 0 h0
  rw [Int.zero_mul, Int.zero_add, Int.emod_eq_of_lt h0 h1] at this
  exact this
/-- Where a text lies, it is read. -/
theorem tn_mid (p t r : List UInt8) : tn (p ++ (txt t ++ r)) p.length false = min t.length 255 := by
  unfold tn
  have e : p ++ (txt t ++ r) = p ++ ([UInt8.ofNat (min t.length 255)] ++ (t.take 255 ++ r)) := rfl
  rw [e, tk_mid p [_] _ 1 rfl]
  simp only [fb, List.foldl_cons, List.foldl_nil]
  rw [UInt8.toNat_ofNat_of_lt' (by show min t.length 255 < 256; omega)]
  omega
theorem tOk_mid (p t r : List UInt8) (k : Int) : tOk (p ++ (txt t ++ r)) p.length false k = decide (((min t.length 255 : Nat) : Int) ≤ k) := by
  unfold tOk
  have e : p ++ (txt t ++ r) = p ++ ([UInt8.ofNat (min t.length 255)] ++ (t.take 255 ++ r)) := rfl
  have h1 : rdOk (p ++ (txt t ++ r)) p.length false 1 = true := by rw [e]; exact rd_mid p [_] _ 1 rfl
  have h2 : ((p.length : Int) + 1 + ((min t.length 255 : Nat) : Int) ≤ ((p ++ (txt t ++ r)).length : Int)) := by
    simp only [List.length_append, txt_len]
    omega
  rw [h1, tn_mid]
  simp only [h2, decide_true, Bool.and_true, Bool.true_and]
theorem tv_mid (p t r : List UInt8) (k : Int) (hk : ((min t.length 255 : Nat) : Int) ≤ k) : tv (p ++ (txt t ++ r)) p.length false k = t.take 255 := by
  unfold tv
  rw [tOk_mid, if_pos (by simpa using hk), tn_mid]
  have e : p ++ (txt t ++ r) = (p ++ [UInt8.ofNat (min t.length 255)]) ++ (t.take 255 ++ r) := by simp [txt]
  rw [e, show ((p.length : Int) + 1).toNat = (p ++ [UInt8.ofNat (min t.length 255)]).length by simp, List.drop_left, Int.toNat_natCast]
  rw [show min t.length 255 = (t.take 255).length by rw [List.length_take]; omega, List.take_left]
theorem tadv_mid (p t r : List UInt8) (k : Int) (hk : ((min t.length 255 : Nat) : Int) ≤ k) : tadv (p ++ (txt t ++ r)) p.length false k = (p.length : Int) + 1 + min t.length 255 := by
  unfold tadv
  rw [tOk_mid, if_pos (by simpa using hk), tn_mid]
theorem tOk_txt (t : List UInt8) (k : Int) : tOk (txt t) 0 false k = decide (((min t.length 255 : Nat) : Int) ≤ k) := by simpa using tOk_mid [] t [] k
theorem tv_txt (t : List UInt8) (k : Int) : tv (txt t) 0 false k = if ((min t.length 255 : Nat) : Int) ≤ k then t.take 255 else [] := by
  split
  · next h => simpa using tv_mid [] t [] k h
  · next h => unfold tv; rw [tOk_txt, if_neg (by simpa using h)]
theorem tadv_txt (t : List UInt8) (k : Int) : tadv (txt t) 0 false k = if ((min t.length 255 : Nat) : Int) ≤ k then 1 + ((min t.length 255 : Nat) : Int) else 0 := by
  split
  · next h => simpa using tadv_mid [] t [] k h
  · next h => unfold tadv; rw [tOk_txt, if_neg (by simpa using h)]
theorem if255 (n : Nat) : (if 255 < (n : Int) then 255 else (n : Int)) = ((min n 255 : Nat) : Int) := by split <;> omega

@[reducible] def wireTexts_s : Spec where
  n := 0
  cs := []
  ar := [.el .str, .el (.int .i64)]
  pre := fun (_, m, _) => -9223372036854775808 ≤ m ∧ m ≤ 9223372036854775807
  n' := 0
  cs' := []
  rs := [.el .bool]
  post := .fn fun _ => (true, ())

theorem be_less : ∀ (k : Nat) (a b : Int), Op.bytesLess (be k a) (be k b) = decide (a % 256 ^ k < b % 256 ^ k)
  | 0, a, b => by simp [be, Op.bytesLess, Int.emod_one]
  | k + 1, a, b => by
    have hP : (0 : Int) < 256 ^ k := Int.pow_pos (by decide)
    have a1 : 0 ≤ a / 256 ^ k % 256 := Int.emod_nonneg _ (by decide)
    have a2 : a / 256 ^ k % 256 < 256 := Int.emod_lt_of_pos _ (by decide)
    have b1 : 0 ≤ b / 256 ^ k % 256 := Int.emod_nonneg _ (by decide)
    have b2 : b / 256 ^ k % 256 < 256 := Int.emod_lt_of_pos _ (by decide)
    have a3 : 0 ≤ a % 256 ^ k := Int.emod_nonneg _ (by omega)
    have a4 : a % 256 ^ k < 256 ^ k := Int.emod_lt_of_pos _ hP
    have b3 : 0 ≤ b % 256 ^ k := Int.emod_nonneg _ (by omega)
    have b4 : b % 256 ^ k < 256 ^ k := Int.emod_lt_of_pos _ hP
    simp only [be, Op.bytesLess]
    rw [be_less k a b, show (256 : Int) ^ (k + 1) = 256 ^ k * 256 from Int.pow_succ 256 k, emod_two a _ _ (Int.le_of_lt hP), emod_two b _ _ (Int.le_of_lt hP)]
    generalize a / 256 ^ k % 256 = x at *
    generalize b / 256 ^ k % 256 = y at *
    generalize a % 256 ^ k = ra at *
    generalize b % 256 ^ k = rb at *
    generalize (256 : Int) ^ k = P at *
    have hx : (UInt8.ofNat x.toNat).toNat = x.toNat := UInt8.toNat_ofNat_of_lt' (by show x.toNat < 256; omega)
    have hy : (UInt8.ofNat y.toNat).toNat = y.toNat := UInt8.toNat_ofNat_of_lt' (by show y.toNat < 256; omega)
    have hlt : (UInt8.ofNat x.toNat < UInt8.ofNat y.toNat) ↔ x < y := by rw [UInt8.lt_iff_toNat_lt, hx, hy]; omega
    have heq : (UInt8.ofNat x.toNat = UInt8.ofNat y.toNat) ↔ x = y := by rw [← UInt8.toNat_inj, hx, hy]; omega
    rw [Bool.eq_iff_iff]
    simp only [Bool.or_eq_true, Bool.and_eq_true, decide_eq_true_eq, beq_iff_eq, hlt, heq]
    rcases Int.lt_trichotomy x y with h | h | h
    · have := Int.mul_le_mul_of_nonneg_left (show x + 1 ≤ y by omega) (Int.le_of_lt hP)
      rw [Int.mul_add, Int.mul_one] at this
      constructor
      · intro _; omega
      · intro _; exact .inl h
    · subst h
      constructor
      · rintro (h | ⟨_, h⟩)
        · omega
        · omega
      · intro h; exact .inr ⟨rfl, by omega⟩
    · have := Int.mul_le_mul_of_nonneg_left (show y + 1 ≤ x by omega) (Int.le_of_lt hP)
      rw [Int.mul_add, Int.mul_one] at this
      constructor
      · rintro (h | ⟨h, _⟩) <;> omega
      · intro h; omega

@[reducible] def wireOrder_s : Spec where
  n := 0
  cs := []
  ar := [.el (.int .u32), .el (.int .u32), .el (.int .u64)]
  pre := fun (a, b, c, _) => (0 ≤ a ∧ a < 4294967296) ∧ (0 ≤ b ∧ b < 4294967296) ∧ (0 ≤ c ∧ c < 18446744073709551616)
  n' := 0
  cs' := []
  rs := [.el .bool]
  post := .fn fun _ => (true, ())
end Go.J

set_option linter.unusedSimpArgs false
set_option linter.unusedVariables false
set_option linter.unusedSectionVars false
namespace Go.J
open Go.Proofs

@[reducible] def iE : El := .int .i64
@[reducible] def cmdE : El := .cons iE (.cons iE (.cons iE (.cons iE (.cons iE (.cons iE (.cons iE (.cons iE (.cons iE (.cons iE (.cons iE (.cons iE (.cons iE (.cons iE (.cons (.ar 32 .u8) .nil))))))))))))))

end Go.J

set_option linter.unusedSimpArgs false
set_option linter.unusedVariables false
set_option linter.unusedSectionVars false
namespace Go.J
open Go.Proofs

@[reducible] def u32E : El := .int .u32
def xorW (a b : Int) : Int := bits .xor .u32 a b
def andW (a b : Int) : Int := bits .and .u32 a b
def orW (a b : Int) : Int := bits .or .u32 a b
def addW (a b : Int) : Int := IntKind.u32.wrap (a + b)
def shlW (a : Int) (n : Nat) : Int := a * 2 ^ n % 4294967296
def shrW (a : Int) (n : Nat) : Int := a.fdiv (2 ^ min n IntKind.u32.bits)
def byteW (x : UInt8) : Int := IntKind.u32.wrap x.toNat
def byteL (x : UInt8) (n : Nat) : Int := IntKind.u32.wrap (byteW x * 2 ^ min n IntKind.u32.bits)
/-- A word turned to the right. -/
def rotW (a : Int) (n : Nat) : Int := orW (shlW a (32 - n)) (a.fdiv (2 ^ n))

@[reducible] def sright_s : Spec where
  n := 0
  cs := []
  ar := [.el u32E, .el iE]
  pre := fun (_, n, _) => 1 ≤ n ∧ n ≤ 31
  n' := 0
  cs' := []
  rs := [.el u32E]
  post := .fn fun (x, n, _) => (rotW x n.toNat, ())
@[reducible] noncomputable def rotl_c := inl ⟨tys, []⟩ ⟨[], [], []⟩ Tryd.f55 Tryd.f55.body.get!
theorem rotl_m : May Tryd.prog (55, rotl_c) :=
  may_inl tysOk mixOk trivial (by kernel_rfl) (by kernel_rfl) (by kernel_rfl) (by kernel_rfl)
theorem turn_at : ∀ n : Fin 32, 1 ≤ n.1 → bits .and .u64 (((0 - (n.1 : Int) + 9223372036854775808) % 18446744073709551616 - 9223372036854775808) % 18446744073709551616) 31 = 32 - (n.1 : Int) := by decide
theorem turn_is {n : Int} (h1 : 1 ≤ n) (h2 : n ≤ 31) : bits .and .u64 (((0 - n + 9223372036854775808) % 18446744073709551616 - 9223372036854775808) % 18446744073709551616) 31 = 32 - n := by
  have h := turn_at ⟨n.toNat, by omega⟩ (by show 1 ≤ n.toNat; omega)
  simp only [show ((n.toNat : Nat) : Int) = n by omega] at h
  exact h
@[reducible] def sright_h : Hints := ⟨[], [], []⟩
@[reducible] noncomputable def sright_e : Env := ⟨tys, [(55, rotl_c)]⟩
set_option maxHeartbeats 1000000 in
set_option maxRecDepth 100000 in
theorem sright_d : denF sright_e sright_s sright_h Tryd.f51 := by
  intro x n
  repeat' (first | (conv => whnf); first | refine And.intro ?_ ?_ | refine Is.mk ?_ | (intro h; cases h; done) | (intro _))
  all_goals try dsimp only [maxLen, El.ty] at *
  all_goals try trivial
  all_goals repeat (with_reducible cases ‹_ ∧ _›)
  all_goals try subst_eqs
  all_goals try simp only [IntKind.wrap_i64, IntKind.wrap_u64, IntKind.wrap_u32, IntKind.wrap_u8, decide_eq_true_eq, decide_eq_false_iff_not, Bool.not_eq_true', Bool.not_eq_false', Bool.not_not, Bool.not_true, Bool.not_false, List.length_cons, List.length_nil, Int.toNat_natCast, UInt8.ofNat_toNat] at *
  all_goals try first | omega | (with_reducible rfl) | (with_reducible exact u8lt _)
  all_goals rw [turn_is (by assumption) (by assumption)]
  · omega
  · have e1 : min (32 - n).toNat IntKind.u32.bits = 32 - n.toNat := by show min (32 - n).toNat 32 = _; omega
    have e2 : min ((32 - (32 - n)) % 18446744073709551616).toNat IntKind.u32.bits = n.toNat := by show min _ 32 = _; omega
    rw [e1, e2]
    rfl
set_option maxRecDepth 100000 in
theorem sright_p : (FnIs Tryd.prog 51 ∧ FnOk Tryd.prog 51 sright_s) ∧ (idsOk sright_s.cs && idsOk sright_s.cs' && Nat.ble sright_s.n sright_s.n') = true :=
  fn_of (l := [(55, rotl_c)]) (hi := sright_h) (S := sright_s) (fn := Tryd.f51) (c := Tryd.f51.body.get!) tysOk mixOk ⟨.inl rotl_m, trivial⟩ (by kernel_rfl) (by kernel_rfl) (by kernel_rfl) (by kernel_rfl) (by kernel_rfl) sright_d
theorem sright_m : May Tryd.prog (51, sright_s.call) := may_call sright_p
theorem sright_n : May Tryd.prog (51, sright_s.callN) := may_callN sright_p

def kW : List Int := [0x428a2f98, 0x71374491, 0xb5c0fbcf, 0xe9b5dba5, 0x3956c25b, 0x59f111f1, 0x923f82a4, 0xab1c5ed5, 0xd807aa98, 0x12835b01, 0x243185be, 0x550c7dc3, 0x72be5d74, 0x80deb1fe, 0x9bdc06a7, 0xc19bf174,
  0xe49b69c1, 0xefbe4786, 0x0fc19dc6, 0x240ca1cc, 0x2de92c6f, 0x4a7484aa, 0x5cb0a9dc, 0x76f988da, 0x983e5152, 0xa831c66d, 0xb00327c8, 0xbf597fc7, 0xc6e00bf3, 0xd5a79147, 0x06ca6351, 0x14292967,
  0x27b70a85, 0x2e1b2138, 0x4d2c6dfc, 0x53380d13, 0x650a7354, 0x766a0abb, 0x81c2c92e, 0x92722c85, 0xa2bfe8a1, 0xa81a664b, 0xc24b8b70, 0xc76c51a3, 0xd192e819, 0xd6990624, 0xf40e3585, 0x106aa070,
  0x19a4c116, 0x1e376c08, 0x2748774c, 0x34b0bcb5, 0x391c0cb3, 0x4ed8aa4a, 0x5b9cca4f, 0x682e6ff3, 0x748f82ee, 0x78a5636f, 0x84c87814, 0x8cc70208, 0x90befffa, 0xa4506ceb, 0xbef9a3f7, 0xc67178f2]
def firstW : List Int := [0x6a09e667, 0xbb67ae85, 0x3c6ef372, 0xa54ff53a, 0x510e527f, 0x9b05688c, 0x1f83d9ab, 0x5be0cd19]
@[reducible] def words_s : Spec where
  n := 0
  cs := []
  ar := []
  pre := fun _ => True
  n' := 0
  cs' := []
  rs := [.el (.ar 64 u32E)]
  post := .fn fun _ => (kW, ())
@[reducible] def words_h : Hints := ⟨[], [], []⟩
@[reducible] noncomputable def words_e : Env := ⟨tys, []⟩
set_option maxHeartbeats 1000000 in
set_option maxRecDepth 100000 in
theorem words_d : denF words_e words_s words_h Tryd.f49 := by
  repeat' (first | (conv => whnf); first | refine And.intro ?_ ?_ | refine Is.mk ?_ | (intro h; cases h; done) | (intro _))
  all_goals try dsimp only [maxLen, El.ty] at *
  all_goals try trivial
  all_goals repeat (with_reducible cases ‹_ ∧ _›)
  all_goals try subst_eqs
  all_goals try simp only [IntKind.wrap_i64, IntKind.wrap_u64, IntKind.wrap_u32, IntKind.wrap_u8, decide_eq_true_eq, decide_eq_false_iff_not, Bool.not_eq_true', Bool.not_eq_false', Bool.not_not, Bool.not_true, Bool.not_false, List.length_cons, List.length_nil, Int.toNat_natCast, UInt8.ofNat_toNat] at *
  all_goals try first | omega | (with_reducible rfl) | (with_reducible exact u8lt _)
set_option maxRecDepth 100000 in
theorem words_p : (FnIs Tryd.prog 49 ∧ FnOk Tryd.prog 49 words_s) ∧ (idsOk words_s.cs && idsOk words_s.cs' && Nat.ble words_s.n words_s.n') = true :=
  fn_of (l := []) (hi := words_h) (S := words_s) (fn := Tryd.f49) (c := Tryd.f49.body.get!) tysOk mixOk trivial (by kernel_rfl) (by kernel_rfl) (by kernel_rfl) (by kernel_rfl) (by kernel_rfl) words_d
theorem words_m : May Tryd.prog (49, words_s.call) := may_call words_p
theorem words_n : May Tryd.prog (49, words_s.callN) := may_callN words_p
@[reducible] def first_s : Spec where
  n := 0
  cs := []
  ar := []
  pre := fun _ => True
  n' := 0
  cs' := []
  rs := [.el (.ar 8 u32E)]
  post := .fn fun _ => (firstW, ())
@[reducible] def first_h : Hints := ⟨[], [], []⟩
@[reducible] noncomputable def first_e : Env := ⟨tys, []⟩
set_option maxHeartbeats 1000000 in
set_option maxRecDepth 100000 in
theorem first_d : denF first_e first_s first_h Tryd.f42 := by
  repeat' (first | (conv => whnf); first | refine And.intro ?_ ?_ | refine Is.mk ?_ | (intro h; cases h; done) | (intro _))
  all_goals try dsimp only [maxLen, El.ty] at *
  all_goals try trivial
  all_goals repeat (with_reducible cases ‹_ ∧ _›)
  all_goals try subst_eqs
  all_goals try simp only [IntKind.wrap_i64, IntKind.wrap_u64, IntKind.wrap_u32, IntKind.wrap_u8, decide_eq_true_eq, decide_eq_false_iff_not, Bool.not_eq_true', Bool.not_eq_false', Bool.not_not, Bool.not_true, Bool.not_false, List.length_cons, List.length_nil, Int.toNat_natCast, UInt8.ofNat_toNat] at *
  all_goals try first | omega | (with_reducible rfl) | (with_reducible exact u8lt _)
set_option maxRecDepth 100000 in
theorem first_p : (FnIs Tryd.prog 42 ∧ FnOk Tryd.prog 42 first_s) ∧ (idsOk first_s.cs && idsOk first_s.cs' && Nat.ble first_s.n first_s.n') = true :=
  fn_of (l := []) (hi := first_h) (S := first_s) (fn := Tryd.f42) (c := Tryd.f42.body.get!) tysOk mixOk trivial (by kernel_rfl) (by kernel_rfl) (by kernel_rfl) (by kernel_rfl) (by kernel_rfl) first_d
theorem first_m : May Tryd.prog (42, first_s.call) := may_call first_p
theorem first_n : May Tryd.prog (42, first_s.callN) := may_callN first_p

/-- A block's first words. -/
def word4 (xs : List UInt8) (i : Nat) : Int := orW (orW (orW (byteL (xs.getD (4 * i) 0) 24) (byteL (xs.getD (4 * i + 1) 0) 16)) (byteL (xs.getD (4 * i + 2) 0) 8)) (byteW (xs.getD (4 * i + 3) 0))
def wordW (xs : List UInt8) (w : List Int) (i : Nat) : List Int := w.set i (word4 xs i)
/-- A word that follows. -/
def nextW (w : List Int) (i : Nat) : List Int :=
  w.set i (addW (addW (addW (w.getD (i - 16) 0) (xorW (xorW (rotW (w.getD (i - 15) 0) 7) (rotW (w.getD (i - 15) 0) 18)) (shrW (w.getD (i - 15) 0) 3))) (w.getD (i - 7) 0)) (xorW (xorW (rotW (w.getD (i - 2) 0) 17) (rotW (w.getD (i - 2) 0) 19)) (shrW (w.getD (i - 2) 0) 10)))
def spread0 (xs : List UInt8) (n : Nat) : List Int := (List.range n).foldl (wordW xs) (List.replicate 64 0)
def spread1 (w : List Int) (n : Nat) : List Int := (List.range n).foldl (fun w i => nextW w (16 + i)) w
def spreadW (xs : List UInt8) : List Int := spread1 (spread0 xs 16) 48
theorem spread0_len (xs : List UInt8) : ∀ n, (spread0 xs n).length = 64
  | 0 => by simp [spread0]
  | n + 1 => by
    have := spread0_len xs n
    unfold spread0 at *
    rw [List.range_succ, List.foldl_append, List.foldl_cons, List.foldl_nil, wordW, List.length_set]
    exact this
theorem spread1_len (w : List Int) : ∀ n, (spread1 w n).length = w.length
  | 0 => rfl
  | n + 1 => by
    have := spread1_len w n
    unfold spread1 at *
    rw [List.range_succ, List.foldl_append, List.foldl_cons, List.foldl_nil, nextW, List.length_set]
    exact this
theorem spread0_succ (xs : List UInt8) (n : Nat) : spread0 xs (n + 1) = wordW xs (spread0 xs n) n := by
  unfold spread0
  rw [List.range_succ, List.foldl_append, List.foldl_cons, List.foldl_nil]
theorem spread1_succ (w : List Int) (n : Nat) : spread1 w (n + 1) = nextW (spread1 w n) (16 + n) := by
  unfold spread1
  rw [List.range_succ, List.foldl_append, List.foldl_cons, List.foldl_nil]
@[reducible] def spread_s : Spec where
  n := 0
  cs := []
  ar := [.lend .u8]
  pre := fun (xs, _) => xs.length = 64
  n' := 0
  cs' := []
  rs := [.el (.ar 64 u32E)]
  post := .fn fun (xs, _) => (spreadW xs, ())
@[reducible] def spread_a : Ann where
  nx := 2
  cs := [(0, .own (.el (.ar 64 u32E))), (1, .own (.el (.ar 64 u32E)))]
  ss := [(0, .lend .u8), (2, .ref 0), (3, .ref 1), (8, .el iE)]
  inv := fun (_, _, xs0, _, _) (r, w, xs, i, _) => xs = xs0 ∧ 0 ≤ i ∧ i ≤ 16 ∧ w = spread0 xs0 i.toNat
  mu := fun (_, _, _, i, _) => (16 - i).toNat
@[reducible] def spread_b : Ann where
  nx := 2
  cs := [(0, .own (.el (.ar 64 u32E))), (1, .own (.el (.ar 64 u32E)))]
  ss := [(2, .ref 0), (3, .ref 1), (5, .el iE)]
  inv := fun (_, w0, _, _) (r, w, i, _) => 16 ≤ i ∧ i ≤ 64 ∧ w = spread1 w0 (i.toNat - 16)
  mu := fun (_, _, i, _) => (64 - i).toNat
@[reducible] def spread_h : Hints := ⟨[(5, (tks 0 35 (.last 35 false [] .done))), (10, (tks 0 8 (.last 8 false [6, 7] (.last 9 false [] .done)))), (11, (tks 0 6 (.take 7 false (tks 10 2 (tks 14 4 (.take 19 false (.take 21 false (tks 24 2 (.last 6 false [3, 4, 16, 17] (.last 8 false [3, 4, 16, 17] (.take 9 false (tks 12 2 (.take 18 false (.last 20 false [3, 4, 16, 17] (.last 22 false [3, 4, 16, 17] (.take 23 false (tks 26 3 (.last 29 false [] .done))))))))))))))))))], [(3, spread_a), (8, spread_b)], []⟩
@[reducible] noncomputable def spread_e : Env := ⟨tys, [(51, sright_s.call)]⟩
set_option maxHeartbeats 1000000 in
set_option maxRecDepth 100000 in
theorem spread_d : denF spread_e spread_s spread_h Tryd.f50 := by
  intro xs
  repeat' (first | (conv => whnf); first | done | exact True.intro | refine And.intro ?_ ?_ | refine Is.mk ?_ | (intro h; cases h; done) | (intro _))
  all_goals try dsimp only [maxLen, El.ty, El.dflt, spread_a, spread_b, spread_s] at *
  all_goals repeat (with_reducible cases ‹_ ∧ _›)
  all_goals try subst_vars
  all_goals try simp only [IntKind.wrap_i64, decide_eq_true_eq, decide_eq_false_iff_not] at *
  all_goals try omega
  all_goals try (simp only [spread0_len, spread1_len]; omega)
  · rfl
  · rename Int => i
    have e0 : ((4 * i + 9223372036854775808) % 18446744073709551616 - 9223372036854775808).toNat = 4 * i.toNat := by omega
    have e1 : ((4 * i + 9223372036854775808) % 18446744073709551616 - 9223372036854775808 + 1 + 9223372036854775808) % 18446744073709551616 - 9223372036854775808 = 4 * i + 1 := by omega
    have e2 : ((4 * i + 9223372036854775808) % 18446744073709551616 - 9223372036854775808 + 2 + 9223372036854775808) % 18446744073709551616 - 9223372036854775808 = 4 * i + 2 := by omega
    have e3 : ((4 * i + 9223372036854775808) % 18446744073709551616 - 9223372036854775808 + 3 + 9223372036854775808) % 18446744073709551616 - 9223372036854775808 = 4 * i + 3 := by omega
    rw [e0, e1, e2, e3, show ((i + 1 + 9223372036854775808) % 18446744073709551616 - 9223372036854775808).toNat = i.toNat + 1 by omega, spread0_succ, show (4 * i + 1).toNat = 4 * i.toNat + 1 by omega, show (4 * i + 2).toNat = 4 * i.toNat + 2 by omega, show (4 * i + 3).toNat = 4 * i.toNat + 3 by omega]
    rfl
  · rfl
  · rename Int => i
    have e0 : ((i + 1 + 9223372036854775808) % 18446744073709551616 - 9223372036854775808).toNat - 16 = (i.toNat - 16) + 1 := by omega
    have e1 : ((i - 16 + 9223372036854775808) % 18446744073709551616 - 9223372036854775808).toNat = i.toNat - 16 := by omega
    have e2 : ((i - 15 + 9223372036854775808) % 18446744073709551616 - 9223372036854775808).toNat = i.toNat - 15 := by omega
    have e3 : ((i - 7 + 9223372036854775808) % 18446744073709551616 - 9223372036854775808).toNat = i.toNat - 7 := by omega
    have e4 : ((i - 2 + 9223372036854775808) % 18446744073709551616 - 9223372036854775808).toNat = i.toNat - 2 := by omega
    rw [e0, e1, e2, e3, e4, spread1_succ, show 16 + (i.toNat - 16) = i.toNat by omega]
    generalize spread1 _ (i.toNat - 16) = w
    rfl
  · unfold spreadW
    congr 1
    · congr 1; omega
    · omega
set_option maxRecDepth 100000 in
theorem spread_p : (FnIs Tryd.prog 50 ∧ FnOk Tryd.prog 50 spread_s) ∧ (idsOk spread_s.cs && idsOk spread_s.cs' && Nat.ble spread_s.n spread_s.n') = true :=
  fn_of (l := [(51, sright_s.call)]) (hi := spread_h) (S := spread_s) (fn := Tryd.f50) (c := Tryd.f50.body.get!) tysOk mixOk ⟨.inl sright_m, trivial⟩ (by kernel_rfl) (by kernel_rfl) (by kernel_rfl) (by kernel_rfl) (by kernel_rfl) spread_d
theorem spread_m : May Tryd.prog (50, spread_s.call) := may_call spread_p
theorem spread_n : May Tryd.prog (50, spread_s.callN) := may_callN spread_p
end Go.J

set_option linter.unusedSimpArgs false
set_option linter.unusedVariables false
set_option linter.unusedSectionVars false
namespace Go.J
open Go.Proofs

def notW (a : Int) : Int := bits .xor .u32 (if IntKind.u32.signed = true then -1 else IntKind.u32.max) a
def roundX (k w t : List Int) (i : Nat) : Int :=
  addW (addW (addW (addW (t.getD 7 0) (xorW (xorW (rotW (t.getD 4 0) 6) (rotW (t.getD 4 0) 11)) (rotW (t.getD 4 0) 25))) (xorW (andW (t.getD 4 0) (t.getD 5 0)) (andW (notW (t.getD 4 0)) (t.getD 6 0)))) (k.getD i 0)) (w.getD i 0)
def roundY (t : List Int) : Int :=
  addW (xorW (xorW (rotW (t.getD 0 0) 2) (rotW (t.getD 0 0) 13)) (rotW (t.getD 0 0) 22)) (xorW (xorW (andW (t.getD 0 0) (t.getD 1 0)) (andW (t.getD 0 0) (t.getD 2 0))) (andW (t.getD 1 0) (t.getD 2 0)))
def roundW (k w t : List Int) (i : Nat) : List Int :=
  [addW (roundX k w t i) (roundY t), t.getD 0 0, t.getD 1 0, t.getD 2 0, addW (t.getD 3 0) (roundX k w t i), t.getD 4 0, t.getD 5 0, t.getD 6 0]
def rounds (k w t : List Int) (n : Nat) : List Int := (List.range n).foldl (roundW k w) t
def sumW (t s : List Int) (i : Nat) : List Int := s.set i (addW (s.getD i 0) (t.getD i 0))
def sums (t s : List Int) (n : Nat) : List Int := (List.range n).foldl (sumW t) s
def mixW (s k : List Int) (xs : List UInt8) : List Int := sums (rounds k (spreadW xs) s 64) s 8
theorem rounds_succ (k w t : List Int) (n : Nat) : rounds k w t (n + 1) = roundW k w (rounds k w t n) n := by
  unfold rounds
  rw [List.range_succ, List.foldl_append, List.foldl_cons, List.foldl_nil]
theorem rounds_len (k w t : List Int) (h : t.length = 8) : ∀ n, (rounds k w t n).length = 8
  | 0 => h
  | n + 1 => by rw [rounds_succ]; rfl
theorem sums_succ (t s : List Int) (n : Nat) : sums t s (n + 1) = sumW t (sums t s n) n := by
  unfold sums
  rw [List.range_succ, List.foldl_append, List.foldl_cons, List.foldl_nil]
theorem sums_len (t s : List Int) : ∀ n, (sums t s n).length = s.length
  | 0 => rfl
  | n + 1 => by rw [sums_succ, sumW, List.length_set]; exact sums_len t s n
theorem spreadW_len (xs : List UInt8) : (spreadW xs).length = 64 := by rw [spreadW, spread1_len, spread0_len]
theorem mixW_len {s k : List Int} {xs : List UInt8} (h : s.length = 8) : (mixW s k xs).length = 8 := by rw [mixW, sums_len, h]

@[reducible] def a8 : El := .ar 8 u32E
@[reducible] def a64 : El := .ar 64 u32E
@[reducible] def mixed_s : Spec where
  n := 0
  cs := []
  ar := [.el a8, .rp a64, .lend .u8]
  pre := fun (s, k, xs, _) => s.length = 8 ∧ k.length = 64 ∧ xs.length = 64
  n' := 0
  cs' := []
  rs := [.el a8]
  post := .fn fun (s, k, xs, _) => (mixW s k xs, ())
@[reducible] def mixed_a : Ann where
  nx := 4
  cs := [(0, .own (.el a8)), (1, .own (.el a8)), (2, .own (.el a64)), (3, .own (.el a8))]
  ss := [(1, .rp a64), (3, .ref 0), (6, .ref 1), (7, .ref 2), (8, .ref 3), (18, .el iE)]
  inv := fun (s0, _, w0, t0, k0, _) (s, r, w, t, k, i, _) => s = s0 ∧ w = w0 ∧ k = k0 ∧ 0 ≤ i ∧ i ≤ 64 ∧ t = rounds k0 w0 t0 i.toNat
  mu := fun (_, _, _, _, _, i, _) => (64 - i).toNat
@[reducible] def mixed_b : Ann where
  nx := 4
  cs := [(0, .own (.el a8)), (1, .own (.el a8)), (3, .own (.el a8))]
  ss := [(3, .ref 0), (6, .ref 1), (8, .ref 3), (100, .el iE)]
  inv := fun (s0, _, t0, _) (s, r, t, i, _) => t = t0 ∧ 0 ≤ i ∧ i ≤ 8 ∧ s = sums t0 s0 i.toNat
  mu := fun (_, _, _, i, _) => (8 - i).toNat
@[reducible] def mixed_h : Hints := ⟨[(6, (tks 0 4 (.last 4 false [2, 3] (.last 5 false [] .done)))), (7, (tks 0 3 (.take 4 false (.take 7 false (tks 11 10 (tks 22 5 (tks 28 3 (.last 3 false [0, 1, 12, 13, 17, 18, 25, 26, 29, 30] (.last 5 false [0, 1, 12, 13, 17, 18, 25, 26, 29, 30] (.take 6 false (.last 8 false [0, 1, 12, 13, 17, 18, 25, 26, 29, 30] (tks 9 2 (.take 21 false (.take 27 false (.take 31 false (.last 32 false [] .done)))))))))))))))), (8, (.take 0 false (.take 2 false (.take 5 false (tks 8 15 (.last 1 false [9, 10, 13, 14, 17, 18, 19, 20] (.last 3 false [9, 10, 13, 14, 17, 18, 19, 20] (.take 4 false (.last 6 false [9, 10, 13, 14, 17, 18, 19, 20] (.take 7 false (.take 23 false (.last 24 false [] .done)))))))))))), (14, (tks 0 8 (.last 8 false [] .done)))], [(4, mixed_a), (12, mixed_b)], []⟩
@[reducible] noncomputable def mixed_e : Env := ⟨tys, [(50, spread_s.call), (51, sright_s.call)]⟩
set_option maxHeartbeats 1000000 in
set_option maxRecDepth 100000 in
theorem mixed_d : denF mixed_e mixed_s mixed_h Tryd.f44 := by
  intro s k xs
  repeat' (first | (conv => whnf); first | done | exact True.intro | refine And.intro ?_ ?_ | refine Is.mk ?_ | (intro h; cases h; done) | (intro _))
  all_goals try dsimp only [maxLen, El.ty, El.dflt, mixed_a, mixed_b, mixed_s, spread_s, sright_s] at *
  all_goals repeat (with_reducible cases ‹_ ∧ _›)
  all_goals try subst_vars
  all_goals try simp only [IntKind.wrap_i64, decide_eq_true_eq, decide_eq_false_iff_not] at *
  all_goals try omega
  all_goals try simp only [List.getD_cons_zero] at *
  all_goals try first
    | (rw [rounds_len _ _ _ (by assumption)]; first | omega | decide)
    | (rw [sums_len]; omega)
    | (rw [spreadW_len]; omega)
    | omega
  all_goals try (with_reducible rfl)
  · rfl
  · rename Int => i
    rw [show ((i + 1 + 9223372036854775808) % 18446744073709551616 - 9223372036854775808).toNat = i.toNat + 1 by omega, rounds_succ]
    generalize rounds _ _ _ i.toNat = t
    rfl
  · rfl
  · rename Int => i
    rw [show ((i + 1 + 9223372036854775808) % 18446744073709551616 - 9223372036854775808).toNat = i.toNat + 1 by omega, sums_succ]
    rfl
  · unfold mixW
    congr 1
    · congr 1; omega
    · omega
set_option maxRecDepth 100000 in
theorem mixed_p : (FnIs Tryd.prog 44 ∧ FnOk Tryd.prog 44 mixed_s) ∧ (idsOk mixed_s.cs && idsOk mixed_s.cs' && Nat.ble mixed_s.n mixed_s.n') = true :=
  fn_of (l := [(50, spread_s.call), (51, sright_s.call)]) (hi := mixed_h) (S := mixed_s) (fn := Tryd.f44) (c := Tryd.f44.body.get!) tysOk mixOk ⟨.inl spread_m, .inl sright_m, trivial⟩ (by kernel_rfl) (by kernel_rfl) (by kernel_rfl) (by kernel_rfl) (by kernel_rfl) mixed_d
theorem mixed_m : May Tryd.prog (44, mixed_s.call) := may_call mixed_p
theorem mixed_n : May Tryd.prog (44, mixed_s.callN) := may_callN mixed_p
end Go.J

set_option linter.unusedSimpArgs false
set_option linter.unusedVariables false
set_option linter.unusedSectionVars false

namespace Go.J

section
variable {w0 : World} {F0 : Base} {G : Cx} {hp : Hp} {nx : Nat}

/-- What a pointer points at, if that is one cell. -/
theorem ptr_get (hm : Mdl w0 F0 G hp nx) {r : Nat} {p : List Stp} {c : Chunk} (hc : (r, c) ∈ hp) {v : Value} (hv : vOk G (.ptr r p) v) {kk : T → Prop} (h : tgetK p c.tree kk) :
    ∃ x b, kk x ∧ G.rho r = some b ∧ b.nil = false ∧ v = .pointer (some ⟨b.blk, poff p, none⟩) ∧ ∀ y, x = .v y → ∃ u, G.w.cell? ⟨b.blk, poff p, none⟩ = some u ∧ vOk G y u := by
  obtain ⟨x', h4, hx⟩ := tgetK_out h
  obtain ⟨b, hr, hck⟩ := hm.chunk r c hc
  obtain ⟨b', k1, k2, k3⟩ := hv
  obtain rfl : b = b' := Option.some.inj (hr.symm.trans k1)
  obtain ⟨cs, hcs, hat⟩ := tree_cells hck
  obtain ⟨m1, m2⟩ := hx G cs hcs
  refine ⟨x', b, h4, hr, k2, k3, fun y hy => ?_⟩
  subst hy
  obtain ⟨u, e1, _, e3⟩ := m1
  have hne : cs ≠ [] := by
    rintro rfl
    simp at e1
  have h5 := ((hat hne).2.drop (poff p) 1)
  rw [Nat.zero_add] at h5
  refine ⟨u, ?_, e3⟩
  have := h5 0 u (by rw [show T.size (.v y) = 1 from rfl] at e1; rw [e1]; rfl)
  simpa using this
theorem ptr_at (hm : Mdl w0 F0 G hp nx) {r : Nat} {p : List Stp} {c : Chunk} (hc : (r, c) ∈ hp) {b : B} (hr : G.rho r = some b) (hb : b.nil = false) {kk : T → Prop} (h : tgetK p c.tree kk) :
    ∃ x, kk x ∧ ∀ y, x = .v y → ∃ u, G.w.cell? ⟨b.blk, poff p, none⟩ = some u ∧ vOk G y u := by
  obtain ⟨x, b', h1, h2, _, h3, h4⟩ := ptr_get hm hc (v := .pointer (some ⟨b.blk, poff p, none⟩)) ⟨b, hr, hb, rfl⟩ h
  obtain rfl : b = b' := Option.some.inj (hr.symm.trans h2)
  exact ⟨x, h1, h4⟩
/-- A cell that a pointer points at is written. -/
theorem ptr_set (hm : Mdl w0 F0 G hp nx) {r : Nat} {p : List Stp} {t : T} (hc : (r, .own t) ∈ hp) {b : B} (hr : G.rho r = some b) (hb : b.nil = false) {y : V} {u : Value} (hu : vOk G y u) (h1 : one u) {kk : Hp → Prop}
    (h : tsetK p t (.v y) hp fun t => updK hp r (.own t) kk) :
    ∃ hp', kk hp' ∧ Ext G ⟨G.rho, G.im, G.w.setCell ⟨b.blk, poff p, none⟩ u⟩ ∧ Mdl w0 F0 ⟨G.rho, G.im, G.w.setCell ⟨b.blk, poff p, none⟩ u⟩ hp' nx ∧ G.w.frozen? ⟨b.blk, poff p, none⟩ = false := by
  obtain ⟨t', h5, hs', hset⟩ := tsetK_out h
  obtain ⟨l1, c0, l2, rfl, h6⟩ := updK_out h5
  obtain rfl : c0 = .own t := same_chunk hm mem_mid hc
  obtain ⟨b', hr', hck⟩ := hm.chunk r _ hc
  obtain rfl : b = b' := Option.some.inj (hr.symm.trans hr')
  obtain ⟨_, cs, ty, hbl, hcs⟩ := hck
  have hcz : tCells G (.v y) [u] := ⟨u, rfl, h1, hu⟩
  obtain ⟨m1, m2⟩ := hset G cs _ hcs hcz
  have e : G.w.setCells b.blk (poff p) [u] = G.w.setCell ⟨b.blk, poff p, none⟩ u := rfl
  obtain ⟨r1, r2, r3⟩ := setCells_rest (g := b.blk) [u] (o := poff p) (w := G.w)
  rw [← e]
  obtain ⟨hx, hm'⟩ := hm.write (c := .own t') hr rfl hb r1 r2 r3 (setCells_size _) (fun k hk => setCells_other _ hk)
    (fun hx => ⟨hb, _, ty, setCells_heap _ hbl m1, hx.tCells m2⟩) rfl
  exact ⟨_, h6, hx, hm', by simp [World.frozen?, hbl]⟩
end

variable {P : Program}
/-- sync/atomic's Load. -/
noncomputable def gLoad (ik : IntKind) (args : List T) (hp : Hp) (nx : Nat) (k : T → Hp → Nat → Prop) : Prop :=
  match args with
  | [.v (.ptr r p)] => lookK hp r fun c => tgetK p c.tree fun
    | .v (.int jk n) => match jk == ik with
      | true => k (.v (.int ik n)) hp nx
      | false => False
    | _ => False
  | _ => False
theorem xLoad {f : FuncId} {fn : Func} {ik : IntKind} (hf : P.funcs[f]? = some fn) (hname : (fn.name == "runtime.NumGoroutine") = false) (hb : fn.body.isNone = true) (hn : Extern.findNext fn = none)
    (he : Extern.find fn = some (Extern.Atomic.loadT (.int ik))) : MayX P (f, gLoad ik) := by
  intro w0 F0 G hp nx args vs k hm hv h
  have h : gLoad ik args hp nx k := h
  unfold gLoad at h
  split at h
  · next r p =>
    obtain ⟨c, hc, h1⟩ := lookK_out h
    match vs, hv with
    | [], hv => have := hv.1; simp at this
    | v :: vs, hv =>
      obtain ⟨hv1, hv2⟩ := frOk_cons.1 hv
      have hvs : vs = [] := by have := hv2.1; simp at this; exact List.eq_nil_of_length_eq_zero this.symm
      subst hvs
      obtain ⟨x, b, h2, hr, hnl, rfl, hg⟩ := ptr_get hm hc hv1 h1
      split at h2
      · next jk n =>
        split at h2
        · next hj =>
          obtain rfl : jk = ik := by simpa using hj
          obtain ⟨u, hu, hvu⟩ := hg _ rfl
          obtain rfl : u = .int jk n := hvu
          exact ⟨.int jk n, G, .v (.int jk n), hp, nx, run_call_load hf hname hb hn jk he hu, Ext.refl G, hm, rfl, h2⟩
        · exact h2.elim
      · exact h2.elim
  · exact h.elim
end Go.J

