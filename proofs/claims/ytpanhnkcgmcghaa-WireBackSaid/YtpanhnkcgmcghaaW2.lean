/-
  WIRE: the writers; the reader; the document's own.
-/
import Derived.Test.YtpanhnkcgmcghaaW1
import Derived.Laws.BitsLemmas
set_option linter.unusedSimpArgs false
set_option linter.unusedVariables false
set_option linter.unusedSectionVars false
namespace Go.J
open Go.Proofs

@[reducible] def u8_s : Spec where
  n := 0
  cs := []
  ar := [.lend .u8, .el (.int .i64)]
  pre := fun (xs, n, _) => xs.length ≤ 1000000000000 ∧ -9223372036854775808 ≤ n ∧ n ≤ 9223372036854775807
  n' := 1
  cs' := [(0, .row 5 .u8)]
  rs := [.own 0]
  post := .fn fun (xs, n, _) => (xs ++ be 1 (n % 18446744073709551616), ())
set_option maxHeartbeats 1000000 in
set_option maxRecDepth 100000 in
theorem u8_d : denF ⟨tys, [(54, number_s.call)]⟩ u8_s ⟨[], []⟩ Try.f26 := by
  intro xs n
  repeat' first | refine Is.mk ?_ | refine And.intro ?_ ?_ | (intro _)
  all_goals try dsimp only [maxLen, El.ty] at *
  all_goals try trivial
  all_goals repeat (with_reducible cases ‹_ ∧ _›)
  all_goals try subst_eqs
  all_goals try simp only [IntKind.wrap_i64, IntKind.wrap_u64, IntKind.wrap_u32, IntKind.wrap_u8, decide_eq_true_eq, decide_eq_false_iff_not, Bool.not_eq_true', Bool.not_eq_false', Bool.not_not, Bool.not_true, Bool.not_false, List.length_cons, List.length_nil, Int.toNat_natCast, UInt8.ofNat_toNat] at *
  all_goals try first | omega | (with_reducible rfl) | (with_reducible exact u8lt _)
theorem u8_p : (FnIs Try.prog 26 ∧ FnOk Try.prog 26 u8_s) ∧ (idsOk u8_s.cs && idsOk u8_s.cs' && Nat.ble u8_s.n u8_s.n') = true :=
  fn_of (l := [(54, number_s.call)]) (hi := ⟨[], []⟩) (S := u8_s) (fn := Try.f26) (c := Try.f26.body.get!) tysOk mixOk ⟨number_m, trivial⟩ (by kernel_rfl) (by kernel_rfl) (by kernel_rfl) (by kernel_rfl) (by kernel_rfl) u8_d
theorem u8_m : May Try.prog (26, u8_s.call) := may_call u8_p
theorem u8_n : May Try.prog (26, u8_s.callN) := may_callN u8_p

@[reducible] def u32_s : Spec where
  n := 0
  cs := []
  ar := [.lend .u8, .el (.int .u32)]
  pre := fun (xs, n, _) => xs.length ≤ 1000000000000 ∧ 0 ≤ n ∧ n < 4294967296
  n' := 1
  cs' := [(0, .row 5 .u8)]
  rs := [.own 0]
  post := .fn fun (xs, n, _) => (xs ++ be 4 n, ())
set_option maxHeartbeats 1000000 in
set_option maxRecDepth 100000 in
theorem u32_d : denF ⟨tys, [(54, number_s.call)]⟩ u32_s ⟨[], []⟩ Try.f20 := by
  intro xs n
  repeat' first | refine Is.mk ?_ | refine And.intro ?_ ?_ | (intro _)
  all_goals try dsimp only [maxLen, El.ty] at *
  all_goals try trivial
  all_goals repeat (with_reducible cases ‹_ ∧ _›)
  all_goals try subst_eqs
  all_goals try simp only [IntKind.wrap_i64, IntKind.wrap_u64, IntKind.wrap_u32, IntKind.wrap_u8, decide_eq_true_eq, decide_eq_false_iff_not, Bool.not_eq_true', Bool.not_eq_false', Bool.not_not, Bool.not_true, Bool.not_false, List.length_cons, List.length_nil, Int.toNat_natCast, UInt8.ofNat_toNat] at *
  all_goals try first | omega | (with_reducible rfl) | (with_reducible exact u8lt _)
  rename_i h _
  rw [show n % 18446744073709551616 = n by omega]
  rfl
theorem u32_p : (FnIs Try.prog 20 ∧ FnOk Try.prog 20 u32_s) ∧ (idsOk u32_s.cs && idsOk u32_s.cs' && Nat.ble u32_s.n u32_s.n') = true :=
  fn_of (l := [(54, number_s.call)]) (hi := ⟨[], []⟩) (S := u32_s) (fn := Try.f20) (c := Try.f20.body.get!) tysOk mixOk ⟨number_m, trivial⟩ (by kernel_rfl) (by kernel_rfl) (by kernel_rfl) (by kernel_rfl) (by kernel_rfl) u32_d
theorem u32_m : May Try.prog (20, u32_s.call) := may_call u32_p
theorem u32_n : May Try.prog (20, u32_s.callN) := may_callN u32_p

@[reducible] def u64_s : Spec where
  n := 0
  cs := []
  ar := [.lend .u8, .el (.int .u64)]
  pre := fun (xs, n, _) => xs.length ≤ 1000000000000 ∧ 0 ≤ n ∧ n < 18446744073709551616
  n' := 1
  cs' := [(0, .row 5 .u8)]
  rs := [.own 0]
  post := .fn fun (xs, n, _) => (xs ++ be 8 n, ())
set_option maxHeartbeats 1000000 in
set_option maxRecDepth 100000 in
theorem u64_d : denF ⟨tys, [(54, number_s.call)]⟩ u64_s ⟨[], []⟩ Try.f29 := by
  intro xs n
  repeat' first | refine Is.mk ?_ | refine And.intro ?_ ?_ | (intro _)
  all_goals try dsimp only [maxLen, El.ty] at *
  all_goals try trivial
  all_goals repeat (with_reducible cases ‹_ ∧ _›)
  all_goals try subst_eqs
  all_goals try simp only [IntKind.wrap_i64, IntKind.wrap_u64, IntKind.wrap_u32, IntKind.wrap_u8, decide_eq_true_eq, decide_eq_false_iff_not, Bool.not_eq_true', Bool.not_eq_false', Bool.not_not, Bool.not_true, Bool.not_false, List.length_cons, List.length_nil, Int.toNat_natCast, UInt8.ofNat_toNat] at *
  all_goals try first | omega | (with_reducible rfl) | (with_reducible exact u8lt _)
theorem u64_p : (FnIs Try.prog 29 ∧ FnOk Try.prog 29 u64_s) ∧ (idsOk u64_s.cs && idsOk u64_s.cs' && Nat.ble u64_s.n u64_s.n') = true :=
  fn_of (l := [(54, number_s.call)]) (hi := ⟨[], []⟩) (S := u64_s) (fn := Try.f29) (c := Try.f29.body.get!) tysOk mixOk ⟨number_m, trivial⟩ (by kernel_rfl) (by kernel_rfl) (by kernel_rfl) (by kernel_rfl) (by kernel_rfl) u64_d
theorem u64_m : May Try.prog (29, u64_s.call) := may_call u64_p
theorem u64_n : May Try.prog (29, u64_s.callN) := may_callN u64_p

/-- What a text is written as. -/
def txt (s : List UInt8) : List UInt8 := UInt8.ofNat (min s.length 255) :: s.take 255
@[reducible] def text_s : Spec where
  n := 0
  cs := []
  ar := [.lend .u8, .el .str]
  pre := fun (xs, s, _) => xs.length ≤ 100000000000
  n' := 1
  cs' := [(0, .row 5 .u8)]
  rs := [.own 0]
  post := .fn fun (xs, s, _) => (xs ++ txt s, ())
set_option maxHeartbeats 1000000 in
set_option maxRecDepth 100000 in
theorem text_d : denF ⟨tys, [(26, u8_s.call)]⟩ text_s ⟨[], []⟩ Try.f21 := by
  intro xs s
  repeat' first | refine Is.mk ?_ | refine And.intro ?_ ?_ | (intro _)
  all_goals try dsimp only [maxLen, El.ty] at *
  all_goals try trivial
  all_goals repeat (with_reducible cases ‹_ ∧ _›)
  all_goals try subst_eqs
  all_goals try simp only [IntKind.wrap_i64, IntKind.wrap_u64, IntKind.wrap_u32, IntKind.wrap_u8, decide_eq_true_eq, decide_eq_false_iff_not, Bool.not_eq_true', Bool.not_eq_false', Bool.not_not, Bool.not_true, Bool.not_false, List.length_cons, List.length_nil, Int.toNat_natCast, UInt8.ofNat_toNat] at *
  all_goals try first | omega | (with_reducible rfl) | (with_reducible exact u8lt _)
  all_goals
    have e : List.take ((if 255 < (s.length : Int) then 255 else (s.length : Int)) - 0).toNat (List.drop (Int.toNat 0) s) = s.take 255 := by
      rw [show Int.toNat 0 = 0 from rfl, List.drop_zero]
      split
      · rfl
      · rw [List.take_of_length_le (by omega), List.take_of_length_le (by omega)]
    rw [e]
  all_goals simp only [List.length_append, be_length, List.length_take]
  all_goals try omega
  rw [List.append_assoc]
  congr 1
  simp only [be, txt, List.singleton_append]
  congr 2
  omega
theorem text_p : (FnIs Try.prog 21 ∧ FnOk Try.prog 21 text_s) ∧ (idsOk text_s.cs && idsOk text_s.cs' && Nat.ble text_s.n text_s.n') = true :=
  fn_of (l := [(26, u8_s.call)]) (hi := ⟨[], []⟩) (S := text_s) (fn := Try.f21) (c := Try.f21.body.get!) tysOk mixOk ⟨u8_m, trivial⟩ (by kernel_rfl) (by kernel_rfl) (by kernel_rfl) (by kernel_rfl) (by kernel_rfl) text_d
theorem text_m : May Try.prog (21, text_s.call) := may_call text_p
theorem text_n : May Try.prog (21, text_s.callN) := may_callN text_p

/-- A reader's bytes, place, badness: may so many be taken? -/
def rdOk (xs : List UInt8) (at_ : Int) (bad : Bool) (n : Int) : Bool := !bad && decide (at_ + n ≤ xs.length)
/-- What is taken. -/
def tk (xs : List UInt8) (at_ : Int) (bad : Bool) (n : Int) : List UInt8 := if rdOk xs at_ bad n then (xs.drop at_.toNat).take n.toNat else []
/-- The place behind it. -/
def adv (xs : List UInt8) (at_ : Int) (bad : Bool) (n : Int) : Int := if rdOk xs at_ bad n then at_ + n else at_
theorem adv_in (xs : List UInt8) (at_ : Int) (bad : Bool) (n : Int) (h : 0 ≤ at_ ∧ at_ ≤ xs.length) (hn : 0 ≤ n) : 0 ≤ adv xs at_ bad n ∧ adv xs at_ bad n ≤ xs.length := by
  unfold adv rdOk
  cases bad <;> simp <;> (try split) <;> omega
theorem tk_len (xs : List UInt8) (at_ : Int) (bad : Bool) (n : Int) (h : 0 ≤ at_) (hn : 0 ≤ n) (hk : rdOk xs at_ bad n = true) : (tk xs at_ bad n).length = n.toNat := by
  unfold tk
  rw [if_pos hk]
  simp only [rdOk, Bool.and_eq_true, decide_eq_true_eq] at hk
  simp only [List.length_take, List.length_drop]
  omega
theorem tk_le (xs : List UInt8) (at_ : Int) (bad : Bool) (n : Int) : (tk xs at_ bad n).length ≤ n.toNat := by
  unfold tk
  split
  · simp only [List.length_take]; omega
  · simp

@[reducible] def rdr : Sh := .cons (.el (.rd .u8)) (.cons (.el (.int .i64)) (.cons (.el .bool) .nil))

@[reducible] def read_s : Spec where
  n := 0
  cs := []
  ar := [.el (.rd .u8)]
  pre := fun (xs, _) => xs.length ≤ 1000000000000
  n' := 1
  cs' := [(0, .own rdr)]
  rs := [.ref 0]
  post := .fn fun (xs, _) => (xs, 0, false, ())
set_option maxHeartbeats 1000000 in
set_option maxRecDepth 100000 in
theorem read_d : denF ⟨tys, [(52, clone_s.call)]⟩ read_s ⟨[], []⟩ Try.f17 := by
  intro xs
  repeat' first | refine Is.mk ?_ | refine And.intro ?_ ?_ | (intro _)
  all_goals try dsimp only [maxLen, El.ty] at *
  all_goals try trivial
  all_goals repeat (with_reducible cases ‹_ ∧ _›)
  all_goals try subst_eqs
  all_goals try simp only [IntKind.wrap_i64, IntKind.wrap_u64, IntKind.wrap_u32, IntKind.wrap_u8, decide_eq_true_eq, decide_eq_false_iff_not, Bool.not_eq_true', Bool.not_eq_false', Bool.not_not, Bool.not_true, Bool.not_false, List.length_cons, List.length_nil, Int.toNat_natCast, UInt8.ofNat_toNat] at *
  all_goals try first | omega | (with_reducible rfl) | (with_reducible exact u8lt _)
theorem read_p : (FnIs Try.prog 17 ∧ FnOk Try.prog 17 read_s) ∧ (idsOk read_s.cs && idsOk read_s.cs' && Nat.ble read_s.n read_s.n') = true :=
  fn_of (l := [(52, clone_s.call)]) (hi := ⟨[], []⟩) (S := read_s) (fn := Try.f17) (c := Try.f17.body.get!) tysOk mixOk ⟨clone_m, trivial⟩ (by kernel_rfl) (by kernel_rfl) (by kernel_rfl) (by kernel_rfl) (by kernel_rfl) read_d
theorem read_m : May Try.prog (17, read_s.call) := may_call read_p
theorem read_n : May Try.prog (17, read_s.callN) := may_callN read_p

@[reducible] def take_s : Spec where
  n := 1
  cs := [(0, .own rdr)]
  ar := [.ref 0, .el (.int .i64)]
  pre := fun (xs, at_, _, n, _) => 0 ≤ at_ ∧ at_ ≤ xs.length ∧ 0 ≤ n ∧ n ≤ 9223372036854775807
  n' := 1
  cs' := [(0, .own rdr)]
  rs := [.el (.rd .u8)]
  post := .fn fun (xs, at_, bad, n, _) => (xs, adv xs at_ bad n, !rdOk xs at_ bad n, tk xs at_ bad n, ())
set_option maxHeartbeats 1000000 in
set_option maxRecDepth 100000 in
theorem take_d : denF ⟨tys, []⟩ take_s ⟨[(1, (tks 0 4 (.take 4 true (tks 5 13 .done)))), (5, (tks 0 15 (.last 15 false [] .done)))], []⟩ Try.f53 := by
  intro xs at_ bad n
  repeat' first | refine Is.mk ?_ | refine And.intro ?_ ?_ | (intro _)
  all_goals try dsimp only [maxLen, El.ty] at *
  all_goals try trivial
  all_goals repeat (with_reducible cases ‹_ ∧ _›)
  all_goals try subst_eqs
  all_goals try simp only [IntKind.wrap_i64, IntKind.wrap_u64, IntKind.wrap_u32, IntKind.wrap_u8, decide_eq_true_eq, decide_eq_false_iff_not, Bool.not_eq_true', Bool.not_eq_false', Bool.not_not, Bool.not_true, Bool.not_false, List.length_cons, List.length_nil, Int.toNat_natCast, UInt8.ofNat_toNat] at *
  all_goals try first | omega | (with_reducible rfl) | (with_reducible exact u8lt _)
  all_goals subst_vars
  all_goals first
    | (simp [adv, tk, rdOk]; done)
    | (have h9 : ¬ (at_ + n ≤ (xs.length : Int)) := by omega
       simp [adv, tk, rdOk, h9]; done)
    | (have h9 : at_ + n ≤ (xs.length : Int) := by omega
       simp [adv, tk, rdOk, h9]
       try omega)
  congr 1
  · omega
  · congr 1; omega
theorem take_p : (FnIs Try.prog 53 ∧ FnOk Try.prog 53 take_s) ∧ (idsOk take_s.cs && idsOk take_s.cs' && Nat.ble take_s.n take_s.n') = true :=
  fn_of (l := []) (hi := ⟨[(1, (tks 0 4 (.take 4 true (tks 5 13 .done)))), (5, (tks 0 15 (.last 15 false [] .done)))], []⟩) (S := take_s) (fn := Try.f53) (c := Try.f53.body.get!) tysOk mixOk trivial (by kernel_rfl) (by kernel_rfl) (by kernel_rfl) (by kernel_rfl) (by kernel_rfl) take_d
theorem take_m : May Try.prog (53, take_s.call) := may_call take_p
theorem take_n : May Try.prog (53, take_s.callN) := may_callN take_p

/-- The number that bytes tell. -/
def fb (l : List UInt8) : Int := l.foldl (fun n c => n * 256 + c.toNat) 0
theorem foldl_lt : ∀ (l : List UInt8) (k : Nat) (m : Int), 0 ≤ m ∧ m < 256 ^ k → 0 ≤ l.foldl (fun n c => n * 256 + (c.toNat : Int)) m ∧ l.foldl (fun n c => n * 256 + (c.toNat : Int)) m < 256 ^ (k + l.length)
  | [], k, m, h => h
  | c :: l, k, m, h => by
    have hc : c.toNat < 256 := c.toNat_lt
    have := foldl_lt l (k + 1) (m * 256 + c.toNat) (by rw [Int.pow_succ]; omega)
    rw [List.foldl_cons, List.length_cons, show k + (l.length + 1) = k + 1 + l.length by omega]
    exact this
theorem fb_lt (l : List UInt8) : 0 ≤ fb l ∧ fb l < 256 ^ l.length := by
  have := foldl_lt l 0 0 (by decide)
  rwa [Nat.zero_add] at this
theorem fb_snoc (l : List UInt8) (c : UInt8) : fb (l ++ [c]) = fb l * 256 + c.toNat := by simp [fb]
theorem fb_nil : fb [] = 0 := rfl

@[reducible] def rnum_s : Spec where
  n := 1
  cs := [(0, .own rdr)]
  ar := [.ref 0, .el (.int .i64)]
  pre := fun (xs, at_, _, n, _) => 0 ≤ at_ ∧ at_ ≤ xs.length ∧ 0 ≤ n ∧ n ≤ 8
  n' := 1
  cs' := [(0, .own rdr)]
  rs := [.el (.int .u64)]
  post := .fn fun (xs, at_, bad, n, _) => (xs, adv xs at_ bad n, !rdOk xs at_ bad n, fb (tk xs at_ bad n), ())
theorem u64_shl8_or (n : Int) (c : UInt8) (h : 0 ≤ n ∧ n < 256 ^ 7) : bits .or .u64 (n * 2 ^ min (Int.toNat 8) IntKind.u64.bits % 18446744073709551616) (c.toNat % 18446744073709551616) = n * 256 + c.toNat := by
  have hc : c.toNat < 256 := c.toNat_lt
  have e : min (Int.toNat 8) IntKind.u64.bits = 8 := by decide
  rw [e, show (2 : Int) ^ 8 = 256 by decide]
  have h7 : n < 72057594037927936 := by have := h.2; simpa using this
  rw [show n * 256 % 18446744073709551616 = n * 256 by omega, show (c.toNat : Int) % 18446744073709551616 = c.toNat by omega]
  have hw : ∀ n : Int, 0 ≤ n → n < 2 ^ 64 → IntKind.u64.wrap n = n := fun n h1 h2 => by rw [IntKind.wrap_u64]; omega
  exact bits_join .u64 64 (by decide) hw 8 (n * 256) c.toNat (by omega) (by omega) (by omega) (by omega) (by omega) (by omega)
theorem take_succ_getD (l : List UInt8) (i : Nat) (h : i < l.length) : l.take (i + 1) = l.take i ++ [l.getD i 0] := by
  rw [List.take_add_one, List.getElem?_eq_getElem h]
  simp [List.getD, List.getElem?_eq_getElem h]

@[reducible] def rnum_a : Ann where
  nx := 1
  cs := [(0, .own rdr)]
  ss := [(5, .el (.int .u64)), (10, .el (.rd .u8)), (11, .el (.int .i64)), (12, .el (.int .i64))]
  inv := fun (b0, a0, d0, _, l0, k0, _, _) (b, a, d, n, l, k, i, _) => b = b0 ∧ a = a0 ∧ d = d0 ∧ l = l0 ∧ k = k0 ∧ 0 ≤ i ∧ i ≤ l.length ∧ n = fb (l.take i.toNat)
  mu := fun (_, _, _, _, l, _, i, _) => l.length - i.toNat
set_option maxHeartbeats 1000000 in
set_option maxRecDepth 100000 in
theorem rnum_d : denF ⟨tys, [(53, take_s.call)]⟩ rnum_s ⟨[], [(3, rnum_a)]⟩ Try.f55 := by
  intro xs at_ bad n
  repeat' first | refine Is.mk ?_ | refine And.intro ?_ ?_ | (intro _)
  all_goals try dsimp only [maxLen, El.ty] at *
  all_goals try trivial
  all_goals repeat (with_reducible cases ‹_ ∧ _›)
  all_goals try subst_eqs
  all_goals try simp only [IntKind.wrap_i64, IntKind.wrap_u64, IntKind.wrap_u32, IntKind.wrap_u8, decide_eq_true_eq, decide_eq_false_iff_not, Bool.not_eq_true', Bool.not_eq_false', Bool.not_not, Bool.not_true, Bool.not_false, List.length_cons, List.length_nil, Int.toNat_natCast, UInt8.ofNat_toNat] at *
  all_goals try first | omega | (with_reducible rfl) | (with_reducible exact u8lt _)
  all_goals rename_i _ i _ _ _ _ _ _ _ _ _
  · have h7 := tk_le xs at_ bad n
    rw [u64_shl8_or, show ((i + 1 + 9223372036854775808) % 18446744073709551616 - 9223372036854775808).toNat = i.toNat + 1 by omega, take_succ_getD _ _ (by omega), fb_snoc]
    · rfl
    · have := fb_lt (List.take i.toNat (tk xs at_ bad n))
      have hl : (List.take i.toNat (tk xs at_ bad n)).length ≤ 7 := by rw [List.length_take]; omega
      exact ⟨this.1, Int.lt_of_lt_of_le this.2 (by exact_mod_cast Nat.pow_le_pow_right (by decide) hl)⟩
  · rw [List.take_of_length_le (by omega)]
theorem rnum_p : (FnIs Try.prog 55 ∧ FnOk Try.prog 55 rnum_s) ∧ (idsOk rnum_s.cs && idsOk rnum_s.cs' && Nat.ble rnum_s.n rnum_s.n') = true :=
  fn_of (l := [(53, take_s.call)]) (hi := ⟨[], [(3, rnum_a)]⟩) (S := rnum_s) (fn := Try.f55) (c := Try.f55.body.get!) tysOk mixOk ⟨take_m, trivial⟩ (by kernel_rfl) (by kernel_rfl) (by kernel_rfl) (by kernel_rfl) (by kernel_rfl) rnum_d
theorem rnum_m : May Try.prog (55, rnum_s.call) := may_call rnum_p
theorem rnum_n : May Try.prog (55, rnum_s.callN) := may_callN rnum_p

end Go.J
