/-
  WIRE: the reader's calls.
-/
import Derived.Test.YtpanhnkcgmcghaaW2
set_option linter.unusedSimpArgs false
set_option linter.unusedVariables false
set_option linter.unusedSectionVars false
namespace Go.J
open Go.Proofs

theorem fb_tk_lt (xs : List UInt8) (at_ : Int) (bad : Bool) (n : Int) : 0 ≤ fb (tk xs at_ bad n) ∧ fb (tk xs at_ bad n) < ((256 ^ n.toNat : Nat) : Int) := by
  have h1 := fb_lt (tk xs at_ bad n)
  have h2 := tk_le xs at_ bad n
  have h3 : 256 ^ (tk xs at_ bad n).length ≤ 256 ^ n.toNat := Nat.pow_le_pow_right (by decide) h2
  have h4 : ((256 ^ (tk xs at_ bad n).length : Nat) : Int) = 256 ^ (tk xs at_ bad n).length := Int.natCast_pow 256 _
  exact ⟨h1.1, Int.lt_of_lt_of_le h1.2 (h4 ▸ Int.ofNat_le.2 h3)⟩
theorem fb1 (xs : List UInt8) (at_ : Int) (bad : Bool) : 0 ≤ fb (tk xs at_ bad 1) ∧ fb (tk xs at_ bad 1) < 256 := fb_tk_lt xs at_ bad 1
theorem fb4 (xs : List UInt8) (at_ : Int) (bad : Bool) : 0 ≤ fb (tk xs at_ bad 4) ∧ fb (tk xs at_ bad 4) < 4294967296 := fb_tk_lt xs at_ bad 4
theorem fb8 (xs : List UInt8) (at_ : Int) (bad : Bool) : 0 ≤ fb (tk xs at_ bad 8) ∧ fb (tk xs at_ bad 8) < 18446744073709551616 := fb_tk_lt xs at_ bad 8

@[reducible] def ru8_s : Spec where
  n := 1
  cs := [(0, .own rdr)]
  ar := [.ref 0]
  pre := fun (xs, at_, _, _) => 0 ≤ at_ ∧ at_ ≤ xs.length
  n' := 1
  cs' := [(0, .own rdr)]
  rs := [.el (.int .i64)]
  post := .fn fun (xs, at_, bad, _) => (xs, adv xs at_ bad 1, !rdOk xs at_ bad 1, fb (tk xs at_ bad 1), ())
set_option maxHeartbeats 1000000 in
set_option maxRecDepth 100000 in
theorem ru8_d : denF ⟨tys, [(55, rnum_s.call)]⟩ ru8_s ⟨[], []⟩ Try.f33 := by
  intro xs at_ bad
  repeat' first | refine Is.mk ?_ | refine And.intro ?_ ?_ | (intro _)
  all_goals try dsimp only [maxLen, El.ty] at *
  all_goals try trivial
  all_goals repeat (with_reducible cases ‹_ ∧ _›)
  all_goals try subst_eqs
  all_goals try simp only [IntKind.wrap_i64, IntKind.wrap_u64, IntKind.wrap_u32, IntKind.wrap_u8, decide_eq_true_eq, decide_eq_false_iff_not, Bool.not_eq_true', Bool.not_eq_false', Bool.not_not, Bool.not_true, Bool.not_false, List.length_cons, List.length_nil, Int.toNat_natCast, UInt8.ofNat_toNat] at *
  all_goals try first | omega | (with_reducible rfl) | (with_reducible exact u8lt _)
  have := fb1 xs at_ bad
  omega
theorem ru8_p : (FnIs Try.prog 33 ∧ FnOk Try.prog 33 ru8_s) ∧ (idsOk ru8_s.cs && idsOk ru8_s.cs' && Nat.ble ru8_s.n ru8_s.n') = true :=
  fn_of (l := [(55, rnum_s.call)]) (hi := ⟨[], []⟩) (S := ru8_s) (fn := Try.f33) (c := Try.f33.body.get!) tysOk mixOk ⟨rnum_m, trivial⟩ (by kernel_rfl) (by kernel_rfl) (by kernel_rfl) (by kernel_rfl) (by kernel_rfl) ru8_d
theorem ru8_m : May Try.prog (33, ru8_s.call) := may_call ru8_p
theorem ru8_n : May Try.prog (33, ru8_s.callN) := may_callN ru8_p

@[reducible] def ru32_s : Spec where
  n := 1
  cs := [(0, .own rdr)]
  ar := [.ref 0]
  pre := fun (xs, at_, _, _) => 0 ≤ at_ ∧ at_ ≤ xs.length
  n' := 1
  cs' := [(0, .own rdr)]
  rs := [.el (.int .u32)]
  post := .fn fun (xs, at_, bad, _) => (xs, adv xs at_ bad 4, !rdOk xs at_ bad 4, fb (tk xs at_ bad 4), ())
set_option maxHeartbeats 1000000 in
set_option maxRecDepth 100000 in
theorem ru32_d : denF ⟨tys, [(55, rnum_s.call)]⟩ ru32_s ⟨[], []⟩ Try.f34 := by
  intro xs at_ bad
  repeat' first | refine Is.mk ?_ | refine And.intro ?_ ?_ | (intro _)
  all_goals try dsimp only [maxLen, El.ty] at *
  all_goals try trivial
  all_goals repeat (with_reducible cases ‹_ ∧ _›)
  all_goals try subst_eqs
  all_goals try simp only [IntKind.wrap_i64, IntKind.wrap_u64, IntKind.wrap_u32, IntKind.wrap_u8, decide_eq_true_eq, decide_eq_false_iff_not, Bool.not_eq_true', Bool.not_eq_false', Bool.not_not, Bool.not_true, Bool.not_false, List.length_cons, List.length_nil, Int.toNat_natCast, UInt8.ofNat_toNat] at *
  all_goals try first | omega | (with_reducible rfl) | (with_reducible exact u8lt _)
  have := fb4 xs at_ bad
  omega
theorem ru32_p : (FnIs Try.prog 34 ∧ FnOk Try.prog 34 ru32_s) ∧ (idsOk ru32_s.cs && idsOk ru32_s.cs' && Nat.ble ru32_s.n ru32_s.n') = true :=
  fn_of (l := [(55, rnum_s.call)]) (hi := ⟨[], []⟩) (S := ru32_s) (fn := Try.f34) (c := Try.f34.body.get!) tysOk mixOk ⟨rnum_m, trivial⟩ (by kernel_rfl) (by kernel_rfl) (by kernel_rfl) (by kernel_rfl) (by kernel_rfl) ru32_d
theorem ru32_m : May Try.prog (34, ru32_s.call) := may_call ru32_p
theorem ru32_n : May Try.prog (34, ru32_s.callN) := may_callN ru32_p

@[reducible] def ru64_s : Spec where
  n := 1
  cs := [(0, .own rdr)]
  ar := [.ref 0]
  pre := fun (xs, at_, _, _) => 0 ≤ at_ ∧ at_ ≤ xs.length
  n' := 1
  cs' := [(0, .own rdr)]
  rs := [.el (.int .u64)]
  post := .fn fun (xs, at_, bad, _) => (xs, adv xs at_ bad 8, !rdOk xs at_ bad 8, fb (tk xs at_ bad 8), ())
set_option maxHeartbeats 1000000 in
set_option maxRecDepth 100000 in
theorem ru64_d : denF ⟨tys, [(55, rnum_s.call)]⟩ ru64_s ⟨[], []⟩ Try.f35 := by
  intro xs at_ bad
  repeat' first | refine Is.mk ?_ | refine And.intro ?_ ?_ | (intro _)
  all_goals try dsimp only [maxLen, El.ty] at *
  all_goals try trivial
  all_goals repeat (with_reducible cases ‹_ ∧ _›)
  all_goals try subst_eqs
  all_goals try simp only [IntKind.wrap_i64, IntKind.wrap_u64, IntKind.wrap_u32, IntKind.wrap_u8, decide_eq_true_eq, decide_eq_false_iff_not, Bool.not_eq_true', Bool.not_eq_false', Bool.not_not, Bool.not_true, Bool.not_false, List.length_cons, List.length_nil, Int.toNat_natCast, UInt8.ofNat_toNat] at *
  all_goals try first | omega | (with_reducible rfl) | (with_reducible exact u8lt _)
theorem ru64_p : (FnIs Try.prog 35 ∧ FnOk Try.prog 35 ru64_s) ∧ (idsOk ru64_s.cs && idsOk ru64_s.cs' && Nat.ble ru64_s.n ru64_s.n') = true :=
  fn_of (l := [(55, rnum_s.call)]) (hi := ⟨[], []⟩) (S := ru64_s) (fn := Try.f35) (c := Try.f35.body.get!) tysOk mixOk ⟨rnum_m, trivial⟩ (by kernel_rfl) (by kernel_rfl) (by kernel_rfl) (by kernel_rfl) (by kernel_rfl) ru64_d
theorem ru64_m : May Try.prog (35, ru64_s.call) := may_call ru64_p
theorem ru64_n : May Try.prog (35, ru64_s.callN) := may_callN ru64_p

/-- A digest that is read. -/
def sumv (xs : List UInt8) (at_ : Int) (bad : Bool) : List UInt8 := if rdOk xs at_ bad 32 then (xs.drop at_.toNat).take 32 else List.replicate 32 0
@[reducible] def rsum_s : Spec where
  n := 1
  cs := [(0, .own rdr)]
  ar := [.ref 0]
  pre := fun (xs, at_, _, _) => 0 ≤ at_ ∧ at_ ≤ xs.length
  n' := 1
  cs' := [(0, .own rdr)]
  rs := [.el (.ar 32 .u8)]
  post := .fn fun (xs, at_, bad, _) => (xs, adv xs at_ bad 32, !rdOk xs at_ bad 32, sumv xs at_ bad, ())
set_option maxHeartbeats 1000000 in
set_option maxRecDepth 100000 in
theorem rsum_d : denF ⟨tys, [(53, take_s.call)]⟩ rsum_s ⟨[(2, (tks 0 2 (.last 2 false [0] (.last 3 false [] .done))))], []⟩ Try.f40 := by
  intro xs at_ bad
  repeat' first | refine Is.mk ?_ | refine And.intro ?_ ?_ | (intro _)
  all_goals try dsimp only [maxLen, El.ty] at *
  all_goals try trivial
  all_goals repeat (with_reducible cases ‹_ ∧ _›)
  all_goals try subst_eqs
  all_goals try simp only [IntKind.wrap_i64, IntKind.wrap_u64, IntKind.wrap_u32, IntKind.wrap_u8, decide_eq_true_eq, decide_eq_false_iff_not, Bool.not_eq_true', Bool.not_eq_false', Bool.not_not, Bool.not_true, Bool.not_false, List.length_cons, List.length_nil, Int.toNat_natCast, UInt8.ofNat_toNat] at *
  all_goals try first | omega | (with_reducible rfl) | (with_reducible exact u8lt _)
  unfold sumv
  cases hk : rdOk xs at_ bad 32
  · simp only [tk, hk, Bool.false_eq_true, if_false]
    rfl
  · have hl := tk_len xs at_ bad 32 (by assumption) (by decide) hk
    rw [if_pos rfl, show ((32 : Nat) - 0 : Int).toNat = 32 by decide, show Int.toNat 0 = 0 from rfl, List.take_zero, List.nil_append, List.drop_of_length_le (by rw [List.length_replicate]; omega), List.append_nil, List.take_of_length_le (by omega)]
    unfold tk
    rw [if_pos hk]
    rfl
theorem rsum_p : (FnIs Try.prog 40 ∧ FnOk Try.prog 40 rsum_s) ∧ (idsOk rsum_s.cs && idsOk rsum_s.cs' && Nat.ble rsum_s.n rsum_s.n') = true :=
  fn_of (l := [(53, take_s.call)]) (hi := ⟨[(2, (tks 0 2 (.last 2 false [0] (.last 3 false [] .done))))], []⟩) (S := rsum_s) (fn := Try.f40) (c := Try.f40.body.get!) tysOk mixOk ⟨take_m, trivial⟩ (by kernel_rfl) (by kernel_rfl) (by kernel_rfl) (by kernel_rfl) (by kernel_rfl) rsum_d
theorem rsum_m : May Try.prog (40, rsum_s.call) := may_call rsum_p
theorem rsum_n : May Try.prog (40, rsum_s.callN) := may_callN rsum_p

@[reducible] def rat_s : Spec where
  n := 1
  cs := [(0, .own rdr)]
  ar := [.ref 0]
  pre := fun _ => True
  n' := 1
  cs' := [(0, .own rdr)]
  rs := [.el (.int .i64)]
  post := .fn fun (xs, at_, bad, _) => (xs, at_, bad, at_, ())
set_option maxHeartbeats 1000000 in
set_option maxRecDepth 100000 in
theorem rat_d : denF ⟨tys, []⟩ rat_s ⟨[], []⟩ Try.f23 := by
  intro xs at_ bad
  repeat' first | refine Is.mk ?_ | refine And.intro ?_ ?_ | (intro _)
  all_goals try dsimp only [maxLen, El.ty] at *
  all_goals try trivial
  all_goals repeat (with_reducible cases ‹_ ∧ _›)
  all_goals try subst_eqs
  all_goals try simp only [IntKind.wrap_i64, IntKind.wrap_u64, IntKind.wrap_u32, IntKind.wrap_u8, decide_eq_true_eq, decide_eq_false_iff_not, Bool.not_eq_true', Bool.not_eq_false', Bool.not_not, Bool.not_true, Bool.not_false, List.length_cons, List.length_nil, Int.toNat_natCast, UInt8.ofNat_toNat] at *
  all_goals try first | omega | (with_reducible rfl) | (with_reducible exact u8lt _)
theorem rat_p : (FnIs Try.prog 23 ∧ FnOk Try.prog 23 rat_s) ∧ (idsOk rat_s.cs && idsOk rat_s.cs' && Nat.ble rat_s.n rat_s.n') = true :=
  fn_of (l := []) (hi := ⟨[], []⟩) (S := rat_s) (fn := Try.f23) (c := Try.f23.body.get!) tysOk mixOk trivial (by kernel_rfl) (by kernel_rfl) (by kernel_rfl) (by kernel_rfl) (by kernel_rfl) rat_d
theorem rat_m : May Try.prog (23, rat_s.call) := may_call rat_p
theorem rat_n : May Try.prog (23, rat_s.callN) := may_callN rat_p

@[reducible] def rbad_s : Spec where
  n := 1
  cs := [(0, .own rdr)]
  ar := [.ref 0]
  pre := fun _ => True
  n' := 1
  cs' := [(0, .own rdr)]
  rs := [.el .bool]
  post := .fn fun (xs, at_, bad, _) => (xs, at_, bad, bad, ())
set_option maxHeartbeats 1000000 in
set_option maxRecDepth 100000 in
theorem rbad_d : denF ⟨tys, []⟩ rbad_s ⟨[], []⟩ Try.f22 := by
  intro xs at_ bad
  repeat' first | refine Is.mk ?_ | refine And.intro ?_ ?_ | (intro _)
  all_goals try dsimp only [maxLen, El.ty] at *
  all_goals try trivial
  all_goals repeat (with_reducible cases ‹_ ∧ _›)
  all_goals try subst_eqs
  all_goals try simp only [IntKind.wrap_i64, IntKind.wrap_u64, IntKind.wrap_u32, IntKind.wrap_u8, decide_eq_true_eq, decide_eq_false_iff_not, Bool.not_eq_true', Bool.not_eq_false', Bool.not_not, Bool.not_true, Bool.not_false, List.length_cons, List.length_nil, Int.toNat_natCast, UInt8.ofNat_toNat] at *
  all_goals try first | omega | (with_reducible rfl) | (with_reducible exact u8lt _)
theorem rbad_p : (FnIs Try.prog 22 ∧ FnOk Try.prog 22 rbad_s) ∧ (idsOk rbad_s.cs && idsOk rbad_s.cs' && Nat.ble rbad_s.n rbad_s.n') = true :=
  fn_of (l := []) (hi := ⟨[], []⟩) (S := rbad_s) (fn := Try.f22) (c := Try.f22.body.get!) tysOk mixOk trivial (by kernel_rfl) (by kernel_rfl) (by kernel_rfl) (by kernel_rfl) (by kernel_rfl) rbad_d
theorem rbad_m : May Try.prog (22, rbad_s.call) := may_call rbad_p
theorem rbad_n : May Try.prog (22, rbad_s.callN) := may_callN rbad_p

@[reducible] def rend_s : Spec where
  n := 1
  cs := [(0, .own rdr)]
  ar := [.ref 0]
  pre := fun (xs, at_, _, _) => 0 ≤ at_ ∧ at_ ≤ xs.length
  n' := 1
  cs' := [(0, .own rdr)]
  rs := [.el .bool]
  post := .fn fun (xs, at_, bad, _) => (xs, at_, bad, !bad && decide (at_ = xs.length), ())
set_option maxHeartbeats 1000000 in
set_option maxRecDepth 100000 in
theorem rend_d : denF ⟨tys, []⟩ rend_s ⟨[(1, (tks 0 5 (.take 5 true (tks 6 11 (.last 17 false [] .done)))))], []⟩ Try.f36 := by
  intro xs at_ bad
  repeat' first | refine Is.mk ?_ | refine And.intro ?_ ?_ | (intro _)
  all_goals try dsimp only [maxLen, El.ty] at *
  all_goals try trivial
  all_goals repeat (with_reducible cases ‹_ ∧ _›)
  all_goals try subst_eqs
  all_goals try simp only [IntKind.wrap_i64, IntKind.wrap_u64, IntKind.wrap_u32, IntKind.wrap_u8, decide_eq_true_eq, decide_eq_false_iff_not, Bool.not_eq_true', Bool.not_eq_false', Bool.not_not, Bool.not_true, Bool.not_false, List.length_cons, List.length_nil, Int.toNat_natCast, UInt8.ofNat_toNat] at *
  all_goals try first | omega | (with_reducible rfl) | (with_reducible exact u8lt _)
  all_goals (subst_vars; simp)
theorem rend_p : (FnIs Try.prog 36 ∧ FnOk Try.prog 36 rend_s) ∧ (idsOk rend_s.cs && idsOk rend_s.cs' && Nat.ble rend_s.n rend_s.n') = true :=
  fn_of (l := []) (hi := ⟨[(1, (tks 0 5 (.take 5 true (tks 6 11 (.last 17 false [] .done)))))], []⟩) (S := rend_s) (fn := Try.f36) (c := Try.f36.body.get!) tysOk mixOk trivial (by kernel_rfl) (by kernel_rfl) (by kernel_rfl) (by kernel_rfl) (by kernel_rfl) rend_d
theorem rend_m : May Try.prog (36, rend_s.call) := may_call rend_p
theorem rend_n : May Try.prog (36, rend_s.callN) := may_callN rend_p

/-- How many bytes a text has that is read; is it there? -/
def tn (xs : List UInt8) (at_ : Int) (bad : Bool) : Int := fb (tk xs at_ bad 1)
def tOk (xs : List UInt8) (at_ : Int) (bad : Bool) (m : Int) : Bool := rdOk xs at_ bad 1 && decide (tn xs at_ bad ≤ m) && decide (at_ + 1 + tn xs at_ bad ≤ xs.length)
def tv (xs : List UInt8) (at_ : Int) (bad : Bool) (m : Int) : List UInt8 := if tOk xs at_ bad m then (xs.drop (at_ + 1).toNat).take (tn xs at_ bad).toNat else []
def tadv (xs : List UInt8) (at_ : Int) (bad : Bool) (m : Int) : Int := if tOk xs at_ bad m then at_ + 1 + tn xs at_ bad else at_
@[reducible] def rtext_s : Spec where
  n := 1
  cs := [(0, .own rdr)]
  ar := [.ref 0, .el (.int .i64)]
  pre := fun (xs, at_, _, _) => 0 ≤ at_ ∧ at_ ≤ xs.length
  n' := 1
  cs' := [(0, .own rdr)]
  rs := [.el .str]
  post := .fn fun (xs, at_, bad, m, _) => (xs, tadv xs at_ bad m, !tOk xs at_ bad m, tv xs at_ bad m, ())
set_option maxHeartbeats 1000000 in
set_option maxRecDepth 100000 in
theorem rtext_d : denF ⟨tys, [(33, ru8_s.call), (53, take_s.call)]⟩ rtext_s ⟨[(3, (tks 0 4 (.take 4 true (tks 5 4 (.take 9 true (tks 10 13 .done))))))], []⟩ Try.f18 := by
  intro xs at_ bad m
  repeat' first | refine Is.mk ?_ | refine And.intro ?_ ?_ | (intro _)
  all_goals try dsimp only [maxLen, El.ty] at *
  all_goals try trivial
  all_goals repeat (with_reducible cases ‹_ ∧ _›)
  all_goals try subst_eqs
  all_goals try simp only [IntKind.wrap_i64, IntKind.wrap_u64, IntKind.wrap_u32, IntKind.wrap_u8, decide_eq_true_eq, decide_eq_false_iff_not, Bool.not_eq_true', Bool.not_eq_false', Bool.not_not, Bool.not_true, Bool.not_false, List.length_cons, List.length_nil, Int.toNat_natCast, UInt8.ofNat_toNat] at *
  all_goals try first | omega | (with_reducible rfl) | (with_reducible exact u8lt _)
  all_goals have hb := fb1 xs at_ bad
  all_goals have hin := adv_in xs at_ bad 1 ⟨by assumption, by assumption⟩ (by decide)
  all_goals try omega
  iterate 3 (· simp [tadv, tv, tOk, *])
  all_goals have hk : rdOk xs at_ bad 1 = true := by assumption
  all_goals have ha : adv xs at_ bad 1 = at_ + 1 := by simp [adv, hk]
  iterate 3
   · have h9 : ¬ (fb (tk xs at_ bad 1) ≤ m) := by omega
     simp [tadv, tv, tOk, hk, tn, h9]
  iterate 3
   · have h9 : ¬ (at_ + 1 + fb (tk xs at_ bad 1) ≤ xs.length) := by omega
     simp [tadv, tv, tOk, hk, tn, h9]
  all_goals
    have h8 : fb (tk xs at_ bad 1) ≤ m := by omega
    have h9 : at_ + 1 + fb (tk xs at_ bad 1) ≤ xs.length := by omega
    have hk2 : rdOk xs (at_ + 1) false (fb (tk xs at_ bad 1)) = true := by simp [rdOk, h9]
    rw [ha, hk]
  · simp [tadv, tOk, hk, tn, h8, h9, adv, hk2]
  · simp [tOk, hk, tn, h8, h9, hk2]
  · have e : tOk xs at_ bad m = true := by simp [tOk, hk, tn, h8, h9]
    show tk xs (at_ + 1) false (fb (tk xs at_ bad 1)) = tv xs at_ bad m
    unfold tv
    rw [if_pos e, tk, if_pos hk2]
    rfl
theorem rtext_p : (FnIs Try.prog 18 ∧ FnOk Try.prog 18 rtext_s) ∧ (idsOk rtext_s.cs && idsOk rtext_s.cs' && Nat.ble rtext_s.n rtext_s.n') = true :=
  fn_of (l := [(33, ru8_s.call), (53, take_s.call)]) (hi := ⟨[(3, (tks 0 4 (.take 4 true (tks 5 4 (.take 9 true (tks 10 13 .done))))))], []⟩) (S := rtext_s) (fn := Try.f18) (c := Try.f18.body.get!) tysOk mixOk ⟨ru8_m, take_m, trivial⟩ (by kernel_rfl) (by kernel_rfl) (by kernel_rfl) (by kernel_rfl) (by kernel_rfl) rtext_d
theorem rtext_m : May Try.prog (18, rtext_s.call) := may_call rtext_p
theorem rtext_n : May Try.prog (18, rtext_s.callN) := may_callN rtext_p

end Go.J
