/-
  WIRE: the document's own reader, on; lists of bytes.
-/
import Derived.Test.YtpanhnkcgmcghaaW5
set_option linter.unusedSimpArgs false
set_option linter.unusedVariables false
set_option linter.unusedSectionVars false
namespace Go.J
open Go.Proofs

@[reducible] def ftk_s : Spec := { take_s with }
set_option maxHeartbeats 1000000 in
set_option maxRecDepth 100000 in
theorem ftk_d : denF ⟨tys, []⟩ ftk_s ⟨[(1, (tks 0 4 (.take 4 true (tks 5 13 .done)))), (4, (tks 0 15 (.last 15 false [] .done)))], []⟩ Try.f56 := by
  intro xs at_ bad n
  repeat' first | refine Is.mk ?_ | refine And.intro ?_ ?_ | (intro _)
  all_goals try dsimp only [maxLen, El.ty] at *
  all_goals try trivial
  all_goals repeat (with_reducible cases ‹_ ∧ _›)
  all_goals try subst_eqs
  all_goals try simp only [IntKind.wrap_i64, IntKind.wrap_u64, IntKind.wrap_u32, IntKind.wrap_u8, decide_eq_true_eq, decide_eq_false_iff_not, Bool.not_eq_true', Bool.not_eq_false', Bool.not_not, Bool.not_true, Bool.not_false, List.length_cons, List.length_nil, Int.toNat_natCast, UInt8.ofNat_toNat] at *
  all_goals try first | omega | (with_reducible rfl) | (with_reducible exact u8lt _)
  all_goals subst_vars
  all_goals try (simp [adv_bad, tk_bad, rd_bad]; done)
  all_goals try (have h9 : ¬ at_ + n ≤ (xs.length : Int) := by omega
                 simp [adv_no, tk_no, rd_no h9]; done)
  all_goals
    have h9 : at_ + n ≤ (xs.length : Int) := by omega
    have hw : (at_ + n + 9223372036854775808) % 18446744073709551616 - 9223372036854775808 = at_ + n := by omega
    try rw [hw]
  · rw [adv_yes (rd_yes h9)]
  · rw [rd_yes h9]; rfl
  · rw [tk_yes h9]
theorem ftk_p : (FnIs Try.prog 56 ∧ FnOk Try.prog 56 ftk_s) ∧ (idsOk ftk_s.cs && idsOk ftk_s.cs' && Nat.ble ftk_s.n ftk_s.n') = true :=
  fn_of (l := []) (hi := ⟨[(1, (tks 0 4 (.take 4 true (tks 5 13 .done)))), (4, (tks 0 15 (.last 15 false [] .done)))], []⟩) (S := ftk_s) (fn := Try.f56) (c := Try.f56.body.get!) tysOk mixOk trivial (by kernel_rfl) (by kernel_rfl) (by kernel_rfl) (by kernel_rfl) (by kernel_rfl) ftk_d
theorem ftk_m : May Try.prog (56, ftk_s.call) := may_call ftk_p
theorem ftk_n : May Try.prog (56, ftk_s.callN) := may_callN ftk_p

theorem set_step (l : List UInt8) (i : Nat) (h : i < l.length) (h2 : l.length ≤ 32) : (l.take i ++ List.replicate (32 - i) 0).set i (l.getD i El.u8.dflt) = l.take (i + 1) ++ List.replicate (32 - (i + 1)) 0 := by
  rw [take_succ_getD l i h, show 32 - i = (32 - (i + 1)) + 1 by omega, List.replicate_succ]
  rw [List.set_append_right _ _ (by rw [List.length_take]; omega), List.length_take, show i - min i l.length = 0 by omega]
  simp only [List.set_cons_zero, List.append_assoc, List.singleton_append]
  rfl

@[reducible] def frsum_s : Spec := { rsum_s with }
@[reducible] def frsum_a : Ann where
  nx := 3
  cs := [(0, .own rdr), (1, .own (.el (.ar 32 .u8))), (2, .own (.el (.ar 32 .u8)))]
  ss := [(2, .ref 1), (3, .ref 2), (7, .el (.rd .u8)), (8, .el (.int .i64)), (9, .el (.int .i64))]
  inv := fun (b0, a0, d0, _, _, l0, k0, _) (b, a, d, _, s, l, k, i, _) => b = b0 ∧ a = a0 ∧ d = d0 ∧ l = l0 ∧ k = k0 ∧ 0 ≤ i ∧ i ≤ l.length ∧ s = l.take i.toNat ++ List.replicate (32 - i.toNat) 0
  mu := fun (_, _, _, _, _, l, _, i, _) => l.length - i.toNat
set_option maxHeartbeats 1000000 in
set_option maxRecDepth 100000 in
theorem frsum_d : denF ⟨tys, [(56, ftk_s.call)]⟩ frsum_s ⟨[], [(3, frsum_a)]⟩ Try.f41 := by
  intro xs at_ bad
  repeat' first | refine Is.mk ?_ | refine And.intro ?_ ?_ | (intro _)
  all_goals try dsimp only [maxLen, El.ty] at *
  all_goals try trivial
  all_goals repeat (with_reducible cases ‹_ ∧ _›)
  all_goals try subst_eqs
  all_goals try simp only [IntKind.wrap_i64, IntKind.wrap_u64, IntKind.wrap_u32, IntKind.wrap_u8, decide_eq_true_eq, decide_eq_false_iff_not, Bool.not_eq_true', Bool.not_eq_false', Bool.not_not, Bool.not_true, Bool.not_false, List.length_cons, List.length_nil, Int.toNat_natCast, UInt8.ofNat_toNat] at *
  all_goals try first | omega | (with_reducible rfl) | (with_reducible exact u8lt _)
  all_goals have hl := tk_le xs at_ bad 32
  all_goals rename Int => i
  · omega
  · simp only [List.length_append, List.length_take, List.length_replicate]
    omega
  · rw [show ((i + 1 + 9223372036854775808) % 18446744073709551616 - 9223372036854775808).toNat = i.toNat + 1 by omega]
    exact set_step _ _ (by omega) (by omega)
  · rw [List.take_of_length_le (by omega)]
    unfold sumv
    cases hk : rdOk xs at_ bad 32
    · rw [tk_no hk] at *
      simp only [List.length_nil] at *
      rw [show i.toNat = 0 by omega]
      rfl
    · have hl := tk_len xs at_ bad 32 (by assumption) (by decide) hk
      rw [show 32 - i.toNat = 0 by omega]
      unfold tk
      rw [hk]
      simp
theorem frsum_p : (FnIs Try.prog 41 ∧ FnOk Try.prog 41 frsum_s) ∧ (idsOk frsum_s.cs && idsOk frsum_s.cs' && Nat.ble frsum_s.n frsum_s.n') = true :=
  fn_of (l := [(56, ftk_s.call)]) (hi := ⟨[], [(3, frsum_a)]⟩) (S := frsum_s) (fn := Try.f41) (c := Try.f41.body.get!) tysOk mixOk ⟨ftk_m, trivial⟩ (by kernel_rfl) (by kernel_rfl) (by kernel_rfl) (by kernel_rfl) (by kernel_rfl) frsum_d
theorem frsum_m : May Try.prog (41, frsum_s.call) := may_call frsum_p
theorem frsum_n : May Try.prog (41, frsum_s.callN) := may_callN frsum_p

@[reducible] def frend_s : Spec := { rend_s with }
set_option maxHeartbeats 1000000 in
set_option maxRecDepth 100000 in
theorem frend_d : denF ⟨tys, []⟩ frend_s ⟨[(1, (tks 0 5 (.take 5 true (tks 6 11 (.last 17 false [] .done)))))], []⟩ Try.f43 := by
  intro xs at_ bad
  repeat' first | refine Is.mk ?_ | refine And.intro ?_ ?_ | (intro _)
  all_goals try dsimp only [maxLen, El.ty] at *
  all_goals try trivial
  all_goals repeat (with_reducible cases ‹_ ∧ _›)
  all_goals try subst_eqs
  all_goals try simp only [IntKind.wrap_i64, IntKind.wrap_u64, IntKind.wrap_u32, IntKind.wrap_u8, decide_eq_true_eq, decide_eq_false_iff_not, Bool.not_eq_true', Bool.not_eq_false', Bool.not_not, Bool.not_true, Bool.not_false, List.length_cons, List.length_nil, Int.toNat_natCast, UInt8.ofNat_toNat] at *
  all_goals try first | omega | (with_reducible rfl) | (with_reducible exact u8lt _)
  all_goals (subst_vars; simp)
theorem frend_p : (FnIs Try.prog 43 ∧ FnOk Try.prog 43 frend_s) ∧ (idsOk frend_s.cs && idsOk frend_s.cs' && Nat.ble frend_s.n frend_s.n') = true :=
  fn_of (l := []) (hi := ⟨[(1, (tks 0 5 (.take 5 true (tks 6 11 (.last 17 false [] .done)))))], []⟩) (S := frend_s) (fn := Try.f43) (c := Try.f43.body.get!) tysOk mixOk trivial (by kernel_rfl) (by kernel_rfl) (by kernel_rfl) (by kernel_rfl) (by kernel_rfl) frend_d
theorem frend_m : May Try.prog (43, frend_s.call) := may_call frend_p
theorem frend_n : May Try.prog (43, frend_s.callN) := may_callN frend_p

@[reducible] def frtext_s : Spec := { rtext_s with }
set_option maxHeartbeats 1000000 in
set_option maxRecDepth 100000 in
theorem frtext_d : denF ⟨tys, [(37, fru8_s.call), (56, ftk_s.call)]⟩ frtext_s ⟨[(3, (tks 0 4 (.take 4 true (tks 5 4 (.take 9 true (tks 10 13 .done))))))], []⟩ Try.f42 := by
  intro xs at_ bad m
  repeat' first | refine Is.mk ?_ | refine And.intro ?_ ?_ | (intro _)
  all_goals try dsimp only [maxLen, El.ty] at *
  all_goals try trivial
  all_goals repeat (with_reducible cases ‹_ ∧ _›)
  all_goals try subst_eqs
  all_goals try simp only [IntKind.wrap_i64, IntKind.wrap_u64, IntKind.wrap_u32, IntKind.wrap_u8, decide_eq_true_eq, decide_eq_false_iff_not, Bool.not_eq_true', Bool.not_eq_false', Bool.not_not, Bool.not_true, Bool.not_false, List.length_cons, List.length_nil, Int.toNat_natCast, UInt8.ofNat_toNat] at *
  all_goals try first | omega | (with_reducible rfl) | (with_reducible exact u8lt _)
  all_goals have hb := fb1 xs at_ bad
  all_goals have hin := adv_in xs at_ bad 1 ⟨by assumption, by assumption⟩ (by decide)
  all_goals try omega
  iterate 3 (· simp [tadv, tv, tOk, *])
  all_goals have hk : rdOk xs at_ bad 1 = true := by assumption
  all_goals have ha : adv xs at_ bad 1 = at_ + 1 := by simp [adv, hk]
  iterate 3
   · have h9 : ¬ (fb (tk xs at_ bad 1) ≤ m) := by omega
     simp [tadv, tv, tOk, hk, tn, h9]
  iterate 3
   · have h9 : ¬ (at_ + 1 + fb (tk xs at_ bad 1) ≤ xs.length) := by omega
     simp [tadv, tv, tOk, hk, tn, h9]
  all_goals
    have h8 : fb (tk xs at_ bad 1) ≤ m := by omega
    have h9 : at_ + 1 + fb (tk xs at_ bad 1) ≤ xs.length := by omega
    have hk2 : rdOk xs (at_ + 1) false (fb (tk xs at_ bad 1)) = true := by simp [rdOk, h9]
    rw [ha, hk]
  · simp [tadv, tOk, hk, tn, h8, h9, adv, hk2]
  · simp [tOk, hk, tn, h8, h9, hk2]
  · have e : tOk xs at_ bad m = true := by simp [tOk, hk, tn, h8, h9]
    show tk xs (at_ + 1) false (fb (tk xs at_ bad 1)) = tv xs at_ bad m
    unfold tv
    rw [if_pos e, tk, if_pos hk2]
    rfl
theorem frtext_p : (FnIs Try.prog 42 ∧ FnOk Try.prog 42 frtext_s) ∧ (idsOk frtext_s.cs && idsOk frtext_s.cs' && Nat.ble frtext_s.n frtext_s.n') = true :=
  fn_of (l := [(37, fru8_s.call), (56, ftk_s.call)]) (hi := ⟨[(3, (tks 0 4 (.take 4 true (tks 5 4 (.take 9 true (tks 10 13 .done))))))], []⟩) (S := frtext_s) (fn := Try.f42) (c := Try.f42.body.get!) tysOk mixOk ⟨fru8_m, ftk_m, trivial⟩ (by kernel_rfl) (by kernel_rfl) (by kernel_rfl) (by kernel_rfl) (by kernel_rfl) frtext_d
theorem frtext_m : May Try.prog (42, frtext_s.call) := may_call frtext_p
theorem frtext_n : May Try.prog (42, frtext_s.callN) := may_callN frtext_p

@[reducible] def same_s : Spec where
  n := 0
  cs := []
  ar := [.lend .u8, .lend .u8]
  pre := fun _ => True
  n' := 0
  cs' := []
  rs := [.el .bool]
  post := .fn fun (xs, ys, _) => (decide (xs = ys), ())
@[reducible] def same_a : Ann where
  nx := 0
  cs := []
  ss := [(0, .lend .u8), (1, .lend .u8), (5, .el (.int .i64))]
  inv := fun (x0, y0, _) (x, y, i, _) => x = x0 ∧ y = y0 ∧ 0 ≤ i ∧ i ≤ x.length ∧ x.take i.toNat = y.take i.toNat
  mu := fun (x, _, i, _) => x.length - i.toNat
set_option maxHeartbeats 1000000 in
set_option maxRecDepth 100000 in
theorem same_d : denF ⟨tys, []⟩ same_s ⟨[(6, (tks 0 9 .done))], [(4, same_a)]⟩ Try.f19 := by
  intro xs ys
  repeat' first | refine Is.mk ?_ | refine And.intro ?_ ?_ | (intro _)
  all_goals try dsimp only [maxLen, El.ty] at *
  all_goals try trivial
  all_goals repeat (with_reducible cases ‹_ ∧ _›)
  all_goals try subst_eqs
  all_goals try simp only [IntKind.wrap_i64, IntKind.wrap_u64, IntKind.wrap_u32, IntKind.wrap_u8, decide_eq_true_eq, decide_eq_false_iff_not, Bool.not_eq_true', Bool.not_eq_false', Bool.not_not, Bool.not_true, Bool.not_false, List.length_cons, List.length_nil, Int.toNat_natCast, UInt8.ofNat_toNat] at *
  all_goals try first | omega | (with_reducible rfl) | (with_reducible exact u8lt _)
  · have : xs ≠ ys := fun e => by subst e; omega
    simp [this]
  all_goals rename Int => i
  all_goals rename List.take _ _ = _ => h1
  · have : xs ≠ ys := fun e => by subst e; exact absurd rfl (by assumption)
    simp [this]
  · rw [show ((i + 1 + 9223372036854775808) % 18446744073709551616 - 9223372036854775808).toNat = i.toNat + 1 by omega, take_succ_getD _ _ (by omega), take_succ_getD _ _ (by omega), h1]
    congr 2
    exact UInt8.toNat_inj.1 (Int.ofNat_inj.1 (by assumption))
  · rw [List.take_of_length_le (by omega), List.take_of_length_le (by omega)] at h1
    simp [h1]
theorem same_p : (FnIs Try.prog 19 ∧ FnOk Try.prog 19 same_s) ∧ (idsOk same_s.cs && idsOk same_s.cs' && Nat.ble same_s.n same_s.n') = true :=
  fn_of (l := []) (hi := ⟨[(6, (tks 0 9 .done))], [(4, same_a)]⟩) (S := same_s) (fn := Try.f19) (c := Try.f19.body.get!) tysOk mixOk trivial (by kernel_rfl) (by kernel_rfl) (by kernel_rfl) (by kernel_rfl) (by kernel_rfl) same_d
theorem same_m : May Try.prog (19, same_s.call) := may_call same_p
theorem same_n : May Try.prog (19, same_s.callN) := may_callN same_p

@[reducible] def roomy_s : Spec where
  n := 0
  cs := []
  ar := [.lend .u8, .el .u8]
  pre := fun (xs, _) => xs.length ≤ 1000000000000
  n' := 1
  cs' := [(0, .row 5 .u8)]
  rs := [.own 0]
  post := .fn fun (xs, m, _) => (xs ++ List.replicate 80 m, ())
@[reducible] def roomy_a : Ann where
  nx := 1
  cs := [(0, .row 5 .u8)]
  ss := [(0, .lend .u8), (1, .el .u8), (5, .own 0), (6, .el (.int .i64))]
  inv := fun (_, s0, m0, _, _) (x, s, m, i, _) => s = s0 ∧ m = m0 ∧ s.length ≤ i ∧ i ≤ s.length + 80 ∧ x.length = s.length + 80 ∧ x.take i.toNat = s ++ List.replicate (i.toNat - s.length) m
  mu := fun (x, _, _, i, _) => x.length - i.toNat
theorem room_fill (l xs : List UInt8) (i : Nat) (m : UInt8) (h : xs.length ≤ i) (hi : i < l.length) (e : l.take i = xs ++ List.replicate (i - xs.length) m) : (l.set i m).take (i + 1) = xs ++ List.replicate (i + 1 - xs.length) m := by
  rw [take_succ_getD _ _ (by rw [List.length_set]; exact hi), List.take_set_of_le (Nat.le_refl i), e, show i + 1 - xs.length = (i - xs.length) + 1 by omega, List.replicate_succ', List.append_assoc]
  congr 3
  simp [List.getD, hi]
set_option maxHeartbeats 1000000 in
set_option maxRecDepth 100000 in
theorem roomy_d : denF ⟨tys, []⟩ roomy_s ⟨[], [(4, roomy_a)]⟩ Try.f25 := by
  intro xs m
  repeat' first | refine Is.mk ?_ | refine And.intro ?_ ?_ | (intro _)
  all_goals try dsimp only [maxLen, El.ty] at *
  all_goals try trivial
  all_goals repeat (with_reducible cases ‹_ ∧ _›)
  all_goals try subst_eqs
  all_goals try simp only [IntKind.wrap_i64, IntKind.wrap_u64, IntKind.wrap_u32, IntKind.wrap_u8, decide_eq_true_eq, decide_eq_false_iff_not, Bool.not_eq_true', Bool.not_eq_false', Bool.not_not, Bool.not_true, Bool.not_false, List.length_cons, List.length_nil, Int.toNat_natCast, UInt8.ofNat_toNat] at *
  all_goals try first | omega | (with_reducible rfl) | (with_reducible exact u8lt _)
  all_goals try (have e : List.take (List.replicate ((↑xs.length + 80 + 9223372036854775808) % 18446744073709551616 - 9223372036854775808 : Int).toNat El.u8.dflt).length xs ++ List.drop xs.length (List.replicate ((↑xs.length + 80 + 9223372036854775808) % 18446744073709551616 - 9223372036854775808 : Int).toNat El.u8.dflt) = xs ++ List.replicate 80 0 := by
                   rw [show ((↑xs.length + 80 + 9223372036854775808) % 18446744073709551616 - 9223372036854775808 : Int).toNat = xs.length + 80 by omega, List.length_replicate, List.take_of_length_le (by omega), List.drop_replicate, show xs.length + 80 - xs.length = 80 by omega]
                   rfl
                 rw [e])
  · rw [List.length_append, List.length_replicate]
  · simp
  all_goals rename Int => i
  · rw [List.length_set]
    assumption
  · rw [show ((i + 1 + 9223372036854775808) % 18446744073709551616 - 9223372036854775808).toNat = i.toNat + 1 by omega]
    exact room_fill _ _ _ _ (by omega) (by omega) (by assumption)
  · rw [List.length_set]
    omega
  · rename List.take _ _ = _ => h
    rw [List.take_of_length_le (by omega)] at h
    rw [h, show i.toNat - xs.length = 80 by omega]
theorem roomy_p : (FnIs Try.prog 25 ∧ FnOk Try.prog 25 roomy_s) ∧ (idsOk roomy_s.cs && idsOk roomy_s.cs' && Nat.ble roomy_s.n roomy_s.n') = true :=
  fn_of (l := []) (hi := ⟨[], [(4, roomy_a)]⟩) (S := roomy_s) (fn := Try.f25) (c := Try.f25.body.get!) tysOk mixOk trivial (by kernel_rfl) (by kernel_rfl) (by kernel_rfl) (by kernel_rfl) (by kernel_rfl) roomy_d
theorem roomy_m : May Try.prog (25, roomy_s.call) := may_call roomy_p
theorem roomy_n : May Try.prog (25, roomy_s.callN) := may_callN roomy_p

end Go.J
