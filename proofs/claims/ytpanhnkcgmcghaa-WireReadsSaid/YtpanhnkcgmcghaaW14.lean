/-
  WIRE: each call's answer is the document's own.
-/
import Derived.Test.YtpanhnkcgmcghaaW13
set_option linter.unusedSimpArgs false
set_option linter.unusedVariables false
set_option linter.unusedSectionVars false
namespace Go.J
open Go.Proofs

theorem tadv_in (xs : List UInt8) (at_ : Int) (bad : Bool) (m : Int) (h : 0 ≤ at_ ∧ at_ ≤ xs.length) : 0 ≤ tadv xs at_ bad m ∧ tadv xs at_ bad m ≤ xs.length := by
  unfold tadv
  split
  · next hk =>
    simp only [tOk, Bool.and_eq_true, decide_eq_true_eq] at hk
    have := fb1 xs at_ bad
    unfold tn at *
    omega
  · exact h

@[reducible] def wireReads_s : Spec where
  n := 0
  cs := []
  ar := [.el (.rd .u8), .el (.rd ask)]
  pre := fun _ => True
  n' := 0
  cs' := []
  rs := [.el .bool]
  post := .fn fun _ => (true, ())
@[reducible] def wireReads_a : Ann where
  nx := 2
  cs := [(0, .own rdr), (1, .own rdr)]
  ss := [(0, .el (.rd .u8)), (1, .el (.rd ask)), (5, .el (.rd .u8)), (6, .ref 0), (7, .ref 1), (8, .el (.int .i64))]
  inv := fun (_, _, _, _, _, _, b0, l0, f0, _, _) (x, a, d, x2, a2, d2, b, l, f, i, _) => b = b0 ∧ l = l0 ∧ f = f0 ∧ x = b0 ∧ x2 = b0 ∧ a2 = a ∧ d2 = d ∧ 0 ≤ a ∧ a ≤ b0.length ∧ 0 ≤ i ∧ i ≤ 30
  mu := fun (_, _, _, _, _, _, _, _, _, i, _) => 30 - i.toNat
set_option maxHeartbeats 1000000 in
set_option maxRecDepth 100000 in
theorem wireReads_d : denF ⟨tys, [(25, roomy_s.call), (17, read_s.call), (33, ru8_s.call), (37, fru8_s.call), (34, ru32_s.call), (38, fru32_s.call), (35, ru64_s.call), (39, fru64_s.call), (40, rsum_s.call), (41, frsum_s.call), (18, rtext_s.call), (42, frtext_s.call), (36, rend_s.call), (43, frend_s.call), (23, rat_s.call), (22, rbad_s.call), (32, intact_s.call), (3, wireRuns_s.call)]⟩ wireReads_s ⟨[(20, (tks 0 6 (tks 7 6 (.last 6 false [10, 12] (.last 13 false [] (.take 14 false (.last 15 false [] .done))))))), (23, (tks 0 2 (.take 2 true (.take 3 false (tks 5 4 (.last 4 false [8] (tks 9 2 (.take 11 true (.take 12 false (tks 14 4 (.last 13 false [17] (tks 18 2 .done))))))))))))], [(7, wireReads_a)]⟩ Try.f8 := by
  intro b l
  repeat' first | refine Is.mk ?_ | refine And.intro ?_ ?_ | (intro _)
  all_goals try dsimp only [maxLen, El.ty] at *
  all_goals try trivial
  all_goals repeat (with_reducible cases ‹_ ∧ _›)
  all_goals try subst_eqs
  all_goals try simp only [IntKind.wrap_i64, IntKind.wrap_u64, IntKind.wrap_u32, IntKind.wrap_u8, decide_eq_true_eq, decide_eq_false_iff_not, Bool.not_eq_true', Bool.not_eq_false', Bool.not_not, Bool.not_true, Bool.not_false, List.length_cons, List.length_nil, Int.toNat_natCast, UInt8.ofNat_toNat] at *
  all_goals try first | omega | (with_reducible rfl) | (with_reducible exact u8lt _)
  all_goals obtain ⟨t, ht, hl⟩ : ∃ t, List.take ((if 200 < (b.length : Int) then 200 else (b.length : Int)) - 0).toNat (List.drop (Int.toNat 0) b) = t ∧ t.length ≤ 200 := ⟨_, rfl, by rw [List.length_take]; split <;> omega⟩
  all_goals have e2 : List.take ((t.length : Int) - 0).toNat (List.drop (Int.toNat 0) (t ++ List.replicate 80 (UInt8.ofNat (Int.toNat 7)))) = t := by
              rw [show ((t.length : Int) - 0).toNat = t.length by omega, show Int.toNat 0 = 0 from rfl, List.drop_zero, List.take_left]
  all_goals simp only [ht, e2, not_true_eq_false] at *
  all_goals try simp only [List.length_append, List.length_replicate] at *
  all_goals try omega
  all_goals try rfl
  all_goals try first
    | exact (adv_in _ _ _ _ ⟨by assumption, by assumption⟩ (by decide)).1
    | exact (adv_in _ _ _ _ ⟨by assumption, by assumption⟩ (by decide)).2
    | exact (tadv_in _ _ _ _ ⟨by assumption, by assumption⟩).1
    | exact (tadv_in _ _ _ _ ⟨by assumption, by assumption⟩).2
theorem wireReads_p : (FnIs Try.prog 8 ∧ FnOk Try.prog 8 wireReads_s) ∧ (idsOk wireReads_s.cs && idsOk wireReads_s.cs' && Nat.ble wireReads_s.n wireReads_s.n') = true :=
  fn_of (l := [(25, roomy_s.call), (17, read_s.call), (33, ru8_s.call), (37, fru8_s.call), (34, ru32_s.call), (38, fru32_s.call), (35, ru64_s.call), (39, fru64_s.call), (40, rsum_s.call), (41, frsum_s.call), (18, rtext_s.call), (42, frtext_s.call), (36, rend_s.call), (43, frend_s.call), (23, rat_s.call), (22, rbad_s.call), (32, intact_s.call), (3, wireRuns_s.call)]) (hi := ⟨[(20, (tks 0 6 (tks 7 6 (.last 6 false [10, 12] (.last 13 false [] (.take 14 false (.last 15 false [] .done))))))), (23, (tks 0 2 (.take 2 true (.take 3 false (tks 5 4 (.last 4 false [8] (tks 9 2 (.take 11 true (.take 12 false (tks 14 4 (.last 13 false [17] (tks 18 2 .done))))))))))))], [(7, wireReads_a)]⟩) (S := wireReads_s) (fn := Try.f8) (c := Try.f8.body.get!) tysOk mixOk ⟨roomy_m, read_m, ru8_m, fru8_m, ru32_m, fru32_m, ru64_m, fru64_m, rsum_m, frsum_m, rtext_m, frtext_m, rend_m, frend_m, rat_m, rbad_m, intact_m, wireRuns_m, trivial⟩ (by kernel_rfl) (by kernel_rfl) (by kernel_rfl) (by kernel_rfl) (by kernel_rfl) wireReads_d
theorem wireReads_m : May Try.prog (8, wireReads_s.call) := may_call wireReads_p
theorem wireReads_n : May Try.prog (8, wireReads_s.callN) := may_callN wireReads_p
end Go.J
