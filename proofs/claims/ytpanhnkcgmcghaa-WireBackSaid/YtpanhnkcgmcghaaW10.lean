/-
  WIRE: what was written comes back.
-/
import Derived.Test.YtpanhnkcgmcghaaW9
set_option linter.unusedSimpArgs false
set_option linter.unusedVariables false
set_option linter.unusedSectionVars false
namespace Go.J
open Go.Proofs

theorem i64_and255 (n : Int) : bits .and .i64 n 255 = n % 256 := by
  show IntKind.i64.wrap ((BitVec.ofInt 64 n &&& BitVec.ofInt 64 255).toNat : Int) = _
  rw [BitVec.toNat_and, show (BitVec.ofInt 64 255).toNat = 2 ^ 8 - 1 by decide, Nat.and_two_pow_sub_one_eq_mod, BitVec.toNat_ofInt, IntKind.wrap_i64]
  have e : ((2 ^ 64 : Nat) : Int) = 18446744073709551616 := by decide
  rw [e]
  omega
theorem fb_be1 (n : Int) : fb (be 1 n) = n % 256 := by
  have e : be 1 n = be 1 (n % 256) := by
    simp only [be, show (256 : Int) ^ 0 = 1 by decide, Int.ediv_one, Int.emod_emod]
  rw [e]
  exact fb_be 1 _ (Int.emod_nonneg _ (by decide)) (Int.emod_lt_of_pos _ (by decide))
theorem tadv_in2 (xs : List UInt8) (at_ : Int) (bad : Bool) (m : Int) (h : 0 ≤ at_ ∧ at_ ≤ xs.length) : 0 ≤ tadv xs at_ bad m ∧ tadv xs at_ bad m ≤ xs.length := by
  unfold tadv
  split
  · next hk =>
    simp only [tOk, Bool.and_eq_true, decide_eq_true_eq] at hk
    have := fb1 xs at_ bad
    unfold tn at *
    omega
  · exact h
theorem tn_cut (p t : List UInt8) (j : Nat) (hj : p.length + 1 ≤ j) : tn ((p ++ txt t).take j) p.length false = min t.length 255 := by
  have e : (p ++ txt t).take j = p ++ ([UInt8.ofNat (min t.length 255)] ++ (t.take 255).take (j - p.length - 1)) := by
    rw [List.take_append, List.take_of_length_le (by omega)]
    obtain ⟨k, hk⟩ : ∃ k, j - p.length = k + 1 := ⟨j - p.length - 1, by omega⟩
    rw [hk]
    rfl
  unfold tn
  rw [e, tk_mid p [_] _ 1 rfl]
  simp only [fb, List.foldl_cons, List.foldl_nil]
  rw [UInt8.toNat_ofNat_of_lt' (by show min t.length 255 < 256; omega)]
  omega
theorem tOk_bad (C : List UInt8) (a m : Int) : tOk C a true m = false := rfl
theorem cut_bad (p t : List UInt8) (j : Nat) (hp : p.length = 13) (hj : j < (p ++ txt t).length) (C : List UInt8) (hC : C = (p ++ txt t).take j) :
    tOk C (adv C (adv C (adv C 0 false 1) (!rdOk C 0 false 1) 4) (!rdOk C (adv C 0 false 1) (!rdOk C 0 false 1) 4) 8) (!rdOk C (adv C (adv C 0 false 1) (!rdOk C 0 false 1) 4) (!rdOk C (adv C 0 false 1) (!rdOk C 0 false 1) 4) 8) 255 = false := by
  have hl : C.length = j := by rw [hC, List.length_take]; omega
  rw [List.length_append, txt_len] at hj
  by_cases h1 : 1 ≤ C.length
  · have r1 : rdOk C 0 false 1 = true := rd_yes (by omega)
    rw [adv_yes r1, r1]
    simp only [Bool.not_true, Int.zero_add]
    by_cases h2 : 5 ≤ C.length
    · have r2 : rdOk C 1 false 4 = true := rd_yes (by omega)
      rw [adv_yes r2, r2]
      simp only [Bool.not_true, show (1 : Int) + 4 = 5 by decide]
      by_cases h3 : 13 ≤ C.length
      · have r3 : rdOk C 5 false 8 = true := rd_yes (by omega)
        rw [adv_yes r3, r3]
        simp only [Bool.not_true, show (5 : Int) + 8 = 13 by decide]
        by_cases h4 : 14 ≤ C.length
        · have e := tn_cut p t j (by omega)
          rw [hp, ← hC] at e
          have e : tn C 13 false = min t.length 255 := e
          unfold tOk
          rw [e, show decide ((13 : Int) + 1 + ((min t.length 255 : Nat) : Int) ≤ (C.length : Int)) = false from decide_eq_false (by omega), Bool.and_false]
        · have r4 : rdOk C 13 false 1 = false := rd_no (by omega)
          unfold tOk
          rw [r4]
          rfl
      · have r3 : rdOk C 5 false 8 = false := rd_no (by omega)
        rw [r3]
        exact tOk_bad _ _ _
    · have r2 : rdOk C 1 false 4 = false := rd_no (by omega)
      rw [r2]
      exact tOk_bad _ _ _
  · have r1 : rdOk C 0 false 1 = false := rd_no (by omega)
    rw [r1]
    exact tOk_bad _ _ _
theorem back_facts (n u v : Int) (t : List UInt8) (hu : 0 ≤ u ∧ u < 4294967296) (hv : 0 ≤ v ∧ v < 18446744073709551616) (ht : t.length ≤ 100) (B : List UInt8) (hB : be 1 n ++ be 4 u ++ be 8 v ++ txt t = B) :
    B.length = 14 + t.length ∧ rdOk B 0 false 1 = true ∧ adv B 0 false 1 = 1 ∧ fb (tk B 0 false 1) = n % 256 ∧ rdOk B 1 false 4 = true ∧ adv B 1 false 4 = 5 ∧ fb (tk B 1 false 4) = u ∧ rdOk B 5 false 8 = true ∧ adv B 5 false 8 = 13 ∧
      fb (tk B 5 false 8) = v ∧ tOk B 13 false 255 = true ∧ tv B 13 false 255 = t ∧ tadv B 13 false 255 = 14 + t.length := by
  have e0 : B = [] ++ (be 1 n ++ (be 4 u ++ be 8 v ++ txt t)) := by rw [← hB]; simp
  have e1 : B = be 1 n ++ (be 4 u ++ (be 8 v ++ txt t)) := by rw [← hB]; simp
  have e2 : B = (be 1 n ++ be 4 u) ++ (be 8 v ++ txt t) := by rw [← hB]; simp
  have e3 : B = (be 1 n ++ be 4 u ++ be 8 v) ++ (txt t ++ []) := by rw [← hB]; simp
  have l1 : ((be 1 n).length : Int) = 1 := by rw [be_length]; rfl
  have l4 : ((be 4 u).length : Int) = 4 := by rw [be_length]; rfl
  have l8 : ((be 8 v).length : Int) = 8 := by rw [be_length]; rfl
  have p2 : ((be 1 n ++ be 4 u).length : Int) = 5 := by rw [List.length_append, be_length, be_length]; rfl
  have p3 : ((be 1 n ++ be 4 u ++ be 8 v).length : Int) = 13 := by rw [List.length_append, List.length_append, be_length, be_length, be_length]; rfl
  have hm : min t.length 255 = t.length := by omega
  refine ⟨?_, ?_, ?_, ?_, ?_, ?_, ?_, ?_, ?_, ?_, ?_, ?_, ?_⟩
  · rw [e3]; simp only [List.length_append, be_length, txt_len, List.length_nil]; omega
  · rw [e0]; exact rd_mid [] _ _ 1 l1
  · rw [e0]; exact adv_mid [] _ _ 1 l1
  · rw [e0, show (0 : Int) = (([] : List UInt8).length : Int) from rfl, tk_mid [] _ _ 1 l1, fb_be1]
  · rw [e1, ← l1]; exact rd_mid _ _ _ 4 l4
  · have := adv_mid (be 1 n) (be 4 u) (be 8 v ++ txt t) 4 l4; rw [l1] at this; rw [e1]; exact this
  · have := tk_mid (be 1 n) (be 4 u) (be 8 v ++ txt t) 4 l4; rw [l1] at this; rw [e1, this]; exact fb_be 4 u hu.1 hu.2
  · have := rd_mid (be 1 n ++ be 4 u) (be 8 v) (txt t) 8 l8; rw [p2] at this; rw [e2]; exact this
  · have := adv_mid (be 1 n ++ be 4 u) (be 8 v) (txt t) 8 l8; rw [p2] at this; rw [e2]; exact this
  · have := tk_mid (be 1 n ++ be 4 u) (be 8 v) (txt t) 8 l8; rw [p2] at this; rw [e2, this]; exact fb_be 8 v hv.1 hv.2
  · have := tOk_mid (be 1 n ++ be 4 u ++ be 8 v) t [] 255; rw [p3] at this; rw [e3, this]; exact decide_eq_true (by omega)
  · have := tv_mid (be 1 n ++ be 4 u ++ be 8 v) t [] 255 (by omega); rw [p3] at this; rw [e3, this, List.take_of_length_le (by omega)]
  · have := tadv_mid (be 1 n ++ be 4 u ++ be 8 v) t [] 255 (by omega); rw [p3] at this; rw [e3, this]; omega

@[reducible] def wireBack_s : Spec where
  n := 0
  cs := []
  ar := [.el (.int .i64), .el (.int .u32), .el (.int .u64), .el .str, .el (.int .i64)]
  pre := fun (n, u, v, _, c, _) => (-9223372036854775808 ≤ n ∧ n ≤ 9223372036854775807) ∧ (0 ≤ u ∧ u < 4294967296) ∧ (0 ≤ v ∧ v < 18446744073709551616) ∧ -9223372036854775808 ≤ c ∧ c ≤ 9223372036854775807
  n' := 0
  cs' := []
  rs := [.el .bool]
  post := .fn fun _ => (true, ())
set_option maxHeartbeats 1000000 in
set_option maxRecDepth 100000 in
theorem wireBack_d : denF ⟨tys, [(26, u8_s.callN), (20, u32_s.callN), (29, u64_s.callN), (21, text_s.callN), (17, read_s.callN), (24, within_s.callN), (33, ru8_s.callN), (34, ru32_s.callN), (35, ru64_s.callN), (18, rtext_s.callN), (36, rend_s.callN), (22, rbad_s.callN), (23, rat_s.callN), (3, wireRuns_s.callN)]⟩ wireBack_s ⟨[], []⟩ Try.f7 := by
  intro n u v s c
  repeat' first | refine Is.mk ?_ | refine And.intro ?_ ?_ | (intro _)
  all_goals try dsimp only [maxLen, El.ty] at *
  all_goals try trivial
  all_goals repeat (with_reducible cases ‹_ ∧ _›)
  all_goals try subst_eqs
  all_goals try simp only [IntKind.wrap_i64, IntKind.wrap_u64, IntKind.wrap_u32, IntKind.wrap_u8, decide_eq_true_eq, decide_eq_false_iff_not, Bool.not_eq_true', Bool.not_eq_false', Bool.not_not, Bool.not_true, Bool.not_false, List.length_cons, List.length_nil, Int.toNat_natCast, UInt8.ofNat_toNat] at *
  all_goals try first | omega | (with_reducible rfl) | (with_reducible exact u8lt _)
  all_goals repeat (with_reducible cases ‹Nm _ _›)
  all_goals try subst_eqs
  all_goals obtain ⟨t, ht, hl⟩ : ∃ t, List.take ((if 100 < (s.length : Int) then 100 else (s.length : Int)) - 0).toNat (List.drop (Int.toNat 0) s) = t ∧ t.length ≤ 100 := ⟨_, rfl, by rw [List.length_take]; split <;> omega⟩
  all_goals simp only [ht, List.nil_append] at *
  all_goals try (simp only [List.length_append, be_length, txt_len]; omega)
  all_goals obtain ⟨B, hB⟩ : ∃ B, be 1 (n % 18446744073709551616) ++ be 4 u ++ be 8 v ++ txt t = B := ⟨_, rfl⟩
  all_goals obtain ⟨f1, f2, f3, f4, f5, f6, f7, f8, f9, f10, f11, f12, f13⟩ := back_facts (n % 18446744073709551616) u v t ⟨by assumption, by assumption⟩ ⟨by assumption, by assumption⟩ hl B hB
  all_goals have hcutA := fun (j : Nat) (h1 : j < B.length) (C : List UInt8) (h2 : C = B.take j) => cut_bad (be 1 (n % 18446744073709551616) ++ be 4 u ++ be 8 v) t j (by simp only [List.length_append, be_length]) (by rw [hB]; exact h1) C (by rw [hB]; exact h2)
  all_goals simp only [hB, f2, f3, f4, f5, f6, f7, f8, f9, f10, f11, f12, f13, i64_and255, Bool.not_true, not_true_eq_false] at *
  all_goals try omega
  all_goals have hw : ((B.length : Int) - 1 + 9223372036854775808) % 18446744073709551616 - 9223372036854775808 = 13 + t.length := by omega
  all_goals simp only [hw] at *
  all_goals have c0 : 0 ≤ c % (13 + (t.length : Int) - 0 + 1) := Int.emod_nonneg _ (by omega)
  all_goals have c1 : c % (13 + (t.length : Int) - 0 + 1) < 13 + (t.length : Int) - 0 + 1 := Int.emod_lt_of_pos _ (by omega)
  all_goals generalize hj : 0 + c % (13 + (t.length : Int) - 0 + 1) = j at *
  all_goals try omega
  all_goals obtain ⟨C, hC⟩ : ∃ C, List.take (j - 0).toNat (List.drop (Int.toNat 0) B) = C := ⟨_, rfl⟩
  all_goals have hCl : C.length ≤ 200 := by rw [← hC]; simp only [List.length_take, List.length_drop]; omega
  all_goals have hcut := hcutA (j - 0).toNat (by omega) C hC.symm
  all_goals simp only [hC, hcut, Bool.not_false, Bool.not_true, Bool.false_eq_true, reduceCtorEq, not_true_eq_false] at *
  all_goals try omega
  all_goals try simp only [Bool.true_and, Bool.false_and, decide_eq_false_iff_not, decide_eq_true_eq, Bool.false_eq_true, reduceCtorEq] at *
  all_goals try omega
  all_goals have a1 := adv_in C 0 false 1 ⟨by decide, by omega⟩ (by decide)
  all_goals have a2 := adv_in C _ (!rdOk C 0 false 1) 4 a1 (by decide)
  all_goals have a3 := adv_in C _ (!rdOk C (adv C 0 false 1) (!rdOk C 0 false 1) 4) 8 a2 (by decide)
  all_goals have a4 := tadv_in2 C _ (!rdOk C (adv C (adv C 0 false 1) (!rdOk C 0 false 1) 4) (!rdOk C (adv C 0 false 1) (!rdOk C 0 false 1) 4) 8) 255 a3
  all_goals try first | exact a1.1 | exact a1.2 | exact a2.1 | exact a2.2 | exact a3.1 | exact a3.2 | exact a4.1 | exact a4.2
  rename false = decide _ => hd
  have hd2 := of_decide_eq_false hd.symm
  omega
theorem wireBack_p : (FnIs Try.prog 7 ∧ FnOk Try.prog 7 wireBack_s) ∧ (idsOk wireBack_s.cs && idsOk wireBack_s.cs' && Nat.ble wireBack_s.n wireBack_s.n') = true :=
  fn_of (l := [(26, u8_s.callN), (20, u32_s.callN), (29, u64_s.callN), (21, text_s.callN), (17, read_s.callN), (24, within_s.callN), (33, ru8_s.callN), (34, ru32_s.callN), (35, ru64_s.callN), (18, rtext_s.callN), (36, rend_s.callN), (22, rbad_s.callN), (23, rat_s.callN), (3, wireRuns_s.callN)]) (hi := ⟨[], []⟩) (S := wireBack_s) (fn := Try.f7) (c := Try.f7.body.get!) tysOk mixOk ⟨u8_n, u32_n, u64_n, text_n, read_n, within_n, ru8_n, ru32_n, ru64_n, rtext_n, rend_n, rbad_n, rat_n, wireRuns_n, trivial⟩ (by kernel_rfl) (by kernel_rfl) (by kernel_rfl) (by kernel_rfl) (by kernel_rfl) wireBack_d
theorem wireBack_m : May Try.prog (7, wireBack_s.call) := may_call wireBack_p
theorem wireBack_n : May Try.prog (7, wireBack_s.callN) := may_callN wireBack_p
end Go.J
