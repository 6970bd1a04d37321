/-
  WIRE: the document's own; lists of bytes.
-/
import Derived.Test.YtpanhnkcgmcghaaW3
set_option linter.unusedSimpArgs false
set_option linter.unusedVariables false
set_option linter.unusedSectionVars false
namespace Go.J
open Go.Proofs

theorem be8 (n : Int) (h : 0 ≤ n ∧ n < 18446744073709551616) : be 8 n = be 4 (n / 4294967296 % 4294967296) ++ be 4 (n % 4294967296) := by
  simp only [be, show (256 : Int) ^ 7 = 72057594037927936 by decide, show (256 : Int) ^ 6 = 281474976710656 by decide, show (256 : Int) ^ 5 = 1099511627776 by decide, show (256 : Int) ^ 4 = 4294967296 by decide, show (256 : Int) ^ 3 = 16777216 by decide, show (256 : Int) ^ 2 = 65536 by decide, show (256 : Int) ^ 1 = 256 by decide, show (256 : Int) ^ 0 = 1 by decide, List.cons_append, List.nil_append]
  congr 2
  · omega
  congr 2
  · omega
  congr 2
  · omega
  congr 2
  · omega
  congr 2
  · omega
  congr 2
  · omega
  congr 2
  · omega
  congr 2
  omega

@[reducible] def fu8_s : Spec := { u8_s with }
set_option maxHeartbeats 1000000 in
set_option maxRecDepth 100000 in
theorem fu8_d : denF ⟨tys, []⟩ fu8_s ⟨[], []⟩ Try.f27 := by
  intro xs n
  repeat' first | refine Is.mk ?_ | refine And.intro ?_ ?_ | (intro _)
  all_goals try dsimp only [maxLen, El.ty] at *
  all_goals try trivial
  all_goals repeat (with_reducible cases ‹_ ∧ _›)
  all_goals try subst_eqs
  all_goals try simp only [IntKind.wrap_i64, IntKind.wrap_u64, IntKind.wrap_u32, IntKind.wrap_u8, decide_eq_true_eq, decide_eq_false_iff_not, Bool.not_eq_true', Bool.not_eq_false', Bool.not_not, Bool.not_true, Bool.not_false, List.length_cons, List.length_nil, Int.toNat_natCast, UInt8.ofNat_toNat] at *
  all_goals try first | omega | (with_reducible rfl) | (with_reducible exact u8lt _)
  all_goals simp only [List.nil_append]
  · omega
  · omega
  · simp only [be]
    congr 3
    omega
theorem fu8_p : (FnIs Try.prog 27 ∧ FnOk Try.prog 27 fu8_s) ∧ (idsOk fu8_s.cs && idsOk fu8_s.cs' && Nat.ble fu8_s.n fu8_s.n') = true :=
  fn_of (l := []) (hi := ⟨[], []⟩) (S := fu8_s) (fn := Try.f27) (c := Try.f27.body.get!) tysOk mixOk trivial (by kernel_rfl) (by kernel_rfl) (by kernel_rfl) (by kernel_rfl) (by kernel_rfl) fu8_d
theorem fu8_m : May Try.prog (27, fu8_s.call) := may_call fu8_p
theorem fu8_n : May Try.prog (27, fu8_s.callN) := may_callN fu8_p
@[reducible] def fu32_s : Spec := { u32_s with }
set_option maxHeartbeats 1000000 in
set_option maxRecDepth 100000 in
theorem fu32_d : denF ⟨tys, []⟩ fu32_s ⟨[], []⟩ Try.f28 := by
  intro xs n
  repeat' first | refine Is.mk ?_ | refine And.intro ?_ ?_ | (intro _)
  all_goals try dsimp only [maxLen, El.ty] at *
  all_goals try trivial
  all_goals repeat (with_reducible cases ‹_ ∧ _›)
  all_goals try subst_eqs
  all_goals try simp only [IntKind.wrap_i64, IntKind.wrap_u64, IntKind.wrap_u32, IntKind.wrap_u8, decide_eq_true_eq, decide_eq_false_iff_not, Bool.not_eq_true', Bool.not_eq_false', Bool.not_not, Bool.not_true, Bool.not_false, List.length_cons, List.length_nil, Int.toNat_natCast, UInt8.ofNat_toNat] at *
  all_goals try first | omega | (with_reducible rfl) | (with_reducible exact u8lt _)
  all_goals simp only [List.nil_append]
  · omega
  · omega
  · simp only [be, Int.fdiv_eq_ediv_of_nonneg _ (show (0 : Int) ≤ 2 ^ min (Int.toNat 24) IntKind.u32.bits by decide), Int.fdiv_eq_ediv_of_nonneg _ (show (0 : Int) ≤ 2 ^ min (Int.toNat 16) IntKind.u32.bits by decide), Int.fdiv_eq_ediv_of_nonneg _ (show (0 : Int) ≤ 2 ^ min (Int.toNat 8) IntKind.u32.bits by decide), show (256 : Int) ^ 0 = 1 by decide, Int.ediv_one]
    rfl
theorem fu32_p : (FnIs Try.prog 28 ∧ FnOk Try.prog 28 fu32_s) ∧ (idsOk fu32_s.cs && idsOk fu32_s.cs' && Nat.ble fu32_s.n fu32_s.n') = true :=
  fn_of (l := []) (hi := ⟨[], []⟩) (S := fu32_s) (fn := Try.f28) (c := Try.f28.body.get!) tysOk mixOk trivial (by kernel_rfl) (by kernel_rfl) (by kernel_rfl) (by kernel_rfl) (by kernel_rfl) fu32_d
theorem fu32_m : May Try.prog (28, fu32_s.call) := may_call fu32_p
theorem fu32_n : May Try.prog (28, fu32_s.callN) := may_callN fu32_p
@[reducible] def fu64_s : Spec := { u64_s with pre := fun (xs, n, _) => xs.length ≤ 100000000000 ∧ 0 ≤ n ∧ n < 18446744073709551616 }
set_option maxHeartbeats 1000000 in
set_option maxRecDepth 100000 in
theorem fu64_d : denF ⟨tys, [(28, fu32_s.call)]⟩ fu64_s ⟨[], []⟩ Try.f30 := by
  intro xs n
  repeat' first | refine Is.mk ?_ | refine And.intro ?_ ?_ | (intro _)
  all_goals try dsimp only [maxLen, El.ty] at *
  all_goals try trivial
  all_goals repeat (with_reducible cases ‹_ ∧ _›)
  all_goals try subst_eqs
  all_goals try simp only [IntKind.wrap_i64, IntKind.wrap_u64, IntKind.wrap_u32, IntKind.wrap_u8, decide_eq_true_eq, decide_eq_false_iff_not, Bool.not_eq_true', Bool.not_eq_false', Bool.not_not, Bool.not_true, Bool.not_false, List.length_cons, List.length_nil, Int.toNat_natCast, UInt8.ofNat_toNat] at *
  all_goals try first | omega | (with_reducible rfl) | (with_reducible exact u8lt _)
  all_goals rw [Int.fdiv_eq_ediv_of_nonneg _ (show (0 : Int) ≤ 2 ^ min (Int.toNat 32) IntKind.u64.bits by decide), show (2 : Int) ^ min (Int.toNat 32) IntKind.u64.bits = 4294967296 by decide]
  · simp only [List.length_append, be_length]
    omega
  · rw [be8]
    · simp only [List.append_assoc]
    · omega
theorem fu64_p : (FnIs Try.prog 30 ∧ FnOk Try.prog 30 fu64_s) ∧ (idsOk fu64_s.cs && idsOk fu64_s.cs' && Nat.ble fu64_s.n fu64_s.n') = true :=
  fn_of (l := [(28, fu32_s.call)]) (hi := ⟨[], []⟩) (S := fu64_s) (fn := Try.f30) (c := Try.f30.body.get!) tysOk mixOk ⟨fu32_m, trivial⟩ (by kernel_rfl) (by kernel_rfl) (by kernel_rfl) (by kernel_rfl) (by kernel_rfl) fu64_d
theorem fu64_m : May Try.prog (30, fu64_s.call) := may_call fu64_p
theorem fu64_n : May Try.prog (30, fu64_s.callN) := may_callN fu64_p
@[reducible] def ftext_s : Spec := { text_s with }
set_option maxHeartbeats 1000000 in
set_option maxRecDepth 100000 in
theorem ftext_d : denF ⟨tys, [(27, fu8_s.call)]⟩ ftext_s ⟨[], []⟩ Try.f31 := by
  intro xs s
  repeat' first | refine Is.mk ?_ | refine And.intro ?_ ?_ | (intro _)
  all_goals try dsimp only [maxLen, El.ty] at *
  all_goals try trivial
  all_goals repeat (with_reducible cases ‹_ ∧ _›)
  all_goals try subst_eqs
  all_goals try simp only [IntKind.wrap_i64, IntKind.wrap_u64, IntKind.wrap_u32, IntKind.wrap_u8, decide_eq_true_eq, decide_eq_false_iff_not, Bool.not_eq_true', Bool.not_eq_false', Bool.not_not, Bool.not_true, Bool.not_false, List.length_cons, List.length_nil, Int.toNat_natCast, UInt8.ofNat_toNat] at *
  all_goals try first | omega | (with_reducible rfl) | (with_reducible exact u8lt _)
  all_goals have e : List.take (255 - 0 : Int).toNat (List.drop (Int.toNat 0) s) = s.take 255 := rfl
  all_goals try rw [e]
  all_goals try simp only [List.length_append, be_length, List.length_take]
  all_goals try omega
  · simp only [be, txt, List.append_assoc, List.singleton_append]
    congr 3
    omega
  · simp only [be, txt, List.append_assoc, List.singleton_append]
    rw [List.take_of_length_le (by omega)]
    congr 3
    omega
theorem ftext_p : (FnIs Try.prog 31 ∧ FnOk Try.prog 31 ftext_s) ∧ (idsOk ftext_s.cs && idsOk ftext_s.cs' && Nat.ble ftext_s.n ftext_s.n') = true :=
  fn_of (l := [(27, fu8_s.call)]) (hi := ⟨[], []⟩) (S := ftext_s) (fn := Try.f31) (c := Try.f31.body.get!) tysOk mixOk ⟨fu8_m, trivial⟩ (by kernel_rfl) (by kernel_rfl) (by kernel_rfl) (by kernel_rfl) (by kernel_rfl) ftext_d
theorem ftext_m : May Try.prog (31, ftext_s.call) := may_call ftext_p
theorem ftext_n : May Try.prog (31, ftext_s.callN) := may_callN ftext_p

end Go.J
