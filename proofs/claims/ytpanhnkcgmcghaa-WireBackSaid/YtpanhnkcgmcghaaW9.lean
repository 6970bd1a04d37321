/-
  WIRE: the laws.
-/
import Derived.Test.YtpanhnkcgmcghaaW8
set_option linter.unusedSimpArgs false
set_option linter.unusedVariables false
set_option linter.unusedSectionVars false
namespace Go.J
open Go.Proofs

theorem txt_len (t : List UInt8) : (txt t).length = 1 + min t.length 255 := by simp [txt]; omega
theorem rd_mid (p q r : List UInt8) (n : Int) (hn : (q.length : Int) = n) : rdOk (p ++ (q ++ r)) p.length false n = true := by
  unfold rdOk
  simp only [List.length_append, Bool.not_false, Bool.true_and, decide_eq_true_eq]
  omega
theorem tk_mid (p q r : List UInt8) (n : Int) (hn : (q.length : Int) = n) : tk (p ++ (q ++ r)) p.length false n = q := by
  unfold tk
  rw [if_pos (rd_mid p q r n hn), Int.toNat_natCast, List.drop_left, ← hn, Int.toNat_natCast, List.take_left]
theorem adv_mid (p q r : List UInt8) (n : Int) (hn : (q.length : Int) = n) : adv (p ++ (q ++ r)) p.length false n = (p.length : Int) + n := by
  unfold adv
  rw [if_pos (rd_mid p q r n hn)]
theorem emod_two (n a b : Int) (ha : 0 ≤ a) : n % (a * b) = n % a + a * (n / a % b) := by
  rw [Int.emod_def, Int.emod_def n a, Int.emod_def (n / a) b, show n / a / b = n / (a * b) from Int.ediv_ediv_of_nonneg ha, Int.mul_sub, Int.mul_assoc]
  omega
theorem fb_be : ∀ (k : Nat) (n : Int), 0 ≤ n → n < 256 ^ k → fb (be k n) = n := by
  have gen : ∀ (k : Nat) (n m : Int), 0 ≤ n → (be k n).foldl (fun n c => n * 256 + (c.toNat : Int)) m = m * 256 ^ k + n % 256 ^ k := by
    intro k
    induction k with
    | zero => intro n m _; simp [be]
    | succ k ih =>
      intro n m hn
      rw [be, List.foldl_cons, ih _ _ hn]
      have hb : ((UInt8.ofNat (n / 256 ^ k % 256).toNat).toNat : Int) = n / 256 ^ k % 256 := by
        have h0 : 0 ≤ n / 256 ^ k % 256 := Int.emod_nonneg _ (by decide)
        have h1 : n / 256 ^ k % 256 < 256 := Int.emod_lt_of_pos _ (by decide)
        rw [UInt8.toNat_ofNat_of_lt' (by rw [Int.toNat_lt h0]; exact h1)]
        omega
      rw [hb]
      have e1 : (256 : Int) ^ (k + 1) = 256 ^ k * 256 := Int.pow_succ 256 k
      have e2 : n % (256 ^ k * 256) = n % 256 ^ k + 256 ^ k * (n / 256 ^ k % 256) := emod_two n (256 ^ k) 256 (Int.le_of_lt (Int.pow_pos (by decide)))
      rw [e1, e2, Int.add_mul, Int.mul_assoc, Int.mul_comm (n / 256 ^ k % 256), Int.mul_comm (256 ^ k) 256]
      omega
  intro k n h0 h1
  have := gen k n 0 h0
  rw [Int.zero_mul, Int.zero_add, Int.emod_eq_of_lt h0 h1] at this
  exact this
/-- Where a text lies, it is read. -/
theorem tn_mid (p t r : List UInt8) : tn (p ++ (txt t ++ r)) p.length false = min t.length 255 := by
  unfold tn
  have e : p ++ (txt t ++ r) = p ++ ([UInt8.ofNat (min t.length 255)] ++ (t.take 255 ++ r)) := rfl
  rw [e, tk_mid p [_] _ 1 rfl]
  simp only [fb, List.foldl_cons, List.foldl_nil]
  rw [UInt8.toNat_ofNat_of_lt' (by show min t.length 255 < 256; omega)]
  omega
theorem tOk_mid (p t r : List UInt8) (k : Int) : tOk (p ++ (txt t ++ r)) p.length false k = decide (((min t.length 255 : Nat) : Int) ≤ k) := by
  unfold tOk
  have e : p ++ (txt t ++ r) = p ++ ([UInt8.ofNat (min t.length 255)] ++ (t.take 255 ++ r)) := rfl
  have h1 : rdOk (p ++ (txt t ++ r)) p.length false 1 = true := by rw [e]; exact rd_mid p [_] _ 1 rfl
  have h2 : ((p.length : Int) + 1 + ((min t.length 255 : Nat) : Int) ≤ ((p ++ (txt t ++ r)).length : Int)) := by
    simp only [List.length_append, txt_len]
    omega
  rw [h1, tn_mid]
  simp only [h2, decide_true, Bool.and_true, Bool.true_and]
theorem tv_mid (p t r : List UInt8) (k : Int) (hk : ((min t.length 255 : Nat) : Int) ≤ k) : tv (p ++ (txt t ++ r)) p.length false k = t.take 255 := by
  unfold tv
  rw [tOk_mid, if_pos (by simpa using hk), tn_mid]
  have e : p ++ (txt t ++ r) = (p ++ [UInt8.ofNat (min t.length 255)]) ++ (t.take 255 ++ r) := by simp [txt]
  rw [e, show ((p.length : Int) + 1).toNat = (p ++ [UInt8.ofNat (min t.length 255)]).length by simp, List.drop_left, Int.toNat_natCast]
  rw [show min t.length 255 = (t.take 255).length by rw [List.length_take]; omega, List.take_left]
theorem tadv_mid (p t r : List UInt8) (k : Int) (hk : ((min t.length 255 : Nat) : Int) ≤ k) : tadv (p ++ (txt t ++ r)) p.length false k = (p.length : Int) + 1 + min t.length 255 := by
  unfold tadv
  rw [tOk_mid, if_pos (by simpa using hk), tn_mid]
theorem tOk_txt (t : List UInt8) (k : Int) : tOk (txt t) 0 false k = decide (((min t.length 255 : Nat) : Int) ≤ k) := by simpa using tOk_mid [] t [] k
theorem tv_txt (t : List UInt8) (k : Int) : tv (txt t) 0 false k = if ((min t.length 255 : Nat) : Int) ≤ k then t.take 255 else [] := by
  split
  · next h => simpa using tv_mid [] t [] k h
  · next h => unfold tv; rw [tOk_txt, if_neg (by simpa using h)]
theorem tadv_txt (t : List UInt8) (k : Int) : tadv (txt t) 0 false k = if ((min t.length 255 : Nat) : Int) ≤ k then 1 + ((min t.length 255 : Nat) : Int) else 0 := by
  split
  · next h => simpa using tadv_mid [] t [] k h
  · next h => unfold tadv; rw [tOk_txt, if_neg (by simpa using h)]
theorem if255 (n : Nat) : (if 255 < (n : Int) then 255 else (n : Int)) = ((min n 255 : Nat) : Int) := by split <;> omega

@[reducible] def wireTexts_s : Spec where
  n := 0
  cs := []
  ar := [.el .str, .el (.int .i64)]
  pre := fun (_, m, _) => -9223372036854775808 ≤ m ∧ m ≤ 9223372036854775807
  n' := 0
  cs' := []
  rs := [.el .bool]
  post := .fn fun _ => (true, ())
set_option maxHeartbeats 1000000 in
set_option maxRecDepth 100000 in
theorem wireTexts_d : denF ⟨tys, [(21, text_s.call), (17, read_s.call), (24, within_s.call), (18, rtext_s.call), (22, rbad_s.call), (23, rat_s.call), (3, wireRuns_s.call)]⟩ wireTexts_s ⟨[], []⟩ Try.f4 := by
  intro s m
  repeat' first | refine Is.mk ?_ | refine And.intro ?_ ?_ | (intro _)
  all_goals try dsimp only [maxLen, El.ty] at *
  all_goals try trivial
  all_goals repeat (with_reducible cases ‹_ ∧ _›)
  all_goals try subst_eqs
  all_goals try simp only [IntKind.wrap_i64, IntKind.wrap_u64, IntKind.wrap_u32, IntKind.wrap_u8, decide_eq_true_eq, decide_eq_false_iff_not, Bool.not_eq_true', Bool.not_eq_false', Bool.not_not, Bool.not_true, Bool.not_false, List.length_cons, List.length_nil, Int.toNat_natCast, UInt8.ofNat_toNat] at *
  all_goals try first | omega | (with_reducible rfl) | (with_reducible exact u8lt _)
  all_goals obtain ⟨t, ht, hl⟩ : ∃ t, List.take ((if 300 < (s.length : Int) then 300 else (s.length : Int)) - 0).toNat (List.drop (Int.toNat 0) s) = t ∧ t.length ≤ 300 := ⟨_, rfl, by rw [List.length_take]; split <;> omega⟩
  all_goals simp only [ht, if255, List.nil_append, txt_len] at *
  all_goals try omega
  all_goals have hk : 0 ≤ m % (260 - 0 + 1) := Int.emod_nonneg _ (by decide)
  all_goals generalize hK : 0 + m % (260 - 0 + 1) = k at *
  all_goals simp only [tOk_txt, tv_txt, tadv_txt] at *
  all_goals by_cases hc : ((min t.length 255 : Nat) : Int) ≤ k
  all_goals try simp only [hc, if_true, if_false, decide_true, decide_false, Bool.not_true, Bool.not_false, not_true_eq_false, not_false_eq_true, Bool.false_eq_true, reduceCtorEq, decide_eq_true_eq] at *
  all_goals have e : (((min t.length 255 : Nat) : Int) - 0).toNat = min t.length 255 := by omega
  all_goals simp only [e, show Int.toNat 0 = 0 from rfl, List.drop_zero] at *
  · rename ¬ (_ = _) => h
    exact h (List.take_eq_take_iff.2 (by omega))
  · rename ¬ (_ = _) => h
    refine h (decide_eq_decide.2 ⟨fun hh => ?_, fun hh => ?_⟩)
    · have := congrArg List.length hh
      rw [List.length_take, List.length_nil] at this
      omega
    · rw [List.length_eq_zero_iff.1 (show t.length = 0 by omega)]
      rfl
theorem wireTexts_p : (FnIs Try.prog 4 ∧ FnOk Try.prog 4 wireTexts_s) ∧ (idsOk wireTexts_s.cs && idsOk wireTexts_s.cs' && Nat.ble wireTexts_s.n wireTexts_s.n') = true :=
  fn_of (l := [(21, text_s.call), (17, read_s.call), (24, within_s.call), (18, rtext_s.call), (22, rbad_s.call), (23, rat_s.call), (3, wireRuns_s.call)]) (hi := ⟨[], []⟩) (S := wireTexts_s) (fn := Try.f4) (c := Try.f4.body.get!) tysOk mixOk ⟨text_m, read_m, within_m, rtext_m, rbad_m, rat_m, wireRuns_m, trivial⟩ (by kernel_rfl) (by kernel_rfl) (by kernel_rfl) (by kernel_rfl) (by kernel_rfl) wireTexts_d
theorem wireTexts_m : May Try.prog (4, wireTexts_s.call) := may_call wireTexts_p
theorem wireTexts_n : May Try.prog (4, wireTexts_s.callN) := may_callN wireTexts_p

theorem be_less : ∀ (k : Nat) (a b : Int), Op.bytesLess (be k a) (be k b) = decide (a % 256 ^ k < b % 256 ^ k)
  | 0, a, b => by simp [be, Op.bytesLess, Int.emod_one]
  | k + 1, a, b => by
    have hP : (0 : Int) < 256 ^ k := Int.pow_pos (by decide)
    have a1 : 0 ≤ a / 256 ^ k % 256 := Int.emod_nonneg _ (by decide)
    have a2 : a / 256 ^ k % 256 < 256 := Int.emod_lt_of_pos _ (by decide)
    have b1 : 0 ≤ b / 256 ^ k % 256 := Int.emod_nonneg _ (by decide)
    have b2 : b / 256 ^ k % 256 < 256 := Int.emod_lt_of_pos _ (by decide)
    have a3 : 0 ≤ a % 256 ^ k := Int.emod_nonneg _ (by omega)
    have a4 : a % 256 ^ k < 256 ^ k := Int.emod_lt_of_pos _ hP
    have b3 : 0 ≤ b % 256 ^ k := Int.emod_nonneg _ (by omega)
    have b4 : b % 256 ^ k < 256 ^ k := Int.emod_lt_of_pos _ hP
    simp only [be, Op.bytesLess]
    rw [be_less k a b, show (256 : Int) ^ (k + 1) = 256 ^ k * 256 from Int.pow_succ 256 k, emod_two a _ _ (Int.le_of_lt hP), emod_two b _ _ (Int.le_of_lt hP)]
    generalize a / 256 ^ k % 256 = x at *
    generalize b / 256 ^ k % 256 = y at *
    generalize a % 256 ^ k = ra at *
    generalize b % 256 ^ k = rb at *
    generalize (256 : Int) ^ k = P at *
    have hx : (UInt8.ofNat x.toNat).toNat = x.toNat := UInt8.toNat_ofNat_of_lt' (by show x.toNat < 256; omega)
    have hy : (UInt8.ofNat y.toNat).toNat = y.toNat := UInt8.toNat_ofNat_of_lt' (by show y.toNat < 256; omega)
    have hlt : (UInt8.ofNat x.toNat < UInt8.ofNat y.toNat) ↔ x < y := by rw [UInt8.lt_iff_toNat_lt, hx, hy]; omega
    have heq : (UInt8.ofNat x.toNat = UInt8.ofNat y.toNat) ↔ x = y := by rw [← UInt8.toNat_inj, hx, hy]; omega
    rw [Bool.eq_iff_iff]
    simp only [Bool.or_eq_true, Bool.and_eq_true, decide_eq_true_eq, beq_iff_eq, hlt, heq]
    rcases Int.lt_trichotomy x y with h | h | h
    · have := Int.mul_le_mul_of_nonneg_left (show x + 1 ≤ y by omega) (Int.le_of_lt hP)
      rw [Int.mul_add, Int.mul_one] at this
      constructor
      · intro _; omega
      · intro _; exact .inl h
    · subst h
      constructor
      · rintro (h | ⟨_, h⟩)
        · omega
        · omega
      · intro h; exact .inr ⟨rfl, by omega⟩
    · have := Int.mul_le_mul_of_nonneg_left (show y + 1 ≤ x by omega) (Int.le_of_lt hP)
      rw [Int.mul_add, Int.mul_one] at this
      constructor
      · rintro (h | ⟨h, _⟩) <;> omega
      · intro h; omega

@[reducible] def wireOrder_s : Spec where
  n := 0
  cs := []
  ar := [.el (.int .u32), .el (.int .u32), .el (.int .u64)]
  pre := fun (a, b, c, _) => (0 ≤ a ∧ a < 4294967296) ∧ (0 ≤ b ∧ b < 4294967296) ∧ (0 ≤ c ∧ c < 18446744073709551616)
  n' := 0
  cs' := []
  rs := [.el .bool]
  post := .fn fun _ => (true, ())
set_option maxHeartbeats 1000000 in
set_option maxRecDepth 100000 in
theorem wireOrder_d : denF ⟨tys, [(20, u32_s.call), (29, u64_s.call), (19, same_s.call), (26, u8_s.call), (3, wireRuns_s.call)]⟩ wireOrder_s ⟨[], []⟩ Try.f6 := by
  intro a b c
  repeat' first | refine Is.mk ?_ | refine And.intro ?_ ?_ | (intro _)
  all_goals try dsimp only [maxLen, El.ty] at *
  all_goals try trivial
  all_goals repeat (with_reducible cases ‹_ ∧ _›)
  all_goals try subst_eqs
  all_goals try simp only [IntKind.wrap_i64, IntKind.wrap_u64, IntKind.wrap_u32, IntKind.wrap_u8, decide_eq_true_eq, decide_eq_false_iff_not, Bool.not_eq_true', Bool.not_eq_false', Bool.not_not, Bool.not_true, Bool.not_false, List.length_cons, List.length_nil, Int.toNat_natCast, UInt8.ofNat_toNat] at *
  all_goals try first | omega | (with_reducible rfl) | (with_reducible exact u8lt _)
  all_goals simp only [List.nil_append, be_less] at *
  · rename ¬ (_ = _) => h
    refine (h ?_).elim
    rw [Int.emod_eq_of_lt (by omega) (by show a < 4294967296; omega), Int.emod_eq_of_lt (by omega) (by show b < 4294967296; omega)]
  · rw [be_length]
    omega
  · rename ¬ (_ = _) => h
    refine (h ?_).elim
    rw [be8 c ⟨by assumption, by assumption⟩, Int.fdiv_eq_ediv_of_nonneg _ (show (0 : Int) ≤ 2 ^ min (Int.toNat 32) IntKind.u64.bits by decide)]
    rfl
theorem wireOrder_p : (FnIs Try.prog 6 ∧ FnOk Try.prog 6 wireOrder_s) ∧ (idsOk wireOrder_s.cs && idsOk wireOrder_s.cs' && Nat.ble wireOrder_s.n wireOrder_s.n') = true :=
  fn_of (l := [(20, u32_s.call), (29, u64_s.call), (19, same_s.call), (26, u8_s.call), (3, wireRuns_s.call)]) (hi := ⟨[], []⟩) (S := wireOrder_s) (fn := Try.f6) (c := Try.f6.body.get!) tysOk mixOk ⟨u32_m, u64_m, same_m, u8_m, wireRuns_m, trivial⟩ (by kernel_rfl) (by kernel_rfl) (by kernel_rfl) (by kernel_rfl) (by kernel_rfl) wireOrder_d
theorem wireOrder_m : May Try.prog (6, wireOrder_s.call) := may_call wireOrder_p
theorem wireOrder_n : May Try.prog (6, wireOrder_s.callN) := may_callN wireOrder_p
end Go.J
