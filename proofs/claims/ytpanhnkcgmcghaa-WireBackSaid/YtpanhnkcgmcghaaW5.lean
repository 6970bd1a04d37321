/-
  WIRE: the document's own reader.
-/
import Derived.Test.YtpanhnkcgmcghaaW4
set_option linter.unusedSimpArgs false
set_option linter.unusedVariables false
set_option linter.unusedSectionVars false
namespace Go.J
open Go.Proofs

theorem rd_no {xs : List UInt8} {at_ n : Int} (h : ¬ at_ + n ≤ xs.length) : rdOk xs at_ false n = false := by simp [rdOk, h]
theorem rd_yes {xs : List UInt8} {at_ n : Int} (h : at_ + n ≤ xs.length) : rdOk xs at_ false n = true := by simp [rdOk, h]
theorem rd_bad (xs : List UInt8) (at_ n : Int) : rdOk xs at_ true n = false := rfl
theorem tk_yes {xs : List UInt8} {at_ n : Int} (h : at_ + n ≤ xs.length) : tk xs at_ false n = (xs.drop at_.toNat).take (at_ + n - at_).toNat := by
  unfold tk
  rw [if_pos (rd_yes h), show at_ + n - at_ = n by omega]
theorem tk_no {xs : List UInt8} {at_ n : Int} {bad : Bool} (h : rdOk xs at_ bad n = false) : tk xs at_ bad n = [] := by unfold tk; rw [h]; rfl
theorem adv_no {xs : List UInt8} {at_ n : Int} {bad : Bool} (h : rdOk xs at_ bad n = false) : adv xs at_ bad n = at_ := by unfold adv; rw [h]; rfl
theorem adv_yes {xs : List UInt8} {at_ n : Int} {bad : Bool} (h : rdOk xs at_ bad n = true) : adv xs at_ bad n = at_ + n := by unfold adv; rw [h]; rfl

theorem adv_bad (xs : List UInt8) (at_ n : Int) : adv xs at_ true n = at_ := adv_no rfl
theorem tk_bad (xs : List UInt8) (at_ n : Int) : tk xs at_ true n = [] := tk_no rfl
theorem fb_one {l : List UInt8} (h : l.length = 1) : fb l = (l.getD 0 0).toNat := by
  match l, h with
  | [a], _ => simp [fb]
theorem fb_four {l : List UInt8} (h : l.length = 4) : fb l = (l.getD 0 0).toNat * 16777216 + (l.getD 1 0).toNat * 65536 + (l.getD 2 0).toNat * 256 + (l.getD 3 0).toNat := by
  match l, h with
  | [a, b, c, d], _ =>
    simp [fb]
    omega
theorem u32_join (i : Nat) (x y : Int) (hx₀ : 0 ≤ x) (hx : x % 2 ^ i = 0) (hx₁ : x < 4294967296) (hy₀ : 0 ≤ y) (hy : y < 2 ^ i) (hy₁ : y < 4294967296) : bits .or .u32 x y = x + y :=
  bits_join .u32 32 (by decide) (fun n h1 h2 => by rw [IntKind.wrap_u32]; omega) i x y hx₀ hx hx₁ hy₀ hy hy₁
theorem u32_shl (x : UInt8) : ((x.toNat : Int) % 4294967296 * 2 ^ min (Int.toNat 24) IntKind.u32.bits % 4294967296 = x.toNat * 16777216) ∧ ((x.toNat : Int) % 4294967296 * 2 ^ min (Int.toNat 16) IntKind.u32.bits % 4294967296 = x.toNat * 65536) ∧
    ((x.toNat : Int) % 4294967296 * 2 ^ min (Int.toNat 8) IntKind.u32.bits % 4294967296 = x.toNat * 256) := by
  have h : x.toNat < 256 := x.toNat_lt
  rw [show (2 : Int) ^ min (Int.toNat 24) IntKind.u32.bits = 16777216 by decide, show (2 : Int) ^ min (Int.toNat 16) IntKind.u32.bits = 65536 by decide, show (2 : Int) ^ min (Int.toNat 8) IntKind.u32.bits = 256 by decide]
  omega
theorem u32_four (a b c d : UInt8) : bits .or .u32 (bits .or .u32 (bits .or .u32 ((a.toNat : Int) % 4294967296 * 2 ^ min (Int.toNat 24) IntKind.u32.bits % 4294967296) ((b.toNat : Int) % 4294967296 * 2 ^ min (Int.toNat 16) IntKind.u32.bits % 4294967296)) ((c.toNat : Int) % 4294967296 * 2 ^ min (Int.toNat 8) IntKind.u32.bits % 4294967296)) ((d.toNat : Int) % 4294967296) =
    a.toNat * 16777216 + b.toNat * 65536 + c.toNat * 256 + d.toNat := by
  have ha : a.toNat < 256 := a.toNat_lt
  have hb : b.toNat < 256 := b.toNat_lt
  have hc : c.toNat < 256 := c.toNat_lt
  have hd : d.toNat < 256 := d.toNat_lt
  rw [(u32_shl a).1, (u32_shl b).2.1, (u32_shl c).2.2, show (d.toNat : Int) % 4294967296 = d.toNat by omega]
  rw [u32_join 24 (a.toNat * 16777216) (b.toNat * 65536) (by omega) (by omega) (by omega) (by omega) (by omega) (by omega)]
  rw [u32_join 16 _ (c.toNat * 256) (by omega) (by omega) (by omega) (by omega) (by omega) (by omega)]
  rw [u32_join 8 _ _ (by omega) (by omega) (by omega) (by omega) (by omega) (by omega)]

theorem fb_step {l : List UInt8} {i : Int} (h0 : 0 ≤ i) (h1 : i < l.length) (h2 : l.length ≤ 8) : bits .or .u64 (fb (List.take i.toNat l) * 2 ^ min (Int.toNat 8) IntKind.u64.bits % 18446744073709551616) ((l.getD i.toNat 0).toNat % 18446744073709551616) =
    fb (List.take ((i + 1 + 9223372036854775808) % 18446744073709551616 - 9223372036854775808).toNat l) := by
  rw [u64_shl8_or, show ((i + 1 + 9223372036854775808) % 18446744073709551616 - 9223372036854775808).toNat = i.toNat + 1 by omega, take_succ_getD _ _ (by omega), fb_snoc]
  have := fb_lt (List.take i.toNat l)
  have hl : (List.take i.toNat l).length ≤ 7 := by rw [List.length_take]; omega
  have h4 : ((256 ^ (List.take i.toNat l).length : Nat) : Int) = 256 ^ (List.take i.toNat l).length := Int.natCast_pow 256 _
  exact ⟨this.1, Int.lt_of_lt_of_le this.2 (h4 ▸ Int.ofNat_le.2 (Nat.pow_le_pow_right (by decide) hl))⟩

@[reducible] noncomputable def ftake_c := inl ⟨tys, []⟩ ⟨[(1, (tks 0 4 (.take 4 true (tks 5 13 .done)))), (4, (tks 0 15 (.last 15 false [] .done)))], []⟩ Try.f56 Try.f56.body.get!
theorem ftake_m : May Try.prog (56, ftake_c) :=
  may_inl tysOk mixOk trivial (by kernel_rfl) (by kernel_rfl) (by kernel_rfl) (by kernel_rfl)

@[reducible] def fru8_s : Spec := { ru8_s with }
set_option maxHeartbeats 1000000 in
set_option maxRecDepth 100000 in
theorem fru8_d : denF ⟨tys, [(56, ftake_c)]⟩ fru8_s ⟨[], []⟩ Try.f37 := by
  intro xs at_ bad
  repeat' first | refine Is.mk ?_ | refine And.intro ?_ ?_ | (intro _)
  all_goals try dsimp only [maxLen, El.ty] at *
  all_goals try trivial
  all_goals repeat (with_reducible cases ‹_ ∧ _›)
  all_goals try subst_eqs
  all_goals try simp only [IntKind.wrap_i64, IntKind.wrap_u64, IntKind.wrap_u32, IntKind.wrap_u8, decide_eq_true_eq, decide_eq_false_iff_not, Bool.not_eq_true', Bool.not_eq_false', Bool.not_not, Bool.not_true, Bool.not_false, List.length_cons, List.length_nil, Int.toNat_natCast, UInt8.ofNat_toNat] at *
  all_goals try first | omega | (with_reducible rfl) | (with_reducible exact u8lt _)
  all_goals try (simp [adv_bad, tk_bad, rd_bad, fb_nil]; done)
  all_goals try (have h9 : ¬ at_ + 1 ≤ (xs.length : Int) := by omega
                 simp [adv_no, tk_no, rd_no h9, fb_nil]; done)
  all_goals
    have h9 : at_ + 1 ≤ (xs.length : Int) := by omega
    have hw : (at_ + 1 + 9223372036854775808) % 18446744073709551616 - 9223372036854775808 = at_ + 1 := by omega
    have hl := tk_len xs at_ false 1 (by assumption) (by decide) (rd_yes h9)
    have hl2 : (tk xs at_ false 1).length = 1 := hl
    have hy := tk_yes h9
    try simp only [hw, ← hy] at *
  all_goals try omega
  all_goals try (exact absurd (‹0 < (tk xs at_ false 1).length → true = false› (by omega)) (by simp))
  all_goals try (simp only [adv_yes (rd_yes h9), rd_yes h9, Bool.not_true]; done)
  rw [fb_one hl2]
  have := ((tk xs at_ false 1).getD (Int.toNat 0) El.u8.dflt).toNat_lt
  simp only [show Int.toNat 0 = 0 from rfl, show El.u8.dflt = (0 : UInt8) from rfl] at *
  omega
theorem fru8_p : (FnIs Try.prog 37 ∧ FnOk Try.prog 37 fru8_s) ∧ (idsOk fru8_s.cs && idsOk fru8_s.cs' && Nat.ble fru8_s.n fru8_s.n') = true :=
  fn_of (l := [(56, ftake_c)]) (hi := ⟨[], []⟩) (S := fru8_s) (fn := Try.f37) (c := Try.f37.body.get!) tysOk mixOk ⟨ftake_m, trivial⟩ (by kernel_rfl) (by kernel_rfl) (by kernel_rfl) (by kernel_rfl) (by kernel_rfl) fru8_d
theorem fru8_m : May Try.prog (37, fru8_s.call) := may_call fru8_p
theorem fru8_n : May Try.prog (37, fru8_s.callN) := may_callN fru8_p

@[reducible] def fru32_s : Spec := { ru32_s with }
set_option maxHeartbeats 1000000 in
set_option maxRecDepth 100000 in
theorem fru32_d : denF ⟨tys, [(56, ftake_c)]⟩ fru32_s ⟨[(4, (tks 0 22 (.last 22 false [] .done)))], []⟩ Try.f38 := by
  intro xs at_ bad
  repeat' first | refine Is.mk ?_ | refine And.intro ?_ ?_ | (intro _)
  all_goals try dsimp only [maxLen, El.ty] at *
  all_goals try trivial
  all_goals repeat (with_reducible cases ‹_ ∧ _›)
  all_goals try subst_eqs
  all_goals try simp only [IntKind.wrap_i64, IntKind.wrap_u64, IntKind.wrap_u32, IntKind.wrap_u8, decide_eq_true_eq, decide_eq_false_iff_not, Bool.not_eq_true', Bool.not_eq_false', Bool.not_not, Bool.not_true, Bool.not_false, List.length_cons, List.length_nil, Int.toNat_natCast, UInt8.ofNat_toNat] at *
  all_goals try first | omega | (with_reducible rfl) | (with_reducible exact u8lt _)
  all_goals try (simp [adv_bad, tk_bad, rd_bad, fb_nil]; done)
  all_goals try (have h9 : ¬ at_ + 4 ≤ (xs.length : Int) := by omega
                 simp [adv_no, tk_no, rd_no h9, fb_nil]; done)
  all_goals
    have h9 : at_ + 4 ≤ (xs.length : Int) := by omega
    have hw : (at_ + 4 + 9223372036854775808) % 18446744073709551616 - 9223372036854775808 = at_ + 4 := by omega
    have hl := tk_len xs at_ false 4 (by assumption) (by decide) (rd_yes h9)
    have hl2 : (tk xs at_ false 4).length = 4 := hl
    have hy := tk_yes h9
    try simp only [hw, ← hy] at *
  all_goals try omega
  all_goals try (exact absurd (‹0 < (tk xs at_ false 4).length → true = false› (by omega)) (by simp))
  all_goals try (simp only [adv_yes (rd_yes h9), rd_yes h9, Bool.not_true]; done)
  rw [fb_four hl2]
  exact u32_four _ _ _ _
theorem fru32_p : (FnIs Try.prog 38 ∧ FnOk Try.prog 38 fru32_s) ∧ (idsOk fru32_s.cs && idsOk fru32_s.cs' && Nat.ble fru32_s.n fru32_s.n') = true :=
  fn_of (l := [(56, ftake_c)]) (hi := ⟨[(4, (tks 0 22 (.last 22 false [] .done)))], []⟩) (S := fru32_s) (fn := Try.f38) (c := Try.f38.body.get!) tysOk mixOk ⟨ftake_m, trivial⟩ (by kernel_rfl) (by kernel_rfl) (by kernel_rfl) (by kernel_rfl) (by kernel_rfl) fru32_d
theorem fru32_m : May Try.prog (38, fru32_s.call) := may_call fru32_p
theorem fru32_n : May Try.prog (38, fru32_s.callN) := may_callN fru32_p

@[reducible] def fru64_s : Spec := { ru64_s with }
@[reducible] def fru64_a : Ann where
  nx := 1
  cs := [(0, .own rdr)]
  ss := [(4, .el (.int .u64)), (11, .el (.rd .u8)), (12, .el (.int .i64)), (13, .el (.int .i64))]
  inv := fun (b0, a0, d0, _, l0, k0, _, _) (b, a, d, n, l, k, i, _) => b = b0 ∧ a = a0 ∧ d = d0 ∧ l = l0 ∧ k = k0 ∧ 0 ≤ i ∧ i ≤ l.length ∧ n = fb (l.take i.toNat)
  mu := fun (_, _, _, _, l, _, i, _) => l.length - i.toNat
set_option maxHeartbeats 1000000 in
set_option maxRecDepth 100000 in
theorem fru64_d : denF ⟨tys, [(56, ftake_c)]⟩ fru64_s ⟨[], [(6, fru64_a)]⟩ Try.f39 := by
  intro xs at_ bad
  repeat' first | refine Is.mk ?_ | refine And.intro ?_ ?_ | (intro _)
  all_goals try dsimp only [maxLen, El.ty] at *
  all_goals try trivial
  all_goals repeat (with_reducible cases ‹_ ∧ _›)
  all_goals try subst_eqs
  all_goals try simp only [IntKind.wrap_i64, IntKind.wrap_u64, IntKind.wrap_u32, IntKind.wrap_u8, decide_eq_true_eq, decide_eq_false_iff_not, Bool.not_eq_true', Bool.not_eq_false', Bool.not_not, Bool.not_true, Bool.not_false, List.length_cons, List.length_nil, Int.toNat_natCast, UInt8.ofNat_toNat] at *
  all_goals try first | omega | (with_reducible rfl) | (with_reducible exact u8lt _)
  all_goals try (simp [adv_bad, tk_bad, rd_bad, fb_nil]; done)
  all_goals try (have h9 : ¬ at_ + 8 ≤ (xs.length : Int) := by omega
                 simp [adv_no, tk_no, rd_no h9, fb_nil]; done)
  all_goals
    have h9 : at_ + 8 ≤ (xs.length : Int) := by omega
    have hw : (at_ + 8 + 9223372036854775808) % 18446744073709551616 - 9223372036854775808 = at_ + 8 := by omega
    have hl := tk_len xs at_ false 8 (by assumption) (by decide) (rd_yes h9)
    have hl2 : (tk xs at_ false 8).length = 8 := hl
    have hy := tk_yes h9
    try simp only [hw, ← hy] at *
  all_goals try omega
  all_goals try (exact absurd (‹0 < (tk xs at_ false 8).length → true = false› (by omega)) (by simp))
  all_goals try (simp only [adv_yes (rd_yes h9), rd_yes h9, Bool.not_true]; done)
  · exact fb_step (by omega) (by omega) (by omega)
  · rw [List.take_of_length_le (by omega)]
theorem fru64_p : (FnIs Try.prog 39 ∧ FnOk Try.prog 39 fru64_s) ∧ (idsOk fru64_s.cs && idsOk fru64_s.cs' && Nat.ble fru64_s.n fru64_s.n') = true :=
  fn_of (l := [(56, ftake_c)]) (hi := ⟨[], [(6, fru64_a)]⟩) (S := fru64_s) (fn := Try.f39) (c := Try.f39.body.get!) tysOk mixOk ⟨ftake_m, trivial⟩ (by kernel_rfl) (by kernel_rfl) (by kernel_rfl) (by kernel_rfl) (by kernel_rfl) fru64_d
theorem fru64_m : May Try.prog (39, fru64_s.call) := may_call fru64_p
theorem fru64_n : May Try.prog (39, fru64_s.callN) := may_callN fru64_p

end Go.J
