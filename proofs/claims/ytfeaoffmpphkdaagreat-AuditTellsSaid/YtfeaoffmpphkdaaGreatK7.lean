/-
  JOBBER: the engine and the functions of this claim, part 7.
-/
import Derived.Test.YtfeaoffmpphkdaaGreatK6
import Derived.Below
import Derived.ProofKit
import Derived.OpenShut
import Derived.ShutString
import Derived.ChangeOld
import Derived.DataReads
import Derived.ChangeArms
set_option linter.unusedSimpArgs false
set_option linter.unusedVariables false
set_option linter.unusedSectionVars false
namespace Go.J
open Go.Proofs

theorem ap1 (h : (!arightR (0, 0, 0, (0, 0, 0, 0, 0, 0, 0, 0, 0, 0, 0, 0, 0, 0, List.replicate 32 El.u8.dflt, ()), ())) = false) : False := by
  have e : arightR (0, 0, 0, (0, 0, 0, 0, 0, 0, 0, 0, 0, 0, 0, 0, 0, 0, List.replicate 32 El.u8.dflt, ()), ()) = false := by kernel_rfl
  rw [e] at h
  cases h
theorem ap3 {A : recE.ty} (f : RFit A) (h1 : (!arightR A) = false) (h : (!(agetF (aputR A)).2) = true) : False := by
  rw [aget_aput f.tag (not_f h1)] at h
  cases h
theorem ap4 {A : recE.ty} (f : RFit A) (h1 : (!arightR A) = false) (h : (!recEq (agetF (aputR A)).1 A) = true) : False := by
  rw [aget_aput f.tag (not_f h1), recEq_iff.2 rfl] at h
  cases h
theorem ap5 {A : recE.ty} (f : RFit A) (h1 : (!arightR A) = false) (h : decide (((aputR A).length : Int) < 1) = true) : False := by
  have := (aput_len2 f.tag (not_f h1)).2.1
  have := of_decide_eq_true h
  omega
theorem ap6 {A B : recE.ty} (f : RFit A) (g : RFit B) (h1 : (!arightR A) = false) (h2 : (!arightR B) = false) (h : (!decide (decide (aputR A = aputR B) = recEq A B)) = true) : False := by
  refine of_decide_eq_false (not_t h) ?_
  by_cases e : A = B
  · subst e
    rw [recEq_iff.2 rfl, decide_eq_true rfl]
  · rw [decide_eq_false fun e2 => e (aput_inj f.tag g.tag (not_f h1) (not_f h2) e2)]
    exact (Bool.eq_false_iff.2 fun q => e (recEq_iff.1 q)).symm
theorem ap7 {A : recE.ty} {c : UInt8} (f : RFit A) (h1 : (!arightR A) = false) (h : (!(agetF ([] ++ aputR A ++ [UInt8.ofNat ((c.toNat : Nat) : Int).toNat])).2) = false) : False := by
  rw [List.nil_append, aget_long f.tag (not_f h1)] at h
  cases h
theorem ap9 {L : Nat} (h : L ≤ 300) (h1 : ¬ (L : Int) < 1) : IntKind.i64.wrap ((L : Int) - 1) = (L : Int) - 1 := wi (by omega) (by omega)
theorem ap10 {L : Nat} (n : Int) (h : L ≤ 300) (h1 : ¬ (L : Int) < 1) : 0 ≤ n % (IntKind.i64.wrap ((L : Int) - 1) - 0 + 1) ∧ n % (IntKind.i64.wrap ((L : Int) - 1) - 0 + 1) < L := by
  rw [ap9 h h1]
  have hm := mod_in n (l := ((L : Int) - 1) - 0 + 1) (by omega)
  omega
theorem ap8 {A : recE.ty} {n : Int} (f : RFit A) (h1 : (!arightR A) = false) (h : (!(agetF (List.take (0 + n % (IntKind.i64.wrap (((aputR A).length : Int) - 1) - 0 + 1) - 0).toNat (List.drop (Int.toNat 0) (aputR A)))).2) = false) : False := by
  obtain ⟨_, l1, l2, _⟩ := aput_len2 f.tag (not_f h1)
  rw [wi (x := ((aputR A).length : Int) - 1) (by omega) (by omega)] at h
  have hm := mod_in n (l := (((aputR A).length : Int) - 1) - 0 + 1) (by omega)
  generalize n % ((((aputR A).length : Int) - 1) - 0 + 1) = m at h hm
  rw [show Int.toNat 0 = 0 from rfl, List.drop_zero, aget_short f.tag (not_f h1) (by omega)] at h
  cases h
attribute [local irreducible] addF parseF linkF entB aputR arightR agetF rsameF
@[reducible] def auditApart_s : Spec where
  n := 0
  cs := []
  ar := [.el recE, .el recE, .el doE, .el .bool, .el iE, .el .u8]
  pre := fun (a, b, d, _, n, _) => RFit a ∧ RFit b ∧ DFit d ∧ fit64 n
  n' := 0
  cs' := []
  rs := [.el .bool]
  post := .fn fun _ => (true, ())
end Go.J

set_option linter.unusedSimpArgs false
set_option linter.unusedVariables false
set_option linter.unusedSectionVars false
namespace Go.J
open Go.Proofs

theorem addF_no2 {b link : List UInt8} {n : Int} {r : recE.ty} (h : arightR r = false) : addF b link n r = (b, link, n, false, ()) := addF_no (by rw [h]; rfl)
theorem addF_yes2 {b link : List UInt8} {n : Int} {r : recE.ty} (h : arightR r = true) : addF b link n r = (b ++ (be 4 ((aputR r).length : Int) ++ aputR r ++ linkF link (aputR r)), linkF link (aputR r), n + 1, true, ()) := addF_yes h
attribute [local irreducible] List.getD addF parseF linkF entB aputR arightR agetF rsameF
@[reducible] def auditLinks_s : Spec where
  n := 0
  cs := []
  ar := [.el (.rd doE), .el recE]
  pre := fun (l, r, _) => (∀ d ∈ l, DFit d) ∧ RFit r
  n' := 0
  cs' := []
  rs := [.el .bool]
  post := .fn fun _ => (true, ())
@[reducible] def auditLinks_a : Ann where
  nx := 4
  cs := [(0, .row 33 recE), (1, .own logSh), (2, .row 5 .u8), (3, .own (.el (.ar 32 .u8)))]
  ss := [(5, .ref 1), (6, .own 2), (7, .ref 3), (18, .own 0), (19, .el iE), (20, .el iE)]
  inv := fun (rs0, _, _, _, _, _, ln0, _, _) (rs, b, lk, n, want, lc, ln, i, _) => rs = rs0 ∧ ln = ln0 ∧ b = want ∧ lk = lc ∧ lc.length = 32 ∧ 0 ≤ i ∧ i ≤ rs.length ∧ 0 ≤ n ∧ n ≤ i ∧ want.length ≤ 1000 * i
  mu := fun (rs, _, _, _, _, _, _, i, _) => rs.length - i.toNat
end Go.J

set_option linter.unusedSimpArgs false
set_option linter.unusedVariables false
set_option linter.unusedSectionVars false
namespace Go.J
open Go.Proofs

theorem encL_le : ∀ {ws : List recE.ty} (_ : RightL ws) (link : List UInt8), (encL link ws).length ≤ 100 * ws.length
  | [], _, _ => Nat.zero_le _
  | r :: ws, h, link => by
    have h1 := encL_le (ws := ws) (fun x hx => h x (List.mem_cons_of_mem _ hx)) (linkF link (aputR r))
    have h2 := ent_len0 (link := link) (r := r)
    obtain ⟨ht, hr⟩ := h r (List.mem_cons_self ..)
    have h3 := (aput_len2 ht hr).2.2.1
    show (entB link r ++ encL _ ws).length ≤ 100 * (ws.length + 1)
    rw [List.length_append]
    omega
theorem RightL.snoc {ws : List recE.ty} (h : RightL ws) {r : recE.ty} (f : RFit r) (hr : arightR r = true) : RightL (ws ++ [r]) := fun x hx => by
  rcases List.mem_append.1 hx with hx | hx
  · exact h x hx
  · rw [List.mem_singleton.1 hx]; exact ⟨f.tag, hr⟩
theorem RightL.nil : RightL [] := fun _ h => absurd h (List.not_mem_nil)
theorem addF_yes3 {ws : List recE.ty} {n : Int} {r : recE.ty} (h : arightR r = true) : addF (encL noSum ws) (endL noSum ws) n r = (encL noSum (ws ++ [r]), endL noSum (ws ++ [r]), n + 1, true, ()) := by
  rw [addF_yes h, encL_snoc, endL_snoc]
theorem rsame_refl (xs : List recE.ty) : rsameF xs xs = true := rsame_iff.2 rfl
theorem cut_in (c : Int) (L : Nat) : 0 ≤ 0 + c % ((L : Int) - 0 + 1) ∧ 0 + c % ((L : Int) - 0 + 1) ≤ L := by
  have hm := mod_in c (l := (L : Int) - 0 + 1) (by omega)
  omega
theorem ends0 (ws : List recE.ty) : (endsL ws).getD (Int.toNat 0) 0 = 0 := endsL_get ws (Nat.zero_le _)
theorem back_law {ws : List recE.ty} (h : RightL ws) {k i : Int} (k0 : 0 ≤ k) (k1 : k ≤ ((encL noSum ws).length : Int)) (i0 : 0 ≤ i) (i1 : i < ((ws.length + 1 : Nat) : Int)) (h1 : (endsL ws).getD i.toNat 0 ≤ k) (h2 : ¬ i + 1 < ((ws.length + 1 : Nat) : Int) ∨ ¬ (endsL ws).getD (i + 1).toNat 0 ≤ k) :
    parseF (List.take (k - 0).toNat (List.drop (Int.toNat 0) (encL noSum ws))) = (List.take (i - 0).toNat (List.drop (Int.toNat 0) ws), if (endsL ws).getD i.toNat 0 = k then -1 else (endsL ws).getD i.toNat 0) := by
  rw [show Int.toNat 0 = 0 from rfl, List.drop_zero, List.drop_zero, show k - 0 = k by omega, show i - 0 = i by omega]
  rw [endsL_get ws (j := i.toNat) (by omega)] at h1 ⊢
  have e := parse_take h (k := k.toNat) (n := i.toNat) (by omega) (by omega) (by omega) (fun hlt => by
    rcases h2 with h2 | h2
    · omega
    · rw [endsL_get ws (j := (i + 1).toNat) (by omega)] at h2
      rw [show (i + 1).toNat = i.toNat + 1 by omega] at h2
      omega)
  rw [e, show ((k.toNat : Nat) : Int) = k by omega]
theorem back_no1 {p : List recE.ty × Int} {T : List recE.ty} {a : Int} (B : p = (T, a)) (h : rsameF p.1 T = false) : False := by
  rw [B, rsame_iff.2 rfl] at h
  cases h
theorem back_no2 {p : List recE.ty × Int} {T : List recE.ty} {a k : Int} (B : p = (T, if a = k then -1 else a)) (h1 : a = k) (h : ¬ p.2 = -1) : False := by
  rw [if_pos h1] at B
  exact h (congrArg Prod.snd B)
theorem back_no3 {p : List recE.ty × Int} {T : List recE.ty} {a k : Int} (B : p = (T, if a = k then -1 else a)) (h1 : ¬ a = k) (h : ¬ p.2 = a) : False := by
  rw [if_neg h1] at B
  exact h (congrArg Prod.snd B)
section
attribute [local irreducible] linkF
theorem endL_len : ∀ (ws : List recE.ty) {link : List UInt8} (_ : link.length = 32), (endL link ws).length = 32
  | [], _, h => h
  | _ :: ws, _, _ => endL_len ws (link_len _ _)
end
theorem endL_len0 (ws : List recE.ty) : (endL noSum ws).length = 32 := endL_len ws rfl
theorem endsL_len' {ws : List recE.ty} (_ : RightL ws) : (endsL ws).length = ws.length + 1 := endsL_len ws
theorem ends_nil : [(0 : Int)] = endsL [] := rfl
theorem enc_nil : [] = encL noSum [] := rfl
theorem end_nil : noSum = endL noSum [] := rfl
attribute [local irreducible] RightL List.getD addF parseF linkF entB aputR arightR agetF rsameF encL endL endsL
@[reducible] def auditBack_s : Spec where
  n := 0
  cs := []
  ar := [.el (.rd doE), .el iE]
  pre := fun (l, cut, _) => (∀ d ∈ l, DFit d) ∧ fit64 cut
  n' := 0
  cs' := []
  rs := [.el .bool]
  post := .fn fun _ => (true, ())
@[reducible] def auditBack_a : Ann where
  nx := 4
  cs := [(0, .row 33 recE), (1, .own logSh), (2, .row 33 recE), (3, .row 3 iE)]
  ss := [(1, .el iE), (5, .ref 1), (6, .own 2), (7, .own 3), (24, .own 0), (25, .el iE), (26, .el iE)]
  inv := fun (rs0, _, _, _, _, _, cut0, ln0, _, _) (rs, b, lk, n, want, ends, cut, ln, i, _) => rs = rs0 ∧ cut = cut0 ∧ ln = ln0 ∧ b = encL noSum want ∧ lk = endL noSum want ∧ n = want.length ∧ ends = endsL want ∧ RightL want ∧ lk.length = 32 ∧ 0 ≤ i ∧ i ≤ rs.length ∧ want.length ≤ i
  mu := fun (rs, _, _, _, _, _, _, _, i, _) => rs.length - i.toNat
@[reducible] def auditBack_b : Ann where
  nx := 2
  cs := [(0, .row 33 recE), (1, .row 3 iE)]
  ss := [(6, .own 0), (7, .own 1), (10, .el (.rd .u8)), (13, .el iE), (14, .el iE)]
  inv := fun (w0, e0, b0, k0, _, _) (w, e, b, k, n, _) => w = w0 ∧ e = e0 ∧ b = b0 ∧ k = k0 ∧ 0 ≤ n ∧ n < e.length ∧ e.getD n.toNat 0 ≤ k
  mu := fun (_, e, _, _, n, _) => e.length - n.toNat
end Go.J

set_option linter.unusedSimpArgs false
set_option linter.unusedVariables false
set_option linter.unusedSectionVars false
namespace Go.J
open Go.Proofs

@[reducible] def frightRw_s : Spec := { frightR_s with pre := fun (r, _) => RFit r, post := .fn fun (r, _) => (arightR r, ()) }
theorem frightRw_m : May Tryz.prog (14, frightRw_s.call) := may_call (weak2_p (S := frightR_s) (p := frightRw_s.pre) (q := frightRw_s.post) frightR_p (fun x h => (RFit.out h).2.2.2.1) fun x y _ h => h)
@[reducible] def fputRw_s : Spec := { fputR_s with pre := fun (r, _) => RFit r, post := .fn fun (r, _) => (aputR r, ()) }
theorem fputRw_m : May Tryz.prog (19, fputRw_s.call) := may_call (weak2_p (S := fputR_s) (p := fputRw_s.pre) (q := fputRw_s.post) fputR_p (fun x h => RFit.out h) fun x y _ h => h)
attribute [local irreducible] List.getD addF parseF linkF entB aputR arightR agetF rsameF encL endL
@[reducible] def fentry_s : Spec where
  n := 0
  cs := []
  ar := [.el (.ar 32 .u8), .el recE]
  pre := fun (link, r, _) => link.length = 32 ∧ RFit r
  n' := 1
  cs' := [(0, .row 5 .u8)]
  rs := [.own 0, .el (.ar 32 .u8)]
  post := .fn fun (link, r, _) => (entB link r, linkF link (aputR r), ())
@[reducible] def fentry_h : Hints := ⟨[(4, (tks 0 2 (.take 3 false (.last 2 false [3] (.last 4 false [3] (.last 5 false [] .done))))))], [], []⟩
@[reducible] noncomputable def fentry_e : Env := ⟨tys, [(19, fputRw_s.call), (29, flink_s.call), (52, fu32_s.call)]⟩
set_option maxHeartbeats 1000000 in
set_option maxRecDepth 100000 in
theorem fentry_d : denF fentry_e fentry_s fentry_h Tryz.f24 := by
  intro link k n t kk seq tr inst id side ord pr q sh st wh a b tag
  intro hpre
  dsimp only [fentry_s] at hpre
  obtain ⟨hp, hr⟩ := hpre
  repeat' (first | (conv => whnf); first | done | exact True.intro | refine And.intro ?_ ?_ | refine Is.mk ?_ | (intro h; cases h; done) | (intro _))
  all_goals try dsimp only [maxLen, El.ty, El.dflt] at *
  all_goals try (with_reducible assumption)
  all_goals generalize hR : ((k, n, t, (kk, seq, tr, inst, id, side, ord, pr, q, sh, st, wh, a, b, tag, ()), ()) : recE.ty) = R at *
  all_goals have hl := aput_len hr.out
  all_goals have hk := link_len link (aputR R)
  all_goals have e4 : IntKind.u32.wrap ((aputR R).length : Int) = ((aputR R).length : Int) := by rw [IntKind.wrap_u32]; omega
  all_goals try simp only [take32 hk, hk, e4, List.nil_append, List.length_append, List.length_nil, be_length] at *
  all_goals first
    | omega
    | (with_reducible rfl)
    | (unfold entB; rfl)
    | skip
set_option maxRecDepth 100000 in
theorem fentry_p : (FnIs Tryz.prog 24 ∧ FnOk Tryz.prog 24 fentry_s) ∧ (idsOk fentry_s.cs && idsOk fentry_s.cs' && Nat.ble fentry_s.n fentry_s.n') = true :=
  fn_of (l := [(19, fputRw_s.call), (29, flink_s.call), (52, fu32_s.call)]) (hi := fentry_h) (S := fentry_s) (fn := Tryz.f24) (c := Tryz.f24.body.get!) tysOk mixOk ⟨.inl fputRw_m, .inl flink_m, .inl fu32_m, trivial⟩ (by kernel_rfl) (by kernel_rfl) (by kernel_rfl) (by kernel_rfl) (by kernel_rfl) fentry_d
theorem fentry_m : May Tryz.prog (24, fentry_s.call) := may_call fentry_p
theorem fentry_n : May Tryz.prog (24, fentry_s.callN) := may_callN fentry_p
theorem ent_zero {ahead xs : List UInt8} (h : ¬ ((4 : Int) ≤ xs.length ∧ rv xs 0 4 ≤ 200 ∧ 4 + rv xs 0 4 + 32 ≤ xs.length ∧ (agetF ((xs.drop 4).take (rv xs 0 4).toNat)).2 = true ∧ (xs.drop (4 + (rv xs 0 4).toNat)).take 32 = linkF ahead ((xs.drop 4).take (rv xs 0 4).toNat))) : (entF ahead xs).2.2 = 0 := by
  unfold entF
  rw [if_neg h]
theorem ent_some {ahead xs : List UInt8} (h : (4 : Int) ≤ xs.length ∧ rv xs 0 4 ≤ 200 ∧ 4 + rv xs 0 4 + 32 ≤ xs.length ∧ (agetF ((xs.drop 4).take (rv xs 0 4).toNat)).2 = true ∧ (xs.drop (4 + (rv xs 0 4).toNat)).take 32 = linkF ahead ((xs.drop 4).take (rv xs 0 4).toNat)) :
    entF ahead xs = ((agetF ((xs.drop 4).take (rv xs 0 4).toNat)).1, linkF ahead ((xs.drop 4).take (rv xs 0 4).toNat), 36 + rv xs 0 4) := by
  unfold entF
  rw [if_pos h]
attribute [local irreducible] entF parseG
theorem fp_cond {xs ahead : List UInt8} {a a1 v : Int} (h0 : 0 ≤ a) (hx : xs.length ≤ 100000000) (h1 : Rd xs a false 4 a1 false v) :
    a1 = a + 4 ∧ a + 4 ≤ xs.length ∧ 0 ≤ v ∧ v < 4294967296 ∧ IntKind.i64.wrap v = v ∧ IntKind.i64.wrap (a1 + IntKind.i64.wrap v) = a + 4 + v ∧
    (¬ (v ≤ 200 ∧ a + 36 + v ≤ xs.length ∧ (agetF (List.take (IntKind.i64.wrap (a1 + IntKind.i64.wrap v) - a1).toNat (List.drop a1.toNat xs))).2 = true ∧ (xs.drop (a + 4 + v).toNat).take 32 = linkF ahead (List.take (IntKind.i64.wrap (a1 + IntKind.i64.wrap v) - a1).toNat (List.drop a1.toNat xs))) → (entF ahead (xs.drop a.toNat)).2.2 = 0) ∧
    (v ≤ 200 ∧ a + 36 + v ≤ xs.length ∧ (agetF (List.take (IntKind.i64.wrap (a1 + IntKind.i64.wrap v) - a1).toNat (List.drop a1.toNat xs))).2 = true ∧ (xs.drop (a + 4 + v).toNat).take 32 = linkF ahead (List.take (IntKind.i64.wrap (a1 + IntKind.i64.wrap v) - a1).toNat (List.drop a1.toNat xs)) →
      entF ahead (xs.drop a.toNat) = ((agetF (List.take (IntKind.i64.wrap (a1 + IntKind.i64.wrap v) - a1).toNat (List.drop a1.toNat xs))).1, linkF ahead (List.take (IntKind.i64.wrap (a1 + IntKind.i64.wrap v) - a1).toNat (List.drop a1.toNat xs)), 36 + v)) := by
  obtain ⟨_, e1, hl, ev⟩ := h1.back4'
  have hv := rv_lt xs a.toNat (n := 4) (m := 4294967296) (by decide)
  rw [← ev] at hv
  have ew : IntKind.i64.wrap v = v := wi hv.1 (by omega)
  have ew2 : IntKind.i64.wrap (a1 + IntKind.i64.wrap v) = a + 4 + v := by rw [ew, e1]; exact wi (by omega) (by omega)
  have eB : List.take (IntKind.i64.wrap (a1 + IntKind.i64.wrap v) - a1).toNat (List.drop a1.toNat xs) = List.take v.toNat (List.drop (a.toNat + 4) xs) := by
    rw [ew2, e1, show (a + 4 + v - (a + 4)).toNat = v.toNat by omega, show (a + 4).toNat = a.toNat + 4 by omega]
  have er : rv (xs.drop a.toNat) 0 4 = v := by
    rw [ev]
    unfold rv
    rw [List.drop_zero]
  have el : (xs.drop a.toNat).length = xs.length - a.toNat := List.length_drop
  have e4 : ((xs.drop a.toNat).drop 4).take v.toNat = List.take v.toNat (List.drop (a.toNat + 4) xs) := by rw [List.drop_drop]
  have e5 : ((xs.drop a.toNat).drop (4 + v.toNat)).take 32 = (xs.drop (a + 4 + v).toNat).take 32 := by
    rw [List.drop_drop, show a.toNat + (4 + v.toNat) = (a + 4 + v).toNat by omega]
  refine ⟨e1, hl, hv.1, hv.2, ew, ew2, ?_, ?_⟩
  · rw [eB]
    intro hn
    refine ent_zero ?_
    rw [er, e4, e5, el]
    exact fun hc => hn ⟨hc.2.1, by omega, hc.2.2.2.1, hc.2.2.2.2⟩
  · rw [eB]
    intro hc
    have hh := ent_some (ahead := ahead) (xs := xs.drop a.toNat)
    rw [er, e4, e5, el] at hh
    exact hh ⟨by omega, hc.1, by omega, hc.2.2.1, hc.2.2.2⟩
theorem fp_num {xs : List UInt8} {a a1 v : Int} (h0 : 0 ≤ a) (hx : xs.length ≤ 100000000) (h1 : Rd xs a false 4 a1 false v) :
    a1 = a + 4 ∧ a + 4 ≤ xs.length ∧ 0 ≤ v ∧ v < 4294967296 ∧ IntKind.i64.wrap v = v ∧ IntKind.i64.wrap (a1 + IntKind.i64.wrap v) = a + 4 + v ∧ IntKind.i64.wrap ((xs.length : Int) - a1) = xs.length - a1 := by
  obtain ⟨c1, c2, c3, c4, c5, c6, _⟩ := fp_cond (ahead := []) h0 hx h1
  exact ⟨c1, c2, c3, c4, c5, c6, wi (by omega) (by omega)⟩
theorem fp_stop {xs ahead : List UInt8} {out : List recE.ty} {a : Int} (hP : parseF xs = (out ++ (parseG ahead (List.drop a.toNat xs) a).1, (parseG ahead (List.drop a.toNat xs) a).2)) (h0 : 0 ≤ a) (ha : a < (xs.length : Int)) (hz : (entF ahead (xs.drop a.toNat)).2.2 = 0) : parseF xs = (out, a) := by
  rw [hP, parseG_stop (drop_ne h0 ha) hz, List.append_nil]
theorem fp_end {xs ahead : List UInt8} {out : List recE.ty} {a : Int} (hP : parseF xs = (out ++ (parseG ahead (List.drop a.toNat xs) a).1, (parseG ahead (List.drop a.toNat xs) a).2)) (ha : ¬ a < (xs.length : Int)) : parseF xs = (out, -1) := by
  rw [hP, List.drop_of_length_le (by omega), parseG_nil, List.append_nil]
theorem fp_bad {xs ahead : List UInt8} {out : List recE.ty} {a a1 v : Int} (hP : parseF xs = (out ++ (parseG ahead (List.drop a.toNat xs) a).1, (parseG ahead (List.drop a.toNat xs) a).2)) (h0 : 0 ≤ a) (ha : a < (xs.length : Int)) (h1 : Rd xs a false 4 a1 true v) : parseF xs = (out, a) := by
  refine fp_stop hP h0 ha (ent_zero fun hc => ?_)
  have := hc.1
  rw [List.length_drop] at this
  have := (h1.fwd4 (by omega)).1
  cases this
theorem fp_no {xs ahead : List UInt8} {out : List recE.ty} {a a1 v : Int} (hP : parseF xs = (out ++ (parseG ahead (List.drop a.toNat xs) a).1, (parseG ahead (List.drop a.toNat xs) a).2)) (h0 : 0 ≤ a) (ha : a < (xs.length : Int)) (hx : xs.length ≤ 100000000) (h1 : Rd xs a false 4 a1 false v)
    (hn : 200 < IntKind.i64.wrap v ∨ IntKind.i64.wrap ((xs.length : Int) - a1) < IntKind.i64.wrap v ∨ (!(agetF (List.take (IntKind.i64.wrap (a1 + IntKind.i64.wrap v) - a1).toNat (List.drop a1.toNat xs))).2) = true ∨
      (∃ a2 l, RdS xs (IntKind.i64.wrap (a1 + IntKind.i64.wrap v)) false a2 true l) ∨
      (∃ a2 l, RdS xs (IntKind.i64.wrap (a1 + IntKind.i64.wrap v)) false a2 false l ∧ (!decide (l = linkF ahead (List.take (IntKind.i64.wrap (a1 + IntKind.i64.wrap v) - a1).toNat (List.drop a1.toNat xs)))) = true)) : parseF xs = (out, a) := by
  obtain ⟨e1, hl, v0, v1, ew, ew2, hz, _⟩ := fp_cond (ahead := ahead) h0 hx h1
  refine fp_stop hP h0 ha (hz fun hc => ?_)
  rcases hn with hn | hn | hn | ⟨a2, l, hn⟩ | ⟨a2, l, hs, hn⟩
  · omega
  · rw [ew, e1, wi (by omega) (by omega)] at hn
    omega
  · rw [hc.2.2.1] at hn
    cases hn
  · rw [ew2] at hn
    have := (hn.fwd (by omega)).1
    cases this
  · rw [ew2] at hs
    obtain ⟨_, _, _, e⟩ := hs.back
    refine of_decide_eq_false (not_t hn) ?_
    rw [e]
    exact hc.2.2.2
theorem fp_ok {xs ahead l : List UInt8} {out : List recE.ty} {a a1 v a2 : Int} (hP : parseF xs = (out ++ (parseG ahead (List.drop a.toNat xs) a).1, (parseG ahead (List.drop a.toNat xs) a).2)) (h0 : 0 ≤ a) (ha : a < (xs.length : Int)) (hx : xs.length ≤ 100000000) (h1 : Rd xs a false 4 a1 false v)
    (h200 : ¬ 200 < IntKind.i64.wrap v) (hg : (!(agetF (List.take (IntKind.i64.wrap (a1 + IntKind.i64.wrap v) - a1).toNat (List.drop a1.toNat xs))).2) = false) (hs : RdS xs (IntKind.i64.wrap (a1 + IntKind.i64.wrap v)) false a2 false l)
    (hl : (!decide (l = linkF ahead (List.take (IntKind.i64.wrap (a1 + IntKind.i64.wrap v) - a1).toNat (List.drop a1.toNat xs)))) = false) :
    a2 = a + 36 + v ∧ a2 ≤ xs.length ∧ 0 ≤ v ∧ l.length = 32 ∧
    parseF xs = ((out ++ [(agetF (List.take (IntKind.i64.wrap (a1 + IntKind.i64.wrap v) - a1).toNat (List.drop a1.toNat xs))).1]) ++ (parseG l (List.drop a2.toNat xs) a2).1, (parseG l (List.drop a2.toNat xs) a2).2) := by
  obtain ⟨e1, hl4, v0, v1, ew, ew2, _, hy⟩ := fp_cond (ahead := ahead) h0 hx h1
  have e2 := of_decide_eq_true (not_f hl)
  have hs' := hs
  rw [ew2] at hs'
  obtain ⟨_, es, hb, el⟩ := hs'.back
  have hent := hy ⟨by omega, by omega, not_f hg, by rw [← el, e2]⟩
  have hlen : l.length = 32 := by rw [e2]; exact link_len _ _
  refine ⟨by omega, by omega, v0, hlen, ?_⟩
  have hne : (entF ahead (List.drop a.toNat xs)).2.2 ≠ 0 := by rw [hent]; show 36 + v ≠ 0; omega
  rw [hP, parseG_step (drop_ne h0 ha) hne, hent, ← e2]
  dsimp only
  rw [List.drop_drop, show a.toNat + (36 + v).toNat = a2.toNat by omega, show a + (36 + v) = a2 by omega, List.append_assoc]
  rfl
@[reducible] def fparse_s : Spec := { parse_s with }
@[reducible] def fparse_a : Ann where
  nx := 2
  cs := [(0, .row 33 recE), (1, .own (.el (.ar 32 .u8)))]
  ss := [(0, .el (.rd .u8)), (4, .own 0), (5, .ref 1), (6, .el iE)]
  inv := fun (_, _, xs0, _, _) (out, ahead, xs, at_, _) => xs = xs0 ∧ ahead.length = 32 ∧ 0 ≤ at_ ∧ at_ ≤ xs.length ∧ out.length ≤ at_ ∧ parseF xs = (out ++ (parseG ahead (xs.drop at_.toNat) at_).1, (parseG ahead (xs.drop at_.toNat) at_).2)
  mu := fun (_, _, xs, at_, _) => xs.length - at_.toNat
@[reducible] def fparse_h : Hints := ⟨[(9, (tks 0 12 (.last 12 false [] .done))), (13, (tks 0 2 (.take 2 true (tks 3 5 (.take 8 true (tks 9 3 (.last 12 false [9] (tks 13 2 .done)))))))), (15, (tks 0 5 (.last 5 false [4] (.last 6 false [] .done))))], [(4, fparse_a)], []⟩
@[reducible] noncomputable def fparse_e : Env := ⟨tys, [(27, fru32r_s.call), (21, fgetR_s.call), (28, frsumr_s.call), (29, flink_s.call)]⟩
set_option maxHeartbeats 1000000 in
set_option maxRecDepth 100000 in
theorem fparse_d : denF fparse_e fparse_s fparse_h Tryz.f9 := by
  intro xs
  intro hpre
  dsimp only [fparse_s] at hpre
  repeat' (first | (conv => whnf); first | done | exact True.intro | refine And.intro ?_ ?_ | refine Is.mk ?_ | (intro h; cases h; done) | (intro _))
  all_goals try dsimp only [maxLen, El.ty, fparse_a] at *
  all_goals repeat (with_reducible cases ‹_ ∧ _›)
  all_goals try subst_vars
  all_goals try simp only [decide_eq_true_eq, decide_eq_false_iff_not] at *
  all_goals try (with_reducible assumption)
  all_goals try (with_reducible exact List.length_replicate)
  all_goals try omega
  all_goals try (exact first_inv xs)
  all_goals try ((with_reducible change ((([] : List recE.ty).length : Nat) : Int) ≤ 0); exact Int.le_refl 0)
  all_goals first
    | have hS := fp_bad (by assumption) (by assumption) (by assumption) (by assumption)
    | have hS := fp_no (by assumption) (by assumption) (by assumption) (by assumption) (by assumption) (.inl (by assumption))
    | have hS := fp_no (by assumption) (by assumption) (by assumption) (by assumption) (by assumption) (.inr (.inl (by assumption)))
    | have hS := fp_no (by assumption) (by assumption) (by assumption) (by assumption) (by assumption) (.inr (.inr (.inl (by assumption))))
    | have hS := fp_no (by assumption) (by assumption) (by assumption) (by assumption) (by assumption) (.inr (.inr (.inr (.inl ⟨_, _, (by assumption)⟩))))
    | have hS := fp_no (by assumption) (by assumption) (by assumption) (by assumption) (by assumption) (.inr (.inr (.inr (.inr ⟨_, _, (by assumption), (by assumption)⟩))))
    | skip
  all_goals try exact congrArg Prod.fst hS.symm
  all_goals try exact congrArg Prod.snd hS.symm
  all_goals first
    | have hK := fp_ok (by assumption) (by assumption) (by assumption) (by assumption) (by assumption) (by assumption) (by assumption) (by assumption) (by assumption)
    | skip
  all_goals try exact hK.2.2.2.2
  all_goals try exact hK.2.2.2.1
  all_goals first
    | have hC := fp_num (by assumption) (by assumption) (by assumption)
    | skip
  all_goals try simp only [List.length_append, List.length_singleton, List.length_take, List.length_drop] at *
  all_goals try omega
  all_goals have hE := fp_end (by assumption) (by assumption)
  · exact congrArg Prod.fst hE.symm
  · exact congrArg Prod.snd hE.symm
set_option maxRecDepth 100000 in
theorem fparse_p : (FnIs Tryz.prog 9 ∧ FnOk Tryz.prog 9 fparse_s) ∧ (idsOk fparse_s.cs && idsOk fparse_s.cs' && Nat.ble fparse_s.n fparse_s.n') = true :=
  fn_of (l := [(27, fru32r_s.call), (21, fgetR_s.call), (28, frsumr_s.call), (29, flink_s.call)]) (hi := fparse_h) (S := fparse_s) (fn := Tryz.f9) (c := Tryz.f9.body.get!) tysOk mixOk ⟨.inl fru32r_m, .inl fgetR_m, .inl frsumr_m, .inl flink_m, trivial⟩ (by kernel_rfl) (by kernel_rfl) (by kernel_rfl) (by kernel_rfl) (by kernel_rfl) fparse_d
theorem fparse_m : May Tryz.prog (9, fparse_s.call) := may_call fparse_p
theorem fparse_n : May Tryz.prog (9, fparse_s.callN) := may_callN fparse_p
/-- Of records those that are right. -/
def rightsL (l : List recE.ty) : List recE.ty := l.filter arightR
theorem rights_right {l : List recE.ty} (h : ∀ r ∈ l, RFit r) : RightL (rightsL l) := fun r hr => by
  have := List.mem_filter.1 hr
  exact ⟨(h r this.1).tag, this.2⟩
theorem rights_next {l : List recE.ty} {i : Int} (h0 : 0 ≤ i) (h1 : i < (l.length : Int)) : rightsL (l.take (i.toNat + 1)) = rightsL (l.take i.toNat) ++ (if arightR (l.getD i.toNat recE.dflt) = true then [l.getD i.toNat recE.dflt] else []) := by
  have hi : i.toNat < l.length := by omega
  unfold rightsL
  rw [List.take_add_one, List.filter_append]
  congr 1
  rw [List.getD_eq_getElem?_getD, List.getElem?_eq_getElem hi]
  simp only [Option.toList_some, Option.getD_some]
  rw [List.filter_cons]
  split <;> rfl
theorem rights_le (l : List recE.ty) : (rightsL l).length ≤ l.length := List.length_filter_le _ _
theorem rights_le2 (l : List recE.ty) (n : Nat) : (rightsL (l.take n)).length ≤ l.length := Nat.le_trans (rights_le _) (List.length_take_le' _ _)
theorem take_end {l : List recE.ty} {i : Int} (h : ¬ i < (l.length : Int)) (h0 : i ≤ l.length) : List.take i.toNat l = l := List.take_of_length_le (by omega)
theorem rights_0 (l : List recE.ty) : rightsL (List.take (Int.toNat 0) l) = [] := rfl
theorem fit_take {l : List recE.ty} (h : ∀ r ∈ l, RFit r) (n : Nat) : ∀ r ∈ l.take n, RFit r := fun r hr => h r (List.mem_of_mem_take hr)
attribute [local irreducible] rightsL RightL
@[reducible] def flog_s : Spec where
  n := 0
  cs := []
  ar := [.lend recE]
  pre := fun (l, _) => (∀ r ∈ l, RFit r) ∧ l.length ≤ 30
  n' := 1
  cs' := [(0, .row 5 .u8)]
  rs := [.own 0, .el (.ar 32 .u8), .el iE]
  post := .fn fun (l, _) => (encL noSum (rightsL l), endL noSum (rightsL l), ((rightsL l).length : Int), ())
@[reducible] def flog_a : Ann where
  nx := 3
  cs := [(0, .own (.el (.ar 32 .u8))), (1, .row 5 .u8), (2, .own (.el (.ar 32 .u8)))]
  ss := [(0, .lend recE), (3, .ref 0), (5, .own 1), (6, .ref 2), (7, .el iE), (8, .el iE)]
  inv := fun (_, _, _, l0, _, _, _) (_, out, lk, l, n, i, _) => l = l0 ∧ 0 ≤ i ∧ i ≤ l.length ∧ out = encL noSum (rightsL (l.take i.toNat)) ∧ lk = endL noSum (rightsL (l.take i.toNat)) ∧ n = (rightsL (l.take i.toNat)).length
  mu := fun (_, _, _, l, _, i, _) => l.length - i.toNat
@[reducible] def flog_h : Hints := ⟨[(8, (tks 0 5 (.last 5 false [] (tks 6 3 (.cash 9 [0, 3, 4] (.last 10 false [] (.last 11 false [] .done))))))), (9, (tks 0 2 (.take 3 false (.last 2 false [3] (.last 4 false [3] (.last 5 false [] .done)))))), (11, (tks 0 3 (.last 3 false [1] (.last 4 false [] (.last 5 false [] .done)))))], [(5, flog_a)], []⟩
@[reducible] noncomputable def flog_e : Env := ⟨tys, [(14, frightRw_s.call), (24, fentry_s.call)]⟩
set_option maxHeartbeats 1000000 in
set_option maxRecDepth 100000 in
theorem flog_d : denF flog_e flog_s flog_h Tryz.f5 := by
  intro l
  intro hpre
  dsimp only [flog_s] at hpre
  obtain ⟨hf, hl30⟩ := hpre
  repeat' (first | (conv => whnf); first | done | exact True.intro | refine And.intro ?_ ?_ | refine Is.mk ?_ | (intro h; cases h; done) | (intro _))
  all_goals try dsimp only [maxLen, El.ty, flog_a] at *
  all_goals repeat (with_reducible cases ‹_ ∧ _›)
  all_goals try subst_vars
  all_goals try simp only [decide_eq_true_eq, decide_eq_false_iff_not] at *
  all_goals try (with_reducible assumption)
  all_goals try (with_reducible rfl)
  all_goals try (rename List recE.ty => l; rename Int => i)
  all_goals try (have hlt : i < (l.length : Int) := by omega)
  all_goals try (have hR := hf _ (getD_mem' (d := recE.dflt) (by omega) hlt))
  all_goals try (have hn := rights_next (l := l) (i := i) (by omega) hlt)
  all_goals try (have hL := rights_right (fit_take hf i.toNat); have hb := encL_le hL noSum; have hb2 := rights_le2 l i.toNat)
  all_goals try (have wn := wi (x := i + 1) (by omega) (by omega); have wt : (i + 1).toNat = i.toNat + 1 := by omega)
  all_goals try simp only [wn, wt, hn] at *
  all_goals try (have hR0 := hR; clear hR0; generalize List.getD _ _ recE.dflt = R at *; obtain ⟨rk, rn, rt, ⟨c1, c2, c3, c4, c5, c6, c7, c8, c9, c10, c11, c12, c13, c14, ctag, ⟨⟩⟩, ⟨⟩⟩ := R; try dsimp only at *)
  all_goals try (generalize ((rk, rn, rt, (c1, c2, c3, c4, c5, c6, c7, c8, c9, c10, c11, c12, c13, c14, ctag, ()), ()) : recE.ty) = R at *)
  all_goals try clear rk rn rt c1 c2 c3 c4 c5 c6 c7 c8 c9 c10 c11 c12 c13 c14 ctag
  all_goals try (with_reducible assumption)
  all_goals try (rw [rights_0]; first | exact enc_nil | exact end_nil | exact rfl)
  all_goals try (rw [take_end (l := l) (i := i) (by assumption) (by assumption)])
  all_goals try (have hl := aput_len hR.out; have he := ent_len0 (link := endL noSum (rightsL (List.take i.toNat l))) (r := R))
  all_goals try (rename arightR R = _ => hq; simp only [hq, if_true, Bool.false_eq_true, if_false, List.append_nil, encL_snoc, endL_snoc, List.length_append, List.length_singleton])
  all_goals try exact endL_len0 _
  all_goals try exact (encL_snoc _ _ _).symm
  all_goals try exact (endL_snoc _ _ _).symm
  all_goals try omega
  all_goals try (rw [wi (by omega) (by omega)]; rfl)
set_option maxRecDepth 100000 in
theorem flog_p : (FnIs Tryz.prog 5 ∧ FnOk Tryz.prog 5 flog_s) ∧ (idsOk flog_s.cs && idsOk flog_s.cs' && Nat.ble flog_s.n flog_s.n') = true :=
  fn_of (l := [(14, frightRw_s.call), (24, fentry_s.call)]) (hi := flog_h) (S := flog_s) (fn := Tryz.f5) (c := Tryz.f5.body.get!) tysOk mixOk ⟨.inl frightRw_m, .inl fentry_m, trivial⟩ (by kernel_rfl) (by kernel_rfl) (by kernel_rfl) (by kernel_rfl) (by kernel_rfl) flog_d
theorem flog_m : May Tryz.prog (5, flog_s.call) := may_call flog_p
theorem flog_n : May Tryz.prog (5, flog_s.callN) := may_callN flog_p
end Go.J

set_option linter.unusedSimpArgs false
set_option linter.unusedVariables false
set_option linter.unusedSectionVars false
namespace Go.J
open Go.Proofs

theorem noSum_len : noSum.length = 32 := rfl
theorem enc_le2 {l : List recE.ty} (hf : ∀ r ∈ l, RFit r) (h : l.length ≤ 12) : (encL noSum (rightsL l)).length ≤ 1200 := by
  have h1 := encL_le (rights_right hf) noSum
  have h2 := rights_le l
  omega
theorem cut1 (c : Int) {L : Nat} (h : L ≤ 100000) (h1 : 0 < L) : IntKind.i64.wrap ((L : Int) - 1) = L - 1 ∧ 0 ≤ 0 + c % (IntKind.i64.wrap ((L : Int) - 1) - 0 + 1) ∧ 0 + c % (IntKind.i64.wrap ((L : Int) - 1) - 0 + 1) < L := by
  have e : IntKind.i64.wrap ((L : Int) - 1) = L - 1 := wi (by omega) (by omega)
  rw [e]
  have hm := mod_in c (l := ((L : Int) - 1) - 0 + 1) (by omega)
  exact ⟨rfl, by omega, by omega⟩
theorem xor_in (x y : Int) : 0 ≤ bits .xor .u8 x y ∧ bits .xor .u8 x y < 256 := by
  unfold bits
  exact byte_in _
attribute [local irreducible] List.getD addF parseF linkF entB aputR arightR agetF rsameF encL endL rightsL RightL
@[reducible] def auditParses_s : Spec where
  n := 0
  cs := []
  ar := [.el (.rd doE), .el (.rd .u8), .el iE, .el .u8, .el iE]
  pre := fun (l, b, at_, to, cut, _) => (∀ d ∈ l, DFit d) ∧ fit64 at_ ∧ fit64 cut
  n' := 0
  cs' := []
  rs := [.el .bool]
  post := .fn fun _ => (true, ())
@[reducible] def auditParses_h : Hints := ⟨[], [], []⟩
@[reducible] noncomputable def auditParses_e : Env := ⟨tys, [(6, recs_s.call), (5, flog_s.call), (7, within_s.call), (8, parse_s.call), (9, fparse_s.call), (10, rsame_s.call), (11, auditRuns_s.call)]⟩
set_option maxHeartbeats 1000000 in
set_option maxRecDepth 100000 in
theorem auditParses_d : denF auditParses_e auditParses_s auditParses_h Tryz.f3 := by
  intro l b at_ to cut
  intro hpre
  dsimp only [auditParses_s] at hpre
  obtain ⟨hd, ha, hc⟩ := hpre
  repeat' (first | (conv => whnf); first | done | exact True.intro | refine And.intro ?_ ?_ | refine Is.mk ?_ | (intro h; cases h; done) | (intro _))
  all_goals try dsimp only [maxLen, El.ty] at *
  all_goals repeat (with_reducible cases ‹_ ∧ _›)
  all_goals try subst_vars
  all_goals try (with_reducible assumption)
  all_goals try exact hd _ (by assumption)
  all_goals try exact zero_fit
  all_goals clear hd
  all_goals try (rename ∀ r : recE.ty, _ → RFit r => hf; have hb := enc_le2 hf (by assumption))
  all_goals try (with_reducible exact hf _ (by assumption))
  all_goals try simp only [decide_eq_true_eq, decide_eq_false_iff_not, rsame_refl, not_true_eq_false, reduceCtorEq] at *
  all_goals try (have hb0 := hb; clear hb0; generalize encL noSum (rightsL _) = E at *)
  all_goals try (have hE : 0 < E.length := by omega)
  all_goals first
    | have hQ := cut1 at_ (Nat.le_trans hb (by decide)) hE
    | skip
  all_goals first
    | have hcc := cut_in cut E.length
    | skip
  all_goals try (with_reducible exact (xor_in _ _).1)
  all_goals try (with_reducible exact (xor_in _ _).2)
  all_goals try simp only [List.length_append, List.length_set, List.length_take, List.length_drop, List.length_nil]
  all_goals try omega
  all_goals try exact (cut_in _ _).1
  all_goals try exact (cut_in _ _).2
set_option maxRecDepth 100000 in
theorem auditParses_p : (FnIs Tryz.prog 3 ∧ FnOk Tryz.prog 3 auditParses_s) ∧ (idsOk auditParses_s.cs && idsOk auditParses_s.cs' && Nat.ble auditParses_s.n auditParses_s.n') = true :=
  fn_of (l := [(6, recs_s.call), (5, flog_s.call), (7, within_s.call), (8, parse_s.call), (9, fparse_s.call), (10, rsame_s.call), (11, auditRuns_s.call)]) (hi := auditParses_h) (S := auditParses_s) (fn := Tryz.f3) (c := Tryz.f3.body.get!) tysOk mixOk ⟨.inl recs_m, .inl flog_m, .inl within_m, .inl parse_m, .inl fparse_m, .inl rsame_m, .inl auditRuns_m, trivial⟩ (by kernel_rfl) (by kernel_rfl) (by kernel_rfl) (by kernel_rfl) (by kernel_rfl) auditParses_d
theorem auditParses_m : May Tryz.prog (3, auditParses_s.call) := may_call auditParses_p
theorem auditParses_n : May Tryz.prog (3, auditParses_s.callN) := may_callN auditParses_p
@[reducible] def auditTells_s : Spec where
  n := 0
  cs := []
  ar := [.el (.rd doE), .el iE, .el recE, .el (.rd .u8)]
  pre := fun (l, at_, r, b, _) => (∀ d ∈ l, DFit d) ∧ RFit r
  n' := 0
  cs' := []
  rs := [.el .bool]
  post := .fn fun _ => (true, ())
@[reducible] def auditTells_a : Ann where
  nx := 2
  cs := [(0, .row 33 recE), (1, .own logSh)]
  ss := [(3, .el (.rd .u8)), (9, .ref 1), (10, .own 0), (34, .own 0), (35, .el iE), (36, .el iE)]
  inv := fun (rs0, _, _, _, bb0, ln0, _, _) (rs, b, lk, n, bb, ln, i, _) => rs = rs0 ∧ bb = bb0 ∧ ln = ln0 ∧ 0 ≤ i ∧ i ≤ rs.length ∧ b = encL noSum (rightsL (rs.take i.toNat)) ∧ lk = endL noSum (rightsL (rs.take i.toNat)) ∧ n = (rightsL (rs.take i.toNat)).length
  mu := fun (rs, _, _, _, _, _, i, _) => rs.length - i.toNat
@[reducible] def auditTells_h : Hints := ⟨[(9, (.take 0 false (.take 2 false (.last 1 false [] (.take 3 false (.take 4 true (tks 5 2 (.take 8 false (.last 7 false [] (tks 9 2 (.take 11 true (.take 12 false (.take 13 true (.take 14 false (.take 16 false (.last 15 false [16] (.last 17 false [] (.last 18 false [] (tks 19 3 .done))))))))))))))))))), (16, (.take 0 false (.take 2 false (.last 1 false [] (.last 3 false [] (.take 4 true (.take 5 false (.take 7 false (.last 6 false [7] (tks 8 2 (.take 10 true (.take 11 false (.take 13 false (.last 12 false [] (tks 14 2 (.take 16 true (tks 17 4 (.take 21 true (tks 22 4 (.take 26 true (.last 27 false [] (.take 28 false (.last 29 false [] .done)))))))))))))))))))))))], [(6, auditTells_a)], []⟩
@[reducible] noncomputable def auditTells_e : Env := ⟨tys, [(12, anew_s.call), (13, alink_s.call), (6, recs_s.call), (14, frightRw_s.call), (15, arightw_s.call), (16, aaddw_s.call), (18, aputw_s.call), (19, fputRw_s.call), (17, same_s.call), (5, flog_s.call), (20, aget_s.call), (21, fgetR_s.call), (22, abytes_s.call), (23, alen_s.call), (11, auditRuns_s.call)]⟩
set_option maxHeartbeats 1000000 in
set_option maxRecDepth 100000 in
theorem auditTells_d : denF auditTells_e auditTells_s auditTells_h Tryz.f4 := by
  intro l at_ k n t kk seq tr inst id side ord pr q sh st wh a b tag bb
  intro hpre
  dsimp only [auditTells_s] at hpre
  obtain ⟨hd, hraw⟩ := hpre
  repeat' (first | (conv => whnf); first | done | exact True.intro | refine And.intro ?_ ?_ | refine Is.mk ?_ | (intro h; cases h; done) | (intro _))
  all_goals try dsimp only [maxLen, El.ty, auditTells_a] at *
  all_goals repeat (with_reducible cases ‹_ ∧ _›)
  all_goals try subst_vars
  all_goals try (with_reducible assumption)
  all_goals try exact hd _ (by assumption)
  all_goals clear hd
  all_goals try simp only [decide_eq_true_eq, decide_eq_false_iff_not] at *
  all_goals try (rename ∀ r : recE.ty, _ → RFit r => hf)
  all_goals try (with_reducible exact hf _ (by assumption))
  all_goals try (rename List recE.ty => l; rename Int => i)
  all_goals try (have hlt : i < (l.length : Int) := by omega)
  all_goals try (have hR := hf _ (getD_mem' (d := recE.dflt) (by omega) hlt))
  all_goals try (have hn := rights_next (l := l) (i := i) (by omega) hlt)
  all_goals try (have hL := rights_right (fit_take hf i.toNat); have hb := encL_le hL noSum; have hb2 := rights_le2 l i.toNat)
  all_goals try (have wn := wi (x := i + 1) (by omega) (by omega); have wt : (i + 1).toNat = i.toNat + 1 := by omega)
  all_goals try simp only [wn, wt, hn] at *
  all_goals try (have hR0 := hR; clear hR0; generalize List.getD _ _ recE.dflt = R at *; obtain ⟨rk, rn, rt, ⟨c1, c2, c3, c4, c5, c6, c7, c8, c9, c10, c11, c12, c13, c14, ctag, ⟨⟩⟩, ⟨⟩⟩ := R; try dsimp only at *)
  all_goals try (generalize ((rk, rn, rt, (c1, c2, c3, c4, c5, c6, c7, c8, c9, c10, c11, c12, c13, c14, ctag, ()), ()) : recE.ty) = R at *)
  all_goals try clear rk rn rt c1 c2 c3 c4 c5 c6 c7 c8 c9 c10 c11 c12 c13 c14 ctag
  all_goals try (with_reducible assumption)
  all_goals try (have hR0 := hR; clear hR0; cases hq : arightR R)
  all_goals try simp only [addF_no2 hq, hq, Bool.false_eq_true, if_false, List.append_nil] at *
  all_goals try simp only [addF_yes3 hq, hq, if_true] at *
  all_goals first
    | have te := take_end (l := l) (i := i) (by assumption) (by assumption)
    | skip
  all_goals try simp only [te] at *
  all_goals try simp only [decide_true, Bool.not_true, Bool.not_false, reduceCtorEq, not_true_eq_false, List.length_append, List.length_singleton] at *
  all_goals try exact endL_len0 _
  all_goals try (rw [rights_0]; first | exact enc_nil | exact end_nil | exact rfl)
  all_goals try omega
  all_goals try (refine Nat.le_trans (List.length_take_le' _ _) ?_; rw [List.length_drop]; omega)
  all_goals try exact Nat.le_trans (List.length_take_le _ _) (by omega)
  all_goals try exact noSum_len
  all_goals (rename (_ && _) = false => hx; simp only [Bool.and_true, reduceCtorEq] at hx)
set_option maxRecDepth 100000 in
theorem auditTells_p : (FnIs Tryz.prog 4 ∧ FnOk Tryz.prog 4 auditTells_s) ∧ (idsOk auditTells_s.cs && idsOk auditTells_s.cs' && Nat.ble auditTells_s.n auditTells_s.n') = true :=
  fn_of (l := [(12, anew_s.call), (13, alink_s.call), (6, recs_s.call), (14, frightRw_s.call), (15, arightw_s.call), (16, aaddw_s.call), (18, aputw_s.call), (19, fputRw_s.call), (17, same_s.call), (5, flog_s.call), (20, aget_s.call), (21, fgetR_s.call), (22, abytes_s.call), (23, alen_s.call), (11, auditRuns_s.call)]) (hi := auditTells_h) (S := auditTells_s) (fn := Tryz.f4) (c := Tryz.f4.body.get!) tysOk mixOk ⟨.inl anew_m, .inl alink_m, .inl recs_m, .inl frightRw_m, .inl arightw_m, .inl aaddw_m, .inl aputw_m, .inl fputRw_m, .inl same_m, .inl flog_m, .inl aget_m, .inl fgetR_m, .inl abytes_m, .inl alen_m, .inl auditRuns_m, trivial⟩ (by kernel_rfl) (by kernel_rfl) (by kernel_rfl) (by kernel_rfl) (by kernel_rfl) auditTells_d
theorem auditTells_m : May Tryz.prog (4, auditTells_s.call) := may_call auditTells_p
theorem auditTells_n : May Tryz.prog (4, auditTells_s.callN) := may_callN auditTells_p
end Go.J

set_option linter.unusedSimpArgs false
set_option linter.unusedVariables false
set_option linter.unusedSectionVars false

namespace Go.J
open Go.RowKit

/-- The world as a call finds it: nothing that is there is written. -/
def cxOf (w : World) : Cx := ⟨fun _ => none, fun b => b < w.heap.size, w⟩
theorem mdl_start (w : World) (n : Nat) : Mdl w ⟨fun _ => False, fun b => b < w.heap.size⟩ (cxOf w) [] n :=
  ⟨rfl, rfl, rfl, Nat.le_refl _, fun _ _ _ => rfl, fun _ h => h, fun _ _ => rfl, fun _ _ h => (nomatch h), (by simp), fun _ _ _ _ _ _ h => (nomatch h), fun _ _ _ h => (nomatch h), fun _ h => .inl h⟩
theorem Mdl.below {w : World} {im : Nat → Prop} {G : Cx} {hp : Hp} {nx : Nat} (h : Mdl w ⟨fun _ => False, im⟩ G hp nx) : RowKit.Below w.heap.size w G.w :=
  ⟨h.os, h.tape, h.output, h.size, fun k hk => h.keep k hk (fun hf => hf)⟩

/-- A law's walk. -/
theorem law_walk {P : Program} {f : FuncId} {g : List T → Hp → Nat → (T → Hp → Nat → Prop) → Prop} (h : CallOk P f g) (w : World) (args : List T) (vs : List Value) (n : Nat) (hv : frOk (cxOf w) args ⟨vs⟩)
    (hg : ∀ k : T → Hp → Nat → Prop, (∀ hp nx, k (.v (.bool true)) hp nx) → g args [] n k) : Calls P f ⟨vs⟩ w fun e w' => e = .returned (.bool true) ∧ RowKit.Below w.heap.size w w' := by
  refine Calls.mono (h w _ (cxOf w) [] n args vs (fun x _ _ => x = .v (.bool true)) (mdl_start w n) hv (hg _ fun _ _ => rfl)) ?_
  rintro e w' ⟨G', x, v, hp', nx', rfl, rfl, _, hm, hv, rfl⟩
  have hv : v = .bool true := hv
  subst hv
  exact ⟨rfl, hm.below⟩

end Go.J

set_option linter.unusedSimpArgs false
set_option linter.unusedVariables false
namespace Go.J
open Go.RowKit Go.ChangeShapes Go.WideShapes

theorem wf_int {k : IntKind} {n : Int} (h : (Lit.int k n).wf = true) : k.min ≤ n ∧ n ≤ k.max := by simpa [Lit.wf] using h

/-- How great a value that comes in may be. -/
def El.fits : (e : El) → e.ty → Prop
  | .u8, _ => True
  | .int k, n => k.min ≤ n ∧ n ≤ k.max
  | .bool, _ => True
  | .str, s => s.length ≤ maxLen
  | .rd e, xs => xs.length ≤ maxLen ∧ ∀ x ∈ xs, e.fits x
  | .nil, _ => True
  | .cons e es, x => e.fits x.1 ∧ es.fits x.2
  | .ar n e, xs => xs.length = n ∧ ∀ x ∈ xs, e.fits x

/-- Is a type's value told so? -/
def elTys (f : TypeId → El → Bool) : List (TypeId × Nat) → Nat → El → Bool
  | [], _, .nil => true
  | (t, d) :: fs, d', .cons e es => Nat.beq d d' && f t e && elTys f fs (d' + e.sz) es
  | _, _, _ => false
def elTy (l : List (Nat × TyI)) : Nat → TypeId → El → Bool
  | 0, _, _ => false
  | n + 1, t, e => match lookTy l t with
    | none => false
    | some y => Nat.beq y.size e.sz && (match y.k, e with
      | .int k, .int k' => k == k'
      | .int k, .u8 => k == .u8
      | .bool, .bool => true
      | .str, .str => true
      | .sl et, .rd e => Nat.blt 0 e.sz && elTy l n et e
      | .st fs, e => elTys (elTy l n) fs 0 e
      | .ar m et, .ar m' e => Nat.beq m m' && elTy l n et e
      | _, _ => false)

section
variable {H : Type} {enc : TypeId × Value → H} {P : Program} {l : List (Nat × TyI)} {w : World}

theorem cellsOf_size {t : TypeId} {y : TyI} (h : TyOk P t y) : P.cellsOf t = y.size := by
  have := ty_size h
  unfold Program.cellsOf
  rw [this]
  rfl
theorem elTy_size (hty : ∀ t i, (t, i) ∈ l → TyOk P t i) {n : Nat} {t : TypeId} {e : El} (h : elTy l n t e = true) : P.cellsOf t = e.sz := by
  cases n with
  | zero => simp [elTy] at h
  | succ n =>
    unfold elTy at h
    split at h
    · cases h
    · next y hy =>
      simp only [Bool.and_eq_true] at h
      rw [cellsOf_size (hty t y (lookTy_out hy)), nat_beq_eq h.1]

theorem addr_add_add (a : Addr) (m n : Nat) : (a.add m).add n = a.add (m + n) := by
  unfold Addr.add
  by_cases h1 : m = 0 <;> by_cases h2 : n = 0 <;> simp [h1, h2, Nat.add_assoc]

theorem rows_of {α : Type} {R : α → List Value → Prop} {F : α → Prop} {a : Addr} {sz : Nat} : ∀ (len : Nat), (∀ i, i < len → ∃ x css, w.cells? 0 (a.add (i * sz)) sz = some css ∧ R x css ∧ F x) →
    ∃ xs css, xs.length = len ∧ css.length = len * sz ∧ listOf R xs css ∧ (∀ j v, css[j]? = some v → w.cell? (a.add j) = some v) ∧ ∀ x ∈ xs, F x
  | 0, _ => ⟨[], [], rfl, by simp, rfl, fun j v h => by simp at h, fun x h => by cases h⟩
  | len + 1, h => by
    obtain ⟨xs, css, h1, h2, h3, h4, h5⟩ := rows_of len fun i hi => h i (by omega)
    obtain ⟨x, c, k1, k2, k3⟩ := h len (by omega)
    obtain ⟨_, m1, m2⟩ := World.cells?_some k1
    refine ⟨xs ++ [x], css ++ c, by simp [h1], by rw [List.length_append, h2, m1, Nat.add_mul, Nat.one_mul], listOf_append h3 ⟨c, [], by simp, k2, rfl⟩, fun j v hj => ?_, fun y hy => ?_⟩
    · by_cases hlt : j < css.length
      · rw [List.getElem?_append_left hlt] at hj
        exact h4 j v hj
      · rw [List.getElem?_append_right (by omega)] at hj
        have hlt2 : j - css.length < c.length := (List.getElem?_eq_some_iff.1 hj).1
        have := m2 (j - css.length) (by omega)
        rw [addr_add_add, h2, show len * sz + (j - len * sz) = j by omega] at this
        rw [this, ← h2]
        exact hj
    · rcases List.mem_append.1 hy with hy | hy
      · exact h5 y hy
      · simp at hy; subst hy; exact k3

theorem trod_el (hty : ∀ t i, (t, i) ∈ l → TyOk P t i) : ∀ (n fuel : Nat) (t : TypeId) (e : El) (cs : List Value) (r : DataW H × List MemPlace), elTy l n t e = true → DataW.trod enc P w 0 (fun _ => true) true fuel t cs = some r →
    ∃ x : e.ty, cellsOf (fun b => b < w.heap.size) w e x cs ∧ e.fits x := by
  intro n
  induction n with
  | zero => intro fuel t e cs r he; simp [elTy] at he
  | succ n ih =>
    intro fuel t e cs r he h
    have hsz : P.cellsOf t = e.sz := elTy_size hty he
    unfold elTy at he
    split at he
    · cases he
    · next y hy =>
      have hT := hty t y (lookTy_out hy)
      have und := hT.und
      rw [Bool.and_eq_true] at he
      obtain ⟨hsz0, he⟩ := he
      clear hsz0
      revert he
      generalize hyk : y.k = yk
      rw [hyk] at und
      intro he
      split at he
      · next k k' =>
        obtain rfl := eq_of_beq he
        obtain ⟨m, rfl, _, hw⟩ := DataW.trod_int und h
        exact ⟨m, rfl, wf_int hw⟩
      · next k =>
        obtain rfl := eq_of_beq he
        obtain ⟨m, rfl, _, hw⟩ := DataW.trod_int und h
        have hb := wf_int hw
        have e1 : IntKind.u8.min = 0 := by decide
        have e2 : IntKind.u8.max = 255 := by decide
        refine ⟨UInt8.ofNat m.toNat, ?_, trivial⟩
        show [Value.int .u8 m] = [.int .u8 ((UInt8.ofNat m.toNat).toNat : Int)]
        rw [UInt8.toNat_ofNat_of_lt' (by show m.toNat < 256; omega), Int.toNat_of_nonneg (by omega)]
      · obtain ⟨b, rfl, _⟩ := DataW.trod_bool und h
        exact ⟨b, rfl, trivial⟩
      · obtain ⟨s, rfl, _, hs⟩ := DataW.trod_string und h
        exact ⟨s.data.toList, rfl, by show s.data.toList.length ≤ maxLen; simpa using hs⟩
      · next et e' =>
        simp only [Bool.and_eq_true] at he
        obtain ⟨he0, he⟩ := he
        have he0 : 0 < e'.sz := by simpa [Nat.blt_eq] using he0
        have hsz' := elTy_size hty he
        rcases DataW.trod_slice und h with ⟨rfl, _⟩ | ⟨a, len, cap, elems, rest, m, _, rfl, _, _, hl, hm, hlen, hel, _, _⟩
        · exact ⟨[], ⟨none, 0, rfl, Nat.le_refl _, Nat.zero_le _, fun hp => absurd hp (by simp)⟩, by simp [El.fits]⟩
        · obtain ⟨xs, css, h1, h2, h3, h4, h5⟩ := rows_of (w := w) (a := a) (sz := e'.sz) (R := cellsOf (fun b => b < w.heap.size) w e') (F := e'.fits) len fun i hi => by
            have := hel i hi
            rw [List.getElem?_eq_getElem (by omega), Option.bind_eq_some_iff, hsz'] at this
            obtain ⟨c, hc, ht⟩ := this
            obtain ⟨x, k1, k2⟩ := ih m et e' c _ he ht
            exact ⟨x, c, hc, k1, k2⟩
          refine ⟨xs, ⟨some a, cap, by rw [h1], by omega, hm, fun hp => ?_⟩, by omega, h5⟩
          have hc0 : 0 < css.length := by rw [h2]; exact Nat.mul_pos (by omega) he0
          have hv := h4 0 css[0] (List.getElem?_eq_getElem hc0)
          have ha0 : a.add 0 = a := by simp [Addr.add]
          rw [ha0] at hv
          obtain ⟨b, o, sp⟩ := a
          have hsp : sp = none := World.cell?_spot hv
          subst hsp
          refine ⟨b, o, css, rfl, ?_, ?_, fun j v hj => ?_, h3⟩
          · exact World.block_lt_of_cell? w _ hv
          · exact World.block_lt_of_cell? w _ hv
          · have := h4 j v hj
            rwa [show (⟨b, o, none⟩ : Addr).add j = ⟨b, o + j, none⟩ by unfold Addr.add; split <;> simp_all] at this
      · next fs =>
        obtain ⟨fields, hu, hfs, _⟩ := und
        obtain ⟨xs, m, _, _, hcl, hxl, hf⟩ := DataW.trod_struct hu h
        have walk : ∀ (fs' : List (TypeId × Nat)) (i d' : Nat) (e' : El), (fields.toList.drop i).map (fun f => (f.type, f.offset)) = fs' → elTys (elTy l n) fs' d' e' = true → d' + e'.sz = cs.length →
            ∃ x : e'.ty, cellsOf (fun b => b < w.heap.size) w e' x (cs.drop d') ∧ e'.fits x := by
          intro fs'
          induction fs' with
          | nil =>
            intro i d' e' _ h2 h3
            cases e' <;> simp [elTys] at h2
            exact ⟨(), by simp only [El.sz] at h3; simp [cellsOf]; omega, trivial⟩
          | cons p fs' ih2 =>
            intro i d' e' h1 h2 h3
            obtain ⟨t', d⟩ := p
            cases e' <;> simp [elTys] at h2
            next e1 es =>
              obtain ⟨⟨hd, ht⟩, hr⟩ := h2
              subst hd
              cases hfi : fields.toList.drop i with
              | nil => rw [hfi] at h1; simp at h1
              | cons f rest =>
                rw [hfi, List.map_cons] at h1
                injection h1 with h11 h12
                injection h11 with h13 h14
                have hget : fields[i]? = some f := by
                  have : (fields.toList.drop i)[0]? = some f := by rw [hfi]; rfl
                  rw [List.getElem?_drop] at this
                  simpa using this
                have hlt : i < fields.size := (Array.getElem?_eq_some_iff.1 hget).1
                have := hf i f hget
                rw [List.getElem?_eq_getElem (by omega), h13, h14, elTy_size hty ht] at this
                obtain ⟨x1, k1, k2⟩ := ih m t' e1 _ _ ht this
                simp only [El.sz] at h3
                obtain ⟨x2, k3, k4⟩ := ih2 (i + 1) (d + e1.sz) es (by rw [← h12, ← List.drop_drop, hfi]; rfl) hr (by omega)
                exact ⟨(x1, x2), ⟨_, _, by rw [← List.drop_drop]; exact (List.take_append_drop e1.sz (cs.drop d)).symm, k1, k3⟩, k2, k4⟩
        have := walk fs 0 0 e (by simpa using hfs) he (by rw [hcl, hsz]; omega)
        simpa using this
      · next m et m' e' =>
        simp only [Bool.and_eq_true] at he
        obtain ⟨hm, he⟩ := he
        obtain rfl := nat_beq_eq hm
        have hsz' := elTy_size hty he
        obtain ⟨xs, q, _, _, hcl, hxl, hf⟩ := DataW.trod_array und h
        have walk : ∀ k, k ≤ m → ∃ ys : List e'.ty, ys.length = k ∧ listOf (cellsOf (fun b => b < w.heap.size) w e') ys (cs.take (k * e'.sz)) ∧ ∀ y ∈ ys, e'.fits y := by
          intro k
          induction k with
          | zero => intro _; exact ⟨[], rfl, by simp [listOf], fun y hy => by cases hy⟩
          | succ k ihk =>
            intro hk
            obtain ⟨ys, g1, g2, g3⟩ := ihk (by omega)
            have := hf k (by omega)
            rw [List.getElem?_eq_getElem (by omega), hsz'] at this
            obtain ⟨x, k1, k2⟩ := ih q et e' _ _ he this
            refine ⟨ys ++ [x], by simp [g1], ?_, fun y hy => ?_⟩
            · rw [Nat.add_mul, Nat.one_mul, List.take_add]
              exact listOf_append g2 ⟨_, [], by simp, k1, rfl⟩
            · rcases List.mem_append.1 hy with hy | hy
              · exact g3 y hy
              · simp at hy; subst hy; exact k2
        obtain ⟨ys, g1, g2, g3⟩ := walk m (Nat.le_refl _)
        have hlen : cs.length = m * e'.sz := by rw [hcl, hsz]; rfl
        rw [← hlen, List.take_length] at g2
        exact ⟨ys, ⟨g1, g2⟩, g1, g3⟩
      · cases he

/-- An argument, told by its content. -/
theorem arg_el {n : Nat} {t : TypeId} {e : El} {v : Value} {d : DataW H} {p : List MemPlace} (h1 : tysB P l = true) (he : elTy l n t e = true) (hv : Value.okWide P w .any 0 t v) (h : DataW.Trod enc P w 0 (fun _ => true) true t v d p) :
    ∃ x : e.ty, tVal (cxOf w) (e.enc x) v ∧ e.fits x := by
  have hty := tysB_out h1
  obtain ⟨fuel, hf⟩ := h
  obtain ⟨x, hc, hx⟩ := trod_el hty n fuel t e _ _ he hf
  refine ⟨x, ?_, hx⟩
  have hcells : tCells (cxOf w) (e.enc x) v.cells.toList := (tCells_enc (G := cxOf w) e x _).2 hc
  have one : ∀ y : V, (∃ u : Value, v = u ∧ u.cells = #[u]) → e.enc x = .v y → tVal (cxOf w) (e.enc x) v := by
    rintro y ⟨u, rfl, hu⟩ hy
    rw [hy] at hcells ⊢
    obtain ⟨c, e1, _, e3⟩ := hcells
    rw [hu] at e1
    simp at e1
    subst e1
    exact e3
  cases n with
  | zero => simp [elTy] at he
  | succ n =>
    unfold elTy at he
    split at he
    · cases he
    · next y hy =>
      have und := (hty t y (lookTy_out hy)).und
      rw [Bool.and_eq_true] at he
      obtain ⟨hsz0, he⟩ := he
      clear hsz0
      revert he
      generalize hyk : y.k = yk
      rw [hyk] at und
      intro he
      split at he
      · next k k' =>
        obtain ⟨m, rfl⟩ := okWide_int und hv
        exact one _ ⟨_, rfl, rfl⟩ rfl
      · next k =>
        obtain ⟨m, rfl⟩ := okWide_int und hv
        exact one _ ⟨_, rfl, rfl⟩ rfl
      · obtain ⟨m, rfl⟩ := okWide_bool und hv
        exact one _ ⟨_, rfl, rfl⟩ rfl
      · obtain ⟨m, rfl⟩ := okWide_string und hv
        exact one _ ⟨_, rfl, rfl⟩ rfl
      · next et e' =>
        obtain ⟨a, len, cap, rfl⟩ := okWide_slice und hv
        exact one _ ⟨_, rfl, rfl⟩ rfl
      · next fs =>
        obtain ⟨fields, hu, hfs, _⟩ := und
        obtain ⟨cs, rfl, _⟩ := okWide_struct hu hv
        cases e <;> first | exact ⟨cs.toList, by simp, hcells⟩ | (cases fs <;> simp [elTys] at he)
      · next m et m' e' =>
        have : ∃ cs, v = .agg cs := by
          unfold Value.okWide at hv
          rw [und] at hv
          obtain ⟨cs, h, _⟩ := hv
          exact ⟨cs, h⟩
        obtain ⟨cs, rfl⟩ := this
        exact ⟨cs.toList, by simp, hcells⟩
      · cases he
end
end Go.J

set_option linter.unusedSimpArgs false
set_option linter.unusedVariables false
set_option linter.unusedSectionVars false
namespace Go.J
open Go.Proofs

theorem h64 {n : Int} (h : IntKind.i64.min ≤ n ∧ n ≤ IntKind.i64.max) : -9223372036854775808 ≤ n ∧ n ≤ 9223372036854775807 := h
theorem rfit_of {r : recE.ty} (h : El.fits recE r) : RFit r := by
  obtain ⟨k, n, t, ⟨k, seq, tr, inst, id, side, ord, pr, q, sh, st, wh, a, b, tag, _⟩, _⟩ := r
  obtain ⟨g0, g1, g2, ⟨h0, h1, h2, h3, h4, h5, h6, h7, h8, h9, h10, h11, h12, h13, ⟨ht, _⟩, _⟩, _⟩ := h
  exact RFit.in ⟨h64 g0, h64 g1, h64 g2, ht, h64 h0, h64 h1, h64 h2, h64 h3, h64 h4, h64 h5, h64 h6, h64 h7, h64 h8, h64 h9, h64 h10, h64 h11, h64 h12, h64 h13⟩
theorem dfit_of {d : doE.ty} (h : El.fits doE d) : DFit d := by
  obtain ⟨k, t, w, a, b, ⟨q0, q1, q2, q3, q4, q5, q6, _⟩, _⟩ := d
  obtain ⟨g0, g1, g2, g3, g4, ⟨h0, h1, h2, h3, h4, h5, h6, _⟩, _⟩ := h
  exact DFit.in ⟨h64 g0, h64 g1, h64 g2, h64 g3, h64 g4, h64 h0, h64 h1, h64 h2, h64 h3, h64 h4, h64 h5, h64 h6⟩
theorem auditApart_pre {a b : recE.ty} {d : doE.ty} {raw : Bool} {n : Int} {c : UInt8} (h1 : El.fits recE a) (h2 : El.fits recE b) (h3 : El.fits doE d) (_ : El.fits .bool raw) (h4 : IntKind.i64.min ≤ n ∧ n ≤ IntKind.i64.max) (_ : El.fits .u8 c) : auditApart_s.pre (a, b, d, raw, n, c, ()) := ⟨rfit_of h1, rfit_of h2, dfit_of h3, h64 h4⟩
theorem auditBack_pre {l : List doE.ty} {n : Int} (h1 : El.fits (.rd doE) l) (h2 : IntKind.i64.min ≤ n ∧ n ≤ IntKind.i64.max) : auditBack_s.pre (l, n, ()) := ⟨fun d hd => dfit_of (h1.2 d hd), h64 h2⟩
theorem auditLinks_pre {l : List doE.ty} {r : recE.ty} (h1 : El.fits (.rd doE) l) (h2 : El.fits recE r) : auditLinks_s.pre (l, r, ()) := ⟨fun d hd => dfit_of (h1.2 d hd), rfit_of h2⟩
end Go.J

set_option linter.unusedSimpArgs false
set_option linter.unusedVariables false
set_option linter.unusedSectionVars false
namespace Go.J
open Go.Proofs

theorem auditParses_pre {l : List doE.ty} {b : List UInt8} {n : Int} {t : UInt8} {m : Int} (h1 : El.fits (.rd doE) l) (_ : El.fits (.rd .u8) b) (h2 : IntKind.i64.min ≤ n ∧ n ≤ IntKind.i64.max) (_ : El.fits .u8 t) (h3 : IntKind.i64.min ≤ m ∧ m ≤ IntKind.i64.max) : auditParses_s.pre (l, b, n, t, m, ()) := ⟨fun d hd => dfit_of (h1.2 d hd), h64 h2, h64 h3⟩
theorem auditTells_pre {l : List doE.ty} {b : List UInt8} {n : Int} {r : recE.ty} (h1 : El.fits (.rd doE) l) (_ : IntKind.i64.min ≤ n ∧ n ≤ IntKind.i64.max) (h2 : El.fits recE r) (_ : El.fits (.rd .u8) b) : auditTells_s.pre (l, n, r, b, ()) := ⟨fun d hd => dfit_of (h1.2 d hd), rfit_of h2⟩
end Go.J

