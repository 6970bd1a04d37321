/-
  JOBBER: a right command comes back; two have the same bytes just if they are the same; cut short, or with more behind, they are none. No condition.
-/
import Derived.Test.YtpanhnkcgmcghaaK5
import Derived.Test.YtpanhnkcgmcghaaRows
import Derived.WalkKit
import Derived.ProofKit
import Derived.OpenShut
import Derived.ShutString
import Derived.ChangeOld
import Derived.Below
import Derived.Carry
set_option linter.unusedVariables false
set_option linter.unusedSimpArgs false
namespace Go.Proofs.Ytpanhnkcgmcghaa.msgBackDone
open Go.ChangeShapes Go.WideShapes Go.ChangeAt Go.RowKit
open Go.ChangeMaps (open_string shut_string)

theorem own : ownKnob Try.prog.godebug = none := by kernel_rfl
theorem laidOut : laidOutB Try.prog = true := by kernel_rfl

set_option maxHeartbeats 1000000 in
set_option maxRecDepth 100000 in
theorem walk (v0 : Value) (x0 : (J.cmdE : J.El).ty) (v1 : Value) (x1 : (J.cmdE : J.El).ty) (a2 : Int) (v3 : Value) (x3 : (.u8 : J.El).ty) (w : World) (c0 : J.tVal (J.cxOf w) ((J.cmdE : J.El).enc x0) v0) (w0 : J.El.fits (J.cmdE) x0) (c1 : J.tVal (J.cxOf w) ((J.cmdE : J.El).enc x1) v1) (w1 : J.El.fits (J.cmdE) x1) (w2 : (Lit.int .i64 a2).wf = true) (c3 : J.tVal (J.cxOf w) ((.u8 : J.El).enc x3) v3) (w3 : J.El.fits (.u8) x3) : Calls Try.prog 16 #[v0, v1, .int .i64 a2, v3] w fun e w' => e = .returned (.bool true) ∧ Below w.heap.size w w' := by
  have b2 := J.wf_int w2
  refine J.law_walk J.msgBack_m.2 w [(J.cmdE : J.El).enc x0, (J.cmdE : J.El).enc x1, .v (.int .i64 a2), (.u8 : J.El).enc x3] [v0, v1, .int .i64 a2, v3] 0 (J.frOk_cons.2 ⟨c0, J.frOk_cons.2 ⟨c1, J.frOk_cons.2 ⟨rfl, J.frOk_cons.2 ⟨c3, ⟨rfl, fun i t h => by simp at h⟩⟩⟩⟩⟩) fun k hk => ?_
  refine ⟨⟨Int.natCast_nonneg _, J.u8lt _⟩, ⟨?_⟩, hk _ _⟩
  exact J.msgBack_pre w0 w1 b2 (b := _) trivial

set_option maxRecDepth 100000 in
theorem lifted (os : Os) (started : os.Started) (H : Type) (enc : TypeId × Value → H) :
    ReturnsInHanded {} Try.checked os 16 .any (Rows.msgBackSpec.pre6 enc Try.prog Try.f16 Rows.msgBackRow.domain false) (Rows.msgBackSpec.post enc Try.prog Try.f16 false true false false) := by
  refine returnsInHanded_of_change (C := Try.checked) own started (by kernel_rfl) Try.func16
    (ChangeSpec.witness6 (enc := enc) (C := Try.checked) false ⟨#[], #[Value.agg (List.replicate 14 (Value.int .i64 0) ++ List.replicate 32 (Value.int .u8 0)).toArray, Value.agg (List.replicate 14 (Value.int .i64 0) ++ List.replicate 32 (Value.int .u8 0)).toArray, .int .i64 0, Value.int .u8 0], []⟩ 8 (by kernel_rfl) (by kernel_rfl) (by kernel_rfl) (by kernel_rfl)) ?_
  intro W base args ds gs before hval0 hW hcnd _
  have hval : ∀ (j : Nat) t v, Try.f16.params[j]? = some t → args[j]? = some v → Value.okWide Try.prog W .any base t v := hval0
  have hW' := hW
  obtain ⟨p, q, hA0, hV, rfl, hfz, hnd⟩ := hW
  have hA : DataW.TrodAll enc Try.prog W 0 (fun _ => true) true Try.f16.params.toList args.toList ds p := hA0
  rw [Try.params16] at hA
  obtain ⟨v0, vs0, d0, ds0, p0, q0, hargs, rfl, rfl, h0, r0⟩ := trodAll_cons hA
  obtain ⟨v1, vs1, d1, ds1, p1, q1, rfl, rfl, rfl, h1, r1⟩ := trodAll_cons r0
  obtain ⟨v2, vs2, d2, ds2, p2, q2, rfl, rfl, rfl, h2, r2⟩ := trodAll_cons r1
  obtain ⟨v3, vs3, d3, ds3, p3, q3, rfl, rfl, rfl, h3, r3⟩ := trodAll_cons r2
  obtain ⟨rfl, rfl, rfl⟩ := trodAll_nil r3
  obtain rfl : args = #[v0, v1, v2, v3] := by cases args; simp_all
  obtain ⟨rfl, rfl⟩ := trodVars_none hV
  have k0 := h0
  have lt0 : ∀ x ∈ p0, x.block < W.heap.size := by obtain ⟨m, hm⟩ := k0; exact DataW.trod_lt m _ _ _ hm
  obtain ⟨x0, c0, w0⟩ := J.arg_el (e := J.cmdE) J.tysOk (n := 9) (by kernel_rfl) (hval 0 57 v0 rfl rfl) h0
  have k1 := h1
  have lt1 : ∀ x ∈ p1, x.block < W.heap.size := by obtain ⟨m, hm⟩ := k1; exact DataW.trod_lt m _ _ _ hm
  obtain ⟨x1, c1, w1⟩ := J.arg_el (e := J.cmdE) J.tysOk (n := 9) (by kernel_rfl) (hval 1 57 v1 rfl rfl) h1
  obtain ⟨a2, rfl, rfl, rfl, w2⟩ := open_int Try.underlying3 (hval 2 3 v2 rfl rfl) h2
  have k3 := h3
  have lt3 : ∀ x ∈ p3, x.block < W.heap.size := by obtain ⟨m, hm⟩ := k3; exact DataW.trod_lt m _ _ _ hm
  obtain ⟨x3, c3, w3⟩ := J.arg_el (e := .u8) J.tysOk (n := 9) (by kernel_rfl) (hval 3 5 v3 rfl rfl) h3
  clear hA0 hval0
  refine (walk v0 x0 v1 x1 a2 v3 x3 W c0 w0 c1 w1 w2 c3 w3).mono fun e W' ⟨he, bel⟩ => ?_
  subst he
  exact ⟨_, rfl, _, _, _, [], _, [], hW', trodAll_mk1 (shut_bool Try.underlying4 _), (trodAll_cons_mk (Below.trod laidOut (by kernel_rfl) (of_decide_eq_true (by kernel_rfl)) k0 bel lt0) (trodAll_cons_mk (Below.trod laidOut (by kernel_rfl) (of_decide_eq_true (by kernel_rfl)) k1 bel lt1) (trodAll_cons_mk (shut_int Try.underlying3 w2) (trodAll_cons_mk (Below.trod laidOut (by kernel_rfl) (of_decide_eq_true (by kernel_rfl)) k3 bel lt3) trodAll_mk0)))), rfl, bel.frame _, fun h => by cases h⟩

theorem over : Rows.msgBackRow.holds Try.pinned (OpenSpec.ofChange Rows.msgBackSpec) :=
  OpenClaim.holds_of_wide 16 Try.f16 rfl rfl rfl rfl rfl rfl rfl ⟨rfl, rfl, rfl, rfl, rfl⟩ rfl rfl rfl rfl rfl (by kernel_rfl) Try.func16 (by kernel_rfl)
    (of_decide_eq_true (by kernel_rfl)) (by unfold Func.isWrapper; first | (rw [if_pos (by decide +kernel)]; kernel_rfl) | (rw [if_neg (by decide +kernel)]; exact ⟨rfl, rfl⟩))
    (fun os started H enc _ => lifted os started H enc)

/-- THE STATEMENT -/
theorem proved : Rows.MsgBackSaid := over
#print axioms proved
end Go.Proofs.Ytpanhnkcgmcghaa.msgBackDone
