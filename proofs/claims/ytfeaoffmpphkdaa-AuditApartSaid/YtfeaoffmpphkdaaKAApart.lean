/-
  JOBBER: a right record comes back from its bytes; two have the same just if they are the same; cut short, or with more behind, they are none. No condition.
-/
import Derived.Test.YtfeaoffmpphkdaaK6
import Derived.Test.YtfeaoffmpphkdaaRows
import Derived.WalkKit
import Derived.ProofKit
import Derived.OpenShut
import Derived.ShutString
import Derived.ChangeOld
import Derived.Below
import Derived.Carry
set_option linter.unusedVariables false
set_option linter.unusedSimpArgs false
namespace Go.Proofs.Ytfeaoffmpphkdaa.auditApartDone
open Go.ChangeShapes Go.WideShapes Go.ChangeAt Go.RowKit
open Go.ChangeMaps (open_string shut_string)

theorem own : ownKnob Try.prog.godebug = none := by kernel_rfl
theorem laidOut : laidOutB Try.prog = true := by kernel_rfl

set_option maxHeartbeats 1000000 in
set_option maxRecDepth 100000 in
theorem walk (v0 : Value) (x0 : (J.recE : J.El).ty) (v1 : Value) (x1 : (J.recE : J.El).ty) (v2 : Value) (x2 : (J.doE : J.El).ty) (v3 : Value) (x3 : (.bool : J.El).ty) (a4 : Int) (v5 : Value) (x5 : (.u8 : J.El).ty) (w : World) (c0 : J.tVal (J.cxOf w) ((J.recE : J.El).enc x0) v0) (w0 : J.El.fits (J.recE) x0) (c1 : J.tVal (J.cxOf w) ((J.recE : J.El).enc x1) v1) (w1 : J.El.fits (J.recE) x1) (c2 : J.tVal (J.cxOf w) ((J.doE : J.El).enc x2) v2) (w2 : J.El.fits (J.doE) x2) (c3 : J.tVal (J.cxOf w) ((.bool : J.El).enc x3) v3) (w3 : J.El.fits (.bool) x3) (w4 : (Lit.int .i64 a4).wf = true) (c5 : J.tVal (J.cxOf w) ((.u8 : J.El).enc x5) v5) (w5 : J.El.fits (.u8) x5) : Calls Try.prog 4 #[v0, v1, v2, v3, .int .i64 a4, v5] w fun e w' => e = .returned (.bool true) ∧ Below w.heap.size w w' := by
  have b4 := J.wf_int w4
  refine J.law_walk J.auditApart_m.2 w [(J.recE : J.El).enc x0, (J.recE : J.El).enc x1, (J.doE : J.El).enc x2, (.bool : J.El).enc x3, .v (.int .i64 a4), (.u8 : J.El).enc x5] [v0, v1, v2, v3, .int .i64 a4, v5] 0 (J.frOk_cons.2 ⟨c0, J.frOk_cons.2 ⟨c1, J.frOk_cons.2 ⟨c2, J.frOk_cons.2 ⟨c3, J.frOk_cons.2 ⟨rfl, J.frOk_cons.2 ⟨c5, ⟨rfl, fun i t h => by simp at h⟩⟩⟩⟩⟩⟩⟩) fun k hk => ?_
  refine ⟨⟨Int.natCast_nonneg _, J.u8lt _⟩, ⟨?_⟩, hk _ _⟩
  exact J.auditApart_pre w0 w1 w2 w3 b4 w5

set_option maxRecDepth 100000 in
theorem lifted (os : Os) (started : os.Started) (H : Type) (enc : TypeId × Value → H) :
    ReturnsInHanded {} Try.checked os 4 .any (Rows.auditApartSpec.pre6 enc Try.prog Try.f4 Rows.auditApartRow.domain false) (Rows.auditApartSpec.post enc Try.prog Try.f4 false true false false) := by
  refine returnsInHanded_of_change (C := Try.checked) own started (by kernel_rfl) Try.func4
    (ChangeSpec.witness6 (enc := enc) (C := Try.checked) false ⟨#[], #[Value.agg (List.replicate 17 (Value.int .i64 0) ++ List.replicate 32 (Value.int .u8 0)).toArray, Value.agg (List.replicate 17 (Value.int .i64 0) ++ List.replicate 32 (Value.int .u8 0)).toArray, Value.agg (List.replicate 12 (Value.int .i64 0)).toArray, .bool false, .int .i64 0, .int .u8 0], []⟩ 8 (by kernel_rfl) (by kernel_rfl) (by kernel_rfl) (by kernel_rfl)) ?_
  intro W base args ds gs before hval0 hW hcnd _
  have hval : ∀ (j : Nat) t v, Try.f4.params[j]? = some t → args[j]? = some v → Value.okWide Try.prog W .any base t v := hval0
  have hW' := hW
  obtain ⟨p, q, hA0, hV, rfl, hfz, hnd⟩ := hW
  have hA : DataW.TrodAll enc Try.prog W 0 (fun _ => true) true Try.f4.params.toList args.toList ds p := hA0
  rw [Try.params4] at hA
  obtain ⟨v0, vs0, d0, ds0, p0, q0, hargs, rfl, rfl, h0, r0⟩ := trodAll_cons hA
  obtain ⟨v1, vs1, d1, ds1, p1, q1, rfl, rfl, rfl, h1, r1⟩ := trodAll_cons r0
  obtain ⟨v2, vs2, d2, ds2, p2, q2, rfl, rfl, rfl, h2, r2⟩ := trodAll_cons r1
  obtain ⟨v3, vs3, d3, ds3, p3, q3, rfl, rfl, rfl, h3, r3⟩ := trodAll_cons r2
  obtain ⟨v4, vs4, d4, ds4, p4, q4, rfl, rfl, rfl, h4, r4⟩ := trodAll_cons r3
  obtain ⟨v5, vs5, d5, ds5, p5, q5, rfl, rfl, rfl, h5, r5⟩ := trodAll_cons r4
  obtain ⟨rfl, rfl, rfl⟩ := trodAll_nil r5
  obtain rfl : args = #[v0, v1, v2, v3, v4, v5] := by cases args; simp_all
  obtain ⟨rfl, rfl⟩ := trodVars_none hV
  have k0 := h0
  have lt0 : ∀ x ∈ p0, x.block < W.heap.size := by obtain ⟨m, hm⟩ := k0; exact DataW.trod_lt m _ _ _ hm
  obtain ⟨x0, c0, w0⟩ := J.arg_el (e := J.recE) J.tysOk (n := 9) (by kernel_rfl) (hval 0 30 v0 rfl rfl) h0
  have k1 := h1
  have lt1 : ∀ x ∈ p1, x.block < W.heap.size := by obtain ⟨m, hm⟩ := k1; exact DataW.trod_lt m _ _ _ hm
  obtain ⟨x1, c1, w1⟩ := J.arg_el (e := J.recE) J.tysOk (n := 9) (by kernel_rfl) (hval 1 30 v1 rfl rfl) h1
  have k2 := h2
  have lt2 : ∀ x ∈ p2, x.block < W.heap.size := by obtain ⟨m, hm⟩ := k2; exact DataW.trod_lt m _ _ _ hm
  obtain ⟨x2, c2, w2⟩ := J.arg_el (e := J.doE) J.tysOk (n := 9) (by kernel_rfl) (hval 2 41 v2 rfl rfl) h2
  have k3 := h3
  have lt3 : ∀ x ∈ p3, x.block < W.heap.size := by obtain ⟨m, hm⟩ := k3; exact DataW.trod_lt m _ _ _ hm
  obtain ⟨x3, c3, w3⟩ := J.arg_el (e := .bool) J.tysOk (n := 9) (by kernel_rfl) (hval 3 4 v3 rfl rfl) h3
  obtain ⟨a4, rfl, rfl, rfl, w4⟩ := open_int Try.underlying3 (hval 4 3 v4 rfl rfl) h4
  have k5 := h5
  have lt5 : ∀ x ∈ p5, x.block < W.heap.size := by obtain ⟨m, hm⟩ := k5; exact DataW.trod_lt m _ _ _ hm
  obtain ⟨x5, c5, w5⟩ := J.arg_el (e := .u8) J.tysOk (n := 9) (by kernel_rfl) (hval 5 5 v5 rfl rfl) h5
  clear hA0 hval0
  refine (walk v0 x0 v1 x1 v2 x2 v3 x3 a4 v5 x5 W c0 w0 c1 w1 c2 w2 c3 w3 w4 c5 w5).mono fun e W' ⟨he, bel⟩ => ?_
  subst he
  exact ⟨_, rfl, _, _, _, [], _, [], hW', trodAll_mk1 (shut_bool Try.underlying4 _), (trodAll_cons_mk (Below.trod laidOut (by kernel_rfl) (of_decide_eq_true (by kernel_rfl)) k0 bel lt0) (trodAll_cons_mk (Below.trod laidOut (by kernel_rfl) (of_decide_eq_true (by kernel_rfl)) k1 bel lt1) (trodAll_cons_mk (Below.trod laidOut (by kernel_rfl) (of_decide_eq_true (by kernel_rfl)) k2 bel lt2) (trodAll_cons_mk (Below.trod laidOut (by kernel_rfl) (of_decide_eq_true (by kernel_rfl)) k3 bel lt3) (trodAll_cons_mk (shut_int Try.underlying3 w4) (trodAll_cons_mk (Below.trod laidOut (by kernel_rfl) (of_decide_eq_true (by kernel_rfl)) k5 bel lt5) trodAll_mk0)))))), rfl, bel.frame _, fun h => by cases h⟩

theorem over : Rows.auditApartRow.holds Try.pinned (OpenSpec.ofChange Rows.auditApartSpec) :=
  OpenClaim.holds_of_wide 4 Try.f4 rfl rfl rfl rfl rfl rfl rfl ⟨rfl, rfl, rfl, rfl, rfl⟩ rfl rfl rfl rfl rfl (by kernel_rfl) Try.func4 (by kernel_rfl)
    (of_decide_eq_true (by kernel_rfl)) (by unfold Func.isWrapper; first | (rw [if_pos (by decide +kernel)]; kernel_rfl) | (rw [if_neg (by decide +kernel)]; exact ⟨rfl, rfl⟩))
    (fun os started H enc _ => lifted os started H enc)

/-- THE STATEMENT -/
theorem proved : Rows.AuditApartSaid := over
#print axioms proved
end Go.Proofs.Ytfeaoffmpphkdaa.auditApartDone
