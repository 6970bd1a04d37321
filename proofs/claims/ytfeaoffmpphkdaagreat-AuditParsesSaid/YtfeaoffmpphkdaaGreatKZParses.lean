/-
  JOBBER: any bytes, logs with a byte turned, cut, among them: the records, and where the first bad one begins. No condition.
-/
import Derived.Test.YtfeaoffmpphkdaaGreatK7
import Derived.Test.YtfeaoffmpphkdaaGreatRows
import Derived.WalkKit
import Derived.ProofKit
import Derived.OpenShut
import Derived.ShutString
import Derived.ChangeOld
import Derived.Below
import Derived.Carry
set_option linter.unusedVariables false
set_option linter.unusedSimpArgs false
namespace Go.Proofs.YtfeaoffmpphkdaaGreat.auditParsesDone
open Go.ChangeShapes Go.WideShapes Go.ChangeAt Go.RowKit
open Go.ChangeMaps (open_string shut_string)

theorem own : ownKnob Tryz.prog.godebug = none := by kernel_rfl
theorem laidOut : laidOutB Tryz.prog = true := by kernel_rfl

set_option maxHeartbeats 1000000 in
set_option maxRecDepth 100000 in
theorem walk (v0 : Value) (x0 : ((.rd J.doE) : J.El).ty) (v1 : Value) (x1 : ((.rd .u8) : J.El).ty) (a2 : Int) (v3 : Value) (x3 : (.u8 : J.El).ty) (a4 : Int) (w : World) (c0 : J.tVal (J.cxOf w) (((.rd J.doE) : J.El).enc x0) v0) (w0 : J.El.fits ((.rd J.doE)) x0) (c1 : J.tVal (J.cxOf w) (((.rd .u8) : J.El).enc x1) v1) (w1 : J.El.fits ((.rd .u8)) x1) (w2 : (Lit.int .i64 a2).wf = true) (c3 : J.tVal (J.cxOf w) ((.u8 : J.El).enc x3) v3) (w3 : J.El.fits (.u8) x3) (w4 : (Lit.int .i64 a4).wf = true) : Calls Tryz.prog 3 #[v0, v1, .int .i64 a2, v3, .int .i64 a4] w fun e w' => e = .returned (.bool true) ∧ Below w.heap.size w w' := by
  have b2 := J.wf_int w2
  have b4 := J.wf_int w4
  refine J.law_walk J.auditParses_m.2 w [((.rd J.doE) : J.El).enc x0, ((.rd .u8) : J.El).enc x1, .v (.int .i64 a2), (.u8 : J.El).enc x3, .v (.int .i64 a4)] [v0, v1, .int .i64 a2, v3, .int .i64 a4] 0 (J.frOk_cons.2 ⟨c0, J.frOk_cons.2 ⟨c1, J.frOk_cons.2 ⟨rfl, J.frOk_cons.2 ⟨c3, J.frOk_cons.2 ⟨rfl, ⟨rfl, fun i t h => by simp at h⟩⟩⟩⟩⟩⟩) fun k hk => ?_
  refine ⟨⟨Int.natCast_nonneg _, J.u8lt _⟩, ⟨?_⟩, hk _ _⟩
  exact J.auditParses_pre w0 w1 b2 w3 b4

set_option maxRecDepth 100000 in
theorem lifted (os : Os) (started : os.Started) (H : Type) (enc : TypeId × Value → H) :
    ReturnsInHanded {} Tryz.checked os 3 .any (Rows.auditParsesSpec.pre6 enc Tryz.prog Tryz.f3 Rows.auditParsesRow.domain false) (Rows.auditParsesSpec.post enc Tryz.prog Tryz.f3 false true false false) := by
  refine returnsInHanded_of_change (C := Tryz.checked) own started (by kernel_rfl) Tryz.func3
    (ChangeSpec.witness6 (enc := enc) (C := Tryz.checked) false ⟨#[], #[.slice none 0 0, .slice none 0 0, .int .i64 0, .int .u8 0, .int .i64 0], []⟩ 8 (by kernel_rfl) (by kernel_rfl) (by kernel_rfl) (by kernel_rfl)) ?_
  intro W base args ds gs before hval0 hW hcnd _
  have hval : ∀ (j : Nat) t v, Tryz.f3.params[j]? = some t → args[j]? = some v → Value.okWide Tryz.prog W .any base t v := hval0
  have hW' := hW
  obtain ⟨p, q, hA0, hV, rfl, hfz, hnd⟩ := hW
  have hA : DataW.TrodAll enc Tryz.prog W 0 (fun _ => true) true Tryz.f3.params.toList args.toList ds p := hA0
  rw [Tryz.params3] at hA
  obtain ⟨v0, vs0, d0, ds0, p0, q0, hargs, rfl, rfl, h0, r0⟩ := trodAll_cons hA
  obtain ⟨v1, vs1, d1, ds1, p1, q1, rfl, rfl, rfl, h1, r1⟩ := trodAll_cons r0
  obtain ⟨v2, vs2, d2, ds2, p2, q2, rfl, rfl, rfl, h2, r2⟩ := trodAll_cons r1
  obtain ⟨v3, vs3, d3, ds3, p3, q3, rfl, rfl, rfl, h3, r3⟩ := trodAll_cons r2
  obtain ⟨v4, vs4, d4, ds4, p4, q4, rfl, rfl, rfl, h4, r4⟩ := trodAll_cons r3
  obtain ⟨rfl, rfl, rfl⟩ := trodAll_nil r4
  obtain rfl : args = #[v0, v1, v2, v3, v4] := by cases args; simp_all
  obtain ⟨rfl, rfl⟩ := trodVars_none hV
  have k0 := h0
  have lt0 : ∀ x ∈ p0, x.block < W.heap.size := by obtain ⟨m, hm⟩ := k0; exact DataW.trod_lt m _ _ _ hm
  obtain ⟨x0, c0, w0⟩ := J.arg_el (e := (.rd J.doE)) J.tysOk (n := 9) (by kernel_rfl) (hval 0 22 v0 rfl rfl) h0
  have k1 := h1
  have lt1 : ∀ x ∈ p1, x.block < W.heap.size := by obtain ⟨m, hm⟩ := k1; exact DataW.trod_lt m _ _ _ hm
  obtain ⟨x1, c1, w1⟩ := J.arg_el (e := (.rd .u8)) J.tysOk (n := 9) (by kernel_rfl) (hval 1 23 v1 rfl rfl) h1
  obtain ⟨a2, rfl, rfl, rfl, w2⟩ := open_int Tryz.underlying3 (hval 2 3 v2 rfl rfl) h2
  have k3 := h3
  have lt3 : ∀ x ∈ p3, x.block < W.heap.size := by obtain ⟨m, hm⟩ := k3; exact DataW.trod_lt m _ _ _ hm
  obtain ⟨x3, c3, w3⟩ := J.arg_el (e := .u8) J.tysOk (n := 9) (by kernel_rfl) (hval 3 5 v3 rfl rfl) h3
  obtain ⟨a4, rfl, rfl, rfl, w4⟩ := open_int Tryz.underlying3 (hval 4 3 v4 rfl rfl) h4
  clear hA0 hval0
  refine (walk v0 x0 v1 x1 a2 v3 x3 a4 W c0 w0 c1 w1 w2 c3 w3 w4).mono fun e W' ⟨he, bel⟩ => ?_
  subst he
  exact ⟨_, rfl, _, _, _, [], _, [], hW', trodAll_mk1 (shut_bool Tryz.underlying4 _), (trodAll_cons_mk (Below.trod laidOut (by kernel_rfl) (of_decide_eq_true (by kernel_rfl)) k0 bel lt0) (trodAll_cons_mk (Below.trod laidOut (by kernel_rfl) (of_decide_eq_true (by kernel_rfl)) k1 bel lt1) (trodAll_cons_mk (shut_int Tryz.underlying3 w2) (trodAll_cons_mk (Below.trod laidOut (by kernel_rfl) (of_decide_eq_true (by kernel_rfl)) k3 bel lt3) (trodAll_cons_mk (shut_int Tryz.underlying3 w4) trodAll_mk0))))), rfl, bel.frame _, fun h => by cases h⟩

theorem over : Rows.auditParsesRow.holds Tryz.pinned (OpenSpec.ofChange Rows.auditParsesSpec) :=
  OpenClaim.holds_of_wide 3 Tryz.f3 rfl rfl rfl rfl rfl rfl rfl ⟨rfl, rfl, rfl, rfl, rfl⟩ rfl rfl rfl rfl rfl (by kernel_rfl) Tryz.func3 (by kernel_rfl)
    (of_decide_eq_true (by kernel_rfl)) (by unfold Func.isWrapper; first | (rw [if_pos (by decide +kernel)]; kernel_rfl) | (rw [if_neg (by decide +kernel)]; exact ⟨rfl, rfl⟩))
    (fun os started H enc _ => lifted os started H enc)

/-- THE STATEMENT -/
theorem proved : Rows.AuditParsesSaid := over
#print axioms proved
end Go.Proofs.YtfeaoffmpphkdaaGreat.auditParsesDone
