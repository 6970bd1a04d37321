/-
  JOBBER: the engine and the functions of this claim, part 4.
-/
import Derived.Test.YtfeaoffmpphkdaaK3
import Derived.Test.YtfeaoffmpphkdaaProg
import Derived.KernelRfl
namespace Go.J

def tys : List (Nat × TyI) := [
  (2, ⟨(.int .i64), 1, 8, (.int .i64), some (.int .i64), true⟩),
  (3, ⟨(.int .i64), 1, 8, (.int .i64), some (.int .i64), true⟩),
  (4, ⟨.bool, 1, 1, .bool, some .bool, true⟩),
  (5, ⟨(.int .u8), 1, 1, (.int .u8), some .u8, true⟩),
  (6, ⟨(.int .u8), 1, 1, (.int .u8), some .u8, true⟩),
  (7, ⟨(.st [(2, 0), (3, 1), (4, 2), (6, 3)]), 4, 24, (.cons (.int .i64) (.cons (.int .i64) (.cons .bool (.cons (.int .u8) .nil)))), some (.cons (.int .i64) (.cons (.int .i64) (.cons .bool (.cons .u8 .nil)))), true⟩),
  (8, ⟨(.st [(2, 0), (3, 1), (4, 2), (6, 3)]), 4, 24, (.cons (.int .i64) (.cons (.int .i64) (.cons .bool (.cons (.int .u8) .nil)))), some (.cons (.int .i64) (.cons (.int .i64) (.cons .bool (.cons .u8 .nil)))), true⟩),
  (9, ⟨.str, 1, 16, .str, some .str, true⟩),
  (10, ⟨.str, 1, 16, .str, some .str, true⟩),
  (11, ⟨.str, 1, 16, .str, some .str, true⟩),
  (12, ⟨(.int .u64), 1, 8, (.int .u64), some (.int .u64), true⟩),
  (15, ⟨(.ptr 150), 1, 8, .nilp, none, true⟩),
  (16, ⟨(.ptr 153), 1, 8, .nilp, none, true⟩),
  (17, ⟨(.ptr 161), 1, 8, .nilp, none, true⟩),
  (20, ⟨.other, 1, 16, .nilf, none, true⟩),
  (21, ⟨(.int .i32), 1, 4, (.int .i32), some (.int .i32), true⟩),
  (22, ⟨(.ptr 63), 1, 8, .nilp, none, true⟩),
  (25, ⟨(.ar 32 5), 32, 32, (.arr .u8 32), some (.ar 32 .u8), true⟩),
  (26, ⟨(.ar 32 5), 32, 32, (.arr .u8 32), some (.ar 32 .u8), true⟩),
  (27, ⟨(.st [(3, 0), (3, 1), (3, 2), (3, 3), (3, 4), (3, 5), (3, 6), (3, 7), (3, 8), (3, 9), (3, 10), (3, 11), (3, 12), (3, 13), (26, 14)]), 46, 144, (.cons (.int .i64) (.cons (.int .i64) (.cons (.int .i64) (.cons (.int .i64) (.cons (.int .i64) (.cons (.int .i64) (.cons (.int .i64) (.cons (.int .i64) (.cons (.int .i64) (.cons (.int .i64) (.cons (.int .i64) (.cons (.int .i64) (.cons (.int .i64) (.cons (.int .i64) (.cons (.arr .u8 32) .nil))))))))))))))), some (.cons (.int .i64) (.cons (.int .i64) (.cons (.int .i64) (.cons (.int .i64) (.cons (.int .i64) (.cons (.int .i64) (.cons (.int .i64) (.cons (.int .i64) (.cons (.int .i64) (.cons (.int .i64) (.cons (.int .i64) (.cons (.int .i64) (.cons (.int .i64) (.cons (.int .i64) (.cons (.ar 32 .u8) .nil))))))))))))))), true⟩),
  (28, ⟨(.st [(3, 0), (3, 1), (3, 2), (3, 3), (3, 4), (3, 5), (3, 6), (3, 7), (3, 8), (3, 9), (3, 10), (3, 11), (3, 12), (3, 13), (26, 14)]), 46, 144, (.cons (.int .i64) (.cons (.int .i64) (.cons (.int .i64) (.cons (.int .i64) (.cons (.int .i64) (.cons (.int .i64) (.cons (.int .i64) (.cons (.int .i64) (.cons (.int .i64) (.cons (.int .i64) (.cons (.int .i64) (.cons (.int .i64) (.cons (.int .i64) (.cons (.int .i64) (.cons (.arr .u8 32) .nil))))))))))))))), some (.cons (.int .i64) (.cons (.int .i64) (.cons (.int .i64) (.cons (.int .i64) (.cons (.int .i64) (.cons (.int .i64) (.cons (.int .i64) (.cons (.int .i64) (.cons (.int .i64) (.cons (.int .i64) (.cons (.int .i64) (.cons (.int .i64) (.cons (.int .i64) (.cons (.int .i64) (.cons (.ar 32 .u8) .nil))))))))))))))), true⟩),
  (29, ⟨(.st [(3, 0), (3, 1), (3, 2), (28, 3)]), 49, 168, (.cons (.int .i64) (.cons (.int .i64) (.cons (.int .i64) (.cons (.cons (.int .i64) (.cons (.int .i64) (.cons (.int .i64) (.cons (.int .i64) (.cons (.int .i64) (.cons (.int .i64) (.cons (.int .i64) (.cons (.int .i64) (.cons (.int .i64) (.cons (.int .i64) (.cons (.int .i64) (.cons (.int .i64) (.cons (.int .i64) (.cons (.int .i64) (.cons (.arr .u8 32) .nil))))))))))))))) .nil)))), some (.cons (.int .i64) (.cons (.int .i64) (.cons (.int .i64) (.cons (.cons (.int .i64) (.cons (.int .i64) (.cons (.int .i64) (.cons (.int .i64) (.cons (.int .i64) (.cons (.int .i64) (.cons (.int .i64) (.cons (.int .i64) (.cons (.int .i64) (.cons (.int .i64) (.cons (.int .i64) (.cons (.int .i64) (.cons (.int .i64) (.cons (.int .i64) (.cons (.ar 32 .u8) .nil))))))))))))))) .nil)))), true⟩),
  (30, ⟨(.st [(3, 0), (3, 1), (3, 2), (28, 3)]), 49, 168, (.cons (.int .i64) (.cons (.int .i64) (.cons (.int .i64) (.cons (.cons (.int .i64) (.cons (.int .i64) (.cons (.int .i64) (.cons (.int .i64) (.cons (.int .i64) (.cons (.int .i64) (.cons (.int .i64) (.cons (.int .i64) (.cons (.int .i64) (.cons (.int .i64) (.cons (.int .i64) (.cons (.int .i64) (.cons (.int .i64) (.cons (.int .i64) (.cons (.arr .u8 32) .nil))))))))))))))) .nil)))), some (.cons (.int .i64) (.cons (.int .i64) (.cons (.int .i64) (.cons (.cons (.int .i64) (.cons (.int .i64) (.cons (.int .i64) (.cons (.int .i64) (.cons (.int .i64) (.cons (.int .i64) (.cons (.int .i64) (.cons (.int .i64) (.cons (.int .i64) (.cons (.int .i64) (.cons (.int .i64) (.cons (.int .i64) (.cons (.int .i64) (.cons (.int .i64) (.cons (.ar 32 .u8) .nil))))))))))))))) .nil)))), true⟩),
  (31, ⟨(.sl 5), 1, 24, .nils, some (.rd .u8), true⟩),
  (34, ⟨(.sl 30), 1, 24, .nils, some (.rd (.cons (.int .i64) (.cons (.int .i64) (.cons (.int .i64) (.cons (.cons (.int .i64) (.cons (.int .i64) (.cons (.int .i64) (.cons (.int .i64) (.cons (.int .i64) (.cons (.int .i64) (.cons (.int .i64) (.cons (.int .i64) (.cons (.int .i64) (.cons (.int .i64) (.cons (.int .i64) (.cons (.int .i64) (.cons (.int .i64) (.cons (.int .i64) (.cons (.ar 32 .u8) .nil))))))))))))))) .nil))))), true⟩),
  (38, ⟨(.st [(3, 0), (3, 1), (3, 2), (3, 3), (3, 4), (3, 5), (3, 6)]), 7, 56, (.cons (.int .i64) (.cons (.int .i64) (.cons (.int .i64) (.cons (.int .i64) (.cons (.int .i64) (.cons (.int .i64) (.cons (.int .i64) .nil))))))), some (.cons (.int .i64) (.cons (.int .i64) (.cons (.int .i64) (.cons (.int .i64) (.cons (.int .i64) (.cons (.int .i64) (.cons (.int .i64) .nil))))))), true⟩),
  (39, ⟨(.st [(3, 0), (3, 1), (3, 2), (3, 3), (3, 4), (3, 5), (3, 6)]), 7, 56, (.cons (.int .i64) (.cons (.int .i64) (.cons (.int .i64) (.cons (.int .i64) (.cons (.int .i64) (.cons (.int .i64) (.cons (.int .i64) .nil))))))), some (.cons (.int .i64) (.cons (.int .i64) (.cons (.int .i64) (.cons (.int .i64) (.cons (.int .i64) (.cons (.int .i64) (.cons (.int .i64) .nil))))))), true⟩),
  (40, ⟨(.st [(3, 0), (3, 1), (3, 2), (3, 3), (3, 4), (39, 5)]), 12, 96, (.cons (.int .i64) (.cons (.int .i64) (.cons (.int .i64) (.cons (.int .i64) (.cons (.int .i64) (.cons (.cons (.int .i64) (.cons (.int .i64) (.cons (.int .i64) (.cons (.int .i64) (.cons (.int .i64) (.cons (.int .i64) (.cons (.int .i64) .nil))))))) .nil)))))), some (.cons (.int .i64) (.cons (.int .i64) (.cons (.int .i64) (.cons (.int .i64) (.cons (.int .i64) (.cons (.cons (.int .i64) (.cons (.int .i64) (.cons (.int .i64) (.cons (.int .i64) (.cons (.int .i64) (.cons (.int .i64) (.cons (.int .i64) .nil))))))) .nil)))))), true⟩),
  (41, ⟨(.st [(3, 0), (3, 1), (3, 2), (3, 3), (3, 4), (39, 5)]), 12, 96, (.cons (.int .i64) (.cons (.int .i64) (.cons (.int .i64) (.cons (.int .i64) (.cons (.int .i64) (.cons (.cons (.int .i64) (.cons (.int .i64) (.cons (.int .i64) (.cons (.int .i64) (.cons (.int .i64) (.cons (.int .i64) (.cons (.int .i64) .nil))))))) .nil)))))), some (.cons (.int .i64) (.cons (.int .i64) (.cons (.int .i64) (.cons (.int .i64) (.cons (.int .i64) (.cons (.cons (.int .i64) (.cons (.int .i64) (.cons (.int .i64) (.cons (.int .i64) (.cons (.int .i64) (.cons (.int .i64) (.cons (.int .i64) .nil))))))) .nil)))))), true⟩),
  (48, ⟨(.sl 41), 1, 24, .nils, some (.rd (.cons (.int .i64) (.cons (.int .i64) (.cons (.int .i64) (.cons (.int .i64) (.cons (.int .i64) (.cons (.cons (.int .i64) (.cons (.int .i64) (.cons (.int .i64) (.cons (.int .i64) (.cons (.int .i64) (.cons (.int .i64) (.cons (.int .i64) .nil))))))) .nil))))))), true⟩),
  (49, ⟨(.sl 3), 1, 24, .nils, some (.rd (.int .i64)), true⟩),
  (56, ⟨(.int .u32), 1, 4, (.int .u32), some (.int .u32), true⟩),
  (59, ⟨(.sl 31), 1, 24, .nils, some (.rd (.rd .u8)), true⟩),
  (62, ⟨(.st [(31, 0), (26, 1), (3, 33)]), 34, 64, (.cons .nils (.cons (.arr .u8 32) (.cons (.int .i64) .nil))), some (.cons (.rd .u8) (.cons (.ar 32 .u8) (.cons (.int .i64) .nil))), true⟩),
  (63, ⟨(.st [(31, 0), (26, 1), (3, 33)]), 34, 64, (.cons .nils (.cons (.arr .u8 32) (.cons (.int .i64) .nil))), some (.cons (.rd .u8) (.cons (.ar 32 .u8) (.cons (.int .i64) .nil))), true⟩),
  (72, ⟨(.int .u64), 1, 8, (.int .u64), some (.int .u64), true⟩),
  (74, ⟨(.ptr 97), 1, 8, .nilp, none, true⟩),
  (81, ⟨(.sl 26), 1, 24, .nils, some (.rd (.ar 32 .u8)), true⟩),
  (85, ⟨(.st [(3, 0), (3, 1), (3, 2), (3, 3), (3, 4), (3, 5), (3, 6), (3, 7), (3, 8)]), 9, 72, (.cons (.int .i64) (.cons (.int .i64) (.cons (.int .i64) (.cons (.int .i64) (.cons (.int .i64) (.cons (.int .i64) (.cons (.int .i64) (.cons (.int .i64) (.cons (.int .i64) .nil))))))))), some (.cons (.int .i64) (.cons (.int .i64) (.cons (.int .i64) (.cons (.int .i64) (.cons (.int .i64) (.cons (.int .i64) (.cons (.int .i64) (.cons (.int .i64) (.cons (.int .i64) .nil))))))))), true⟩),
  (86, ⟨(.st [(3, 0), (3, 1), (3, 2), (3, 3), (3, 4), (3, 5), (3, 6), (3, 7), (3, 8)]), 9, 72, (.cons (.int .i64) (.cons (.int .i64) (.cons (.int .i64) (.cons (.int .i64) (.cons (.int .i64) (.cons (.int .i64) (.cons (.int .i64) (.cons (.int .i64) (.cons (.int .i64) .nil))))))))), some (.cons (.int .i64) (.cons (.int .i64) (.cons (.int .i64) (.cons (.int .i64) (.cons (.int .i64) (.cons (.int .i64) (.cons (.int .i64) (.cons (.int .i64) (.cons (.int .i64) .nil))))))))), true⟩),
  (88, ⟨(.sl 94), 1, 24, .nils, none, true⟩),
  (91, ⟨(.ptr 28), 1, 8, .nilp, none, true⟩),
  (92, ⟨(.ptr 3), 1, 8, .nilp, none, true⟩),
  (93, ⟨(.st [(92, 0), (3, 1), (3, 2), (3, 3)]), 4, 32, (.cons .nilp (.cons (.int .i64) (.cons (.int .i64) (.cons (.int .i64) .nil)))), none, true⟩),
  (94, ⟨(.st [(92, 0), (3, 1), (3, 2), (3, 3)]), 4, 32, (.cons .nilp (.cons (.int .i64) (.cons (.int .i64) (.cons (.int .i64) .nil)))), none, true⟩),
  (96, ⟨(.st [(31, 0), (3, 1), (4, 2)]), 3, 40, (.cons .nils (.cons (.int .i64) (.cons .bool .nil))), some (.cons (.rd .u8) (.cons (.int .i64) (.cons .bool .nil))), true⟩),
  (97, ⟨(.st [(31, 0), (3, 1), (4, 2)]), 3, 40, (.cons .nils (.cons (.int .i64) (.cons .bool .nil))), some (.cons (.rd .u8) (.cons (.int .i64) (.cons .bool .nil))), true⟩),
  (99, ⟨(.ptr 122), 1, 8, .nilp, none, true⟩),
  (102, ⟨(.int .u64), 1, 8, (.int .u64), some (.int .u64), true⟩),
  (106, ⟨(.ar 8 56), 8, 32, (.arr (.int .u32) 8), some (.ar 8 (.int .u32)), true⟩),
  (107, ⟨(.ar 8 56), 8, 32, (.arr (.int .u32) 8), some (.ar 8 (.int .u32)), true⟩),
  (109, ⟨(.st []), 0, 0, .nil, none, true⟩),
  (110, ⟨(.st []), 0, 0, .nil, none, true⟩),
  (111, ⟨(.st []), 0, 0, .nil, none, true⟩),
  (114, ⟨(.st [(21, 0), (56, 1)]), 2, 8, (.cons (.int .i32) (.cons (.int .u32) .nil)), some (.cons (.int .i32) (.cons (.int .u32) .nil)), true⟩),
  (115, ⟨(.st [(21, 0), (56, 1)]), 2, 8, (.cons (.int .i32) (.cons (.int .u32) .nil)), some (.cons (.int .i32) (.cons (.int .u32) .nil)), true⟩),
  (120, ⟨(.ar 64 56), 64, 256, (.arr (.int .u32) 64), some (.ar 64 (.int .u32)), true⟩),
  (121, ⟨(.st [(119, 0), (120, 3), (107, 67), (31, 75), (3, 76)]), 77, 336, (.cons (.cons .nil (.cons (.cons .nil (.cons (.int .u32) .nil)) (.cons (.cons .nil (.cons (.cons (.int .i32) (.cons (.int .u32) .nil)) .nil)) .nil))) (.cons (.arr (.int .u32) 64) (.cons (.arr (.int .u32) 8) (.cons .nils (.cons (.int .i64) .nil))))), some (.cons (.cons .nil (.cons (.cons .nil (.cons (.int .u32) .nil)) (.cons (.cons .nil (.cons (.cons (.int .i32) (.cons (.int .u32) .nil)) .nil)) .nil))) (.cons (.ar 64 (.int .u32)) (.cons (.ar 8 (.int .u32)) (.cons (.rd .u8) (.cons (.int .i64) .nil))))), true⟩),
  (122, ⟨(.st [(119, 0), (120, 3), (107, 67), (31, 75), (3, 76)]), 77, 336, (.cons (.cons .nil (.cons (.cons .nil (.cons (.int .u32) .nil)) (.cons (.cons .nil (.cons (.cons (.int .i32) (.cons (.int .u32) .nil)) .nil)) .nil))) (.cons (.arr (.int .u32) 64) (.cons (.arr (.int .u32) 8) (.cons .nils (.cons (.int .i64) .nil))))), some (.cons (.cons .nil (.cons (.cons .nil (.cons (.int .u32) .nil)) (.cons (.cons .nil (.cons (.cons (.int .i32) (.cons (.int .u32) .nil)) .nil)) .nil))) (.cons (.ar 64 (.int .u32)) (.cons (.ar 8 (.int .u32)) (.cons (.rd .u8) (.cons (.int .i64) .nil))))), true⟩),
  (124, ⟨(.ptr 120), 1, 8, .nilp, none, true⟩),
  (129, ⟨(.ptr 119), 1, 8, .nilp, none, true⟩),
  (130, ⟨(.ptr 113), 1, 8, .nilp, none, true⟩),
  (132, ⟨(.ptr 56), 1, 8, .nilp, none, true⟩),
  (134, ⟨(.ptr 117), 1, 8, .nilp, none, true⟩),
  (137, ⟨(.ptr 115), 1, 8, .nilp, none, true⟩),
  (139, ⟨(.ptr 21), 1, 8, .nilp, none, true⟩),
  (151, ⟨(.ar 0 16), 0, 0, .nil, none, true⟩),
  (154, ⟨(.int .u8), 1, 1, (.int .u8), some .u8, true⟩),
  (155, ⟨(.int .u8), 1, 1, (.int .u8), some .u8, true⟩),
  (157, ⟨(.ptr 5), 1, 8, .nilp, none, true⟩),
  (158, ⟨(.int .i32), 1, 4, (.int .i32), some (.int .i32), true⟩),
  (159, ⟨(.int .i32), 1, 4, (.int .i32), some (.int .i32), true⟩)]
theorem tysOk : tysB Go.Proofs.Try.prog tys = true := by kernel_rfl
theorem mixOk : Go.Proofs.Try.prog.follows .mixedOrders = true := by kernel_rfl

end Go.J

set_option linter.unusedSimpArgs false
set_option linter.unusedVariables false
set_option linter.unusedSectionVars false

namespace Go.J

def noTups : List T → Bool
  | [] => true
  | .tup _ :: _ => false
  | _ :: l => noTups l
theorem noTups_out : ∀ {ts : List T}, noTups ts = true → ∀ t, t ∈ ts → ∀ us, t ≠ .tup us
  | [], _, _, h => by cases h
  | t :: ts, h, u, hu => by
    intro us e
    subst e
    cases t <;> simp only [noTups, Bool.false_eq_true] at h <;> (rcases List.mem_cons.1 hu with hu | hu; · cases hu) <;> exact noTups_out h _ hu us rfl

/-- A call, by the function's own text. -/
noncomputable def inl (E : Env) (hi : Hints) (fn : Func) (c : Code) (args : List T) (hp : Hp) (nx : Nat) (k : T → Hp → Nat → Prop) : Prop :=
  lpadK fn.ntmps args fun fr => denC E nx hi c fr hp nx fun e fr hp nx => match e with
    | .normal => fin fr hp nx
    | .ret => fin fr hp nx
    | _ => False
where
  fin (fr : List T) (hp : Hp) (nx : Nat) : Prop := resK E fr hp fn.results.toList fun ts => match noTups ts with
    | true => k (resT ts) hp nx
    | false => False

variable {P : Program} {E : Env}
theorem inl_ok (hE : EnvOk P E) (hmix : P.follows .mixedOrders = true) {hi : Hints} {f : FuncId} {fn : Func} {c : Code} (hf : P.funcs[f]? = some fn) (hb : fn.body = some c) (hc : codeOk hi.plans c = true) : CallOk P f (inl E hi fn c) := by
  intro w0 F0 G hp nx args vs k hm hv h
  refine calls_of_wp hf hb ?_
  obtain ⟨hlen, h2⟩ := lpadK_out h
  have hfr : frOk G (args ++ List.replicate (fn.ntmps - args.length) (.v .any)) ((⟨vs⟩ : Array Value) ++ Array.replicate (fn.ntmps - (⟨vs⟩ : Array Value).size) undef) := by
    have hl := hv.1
    refine ⟨by simp at hl ⊢; omega, fun i t ht => ?_⟩
    by_cases hi : i < args.length
    · rw [List.getElem?_append_left hi] at ht
      obtain ⟨v, hv1, hv2⟩ := hv.2 i t ht
      exact ⟨v, by rw [Array.getElem?_append_left (by rw [← hl]; exact hi)]; exact hv1, hv2⟩
    · rw [List.getElem?_append_right (by omega)] at ht
      have hi2 := (List.getElem?_eq_some_iff.1 ht).1
      simp only [List.length_replicate] at hi2
      rw [List.getElem?_replicate, if_pos hi2] at ht
      cases ht
      refine ⟨undef, ?_, trivial⟩
      rw [Array.getElem?_append_right (by rw [← hl]; omega), Array.getElem?_replicate, if_pos (by rw [← hl]; exact hi2)]
  have fin : ∀ (fr : List T) (hp : Hp) (nx' : Nat) (a' : Act) (G' : Cx), Mdl w0 F0 G' hp nx' → Since nx G G' → frOk G' fr a'.tmps → a'.defers = [] → inl.fin E fn k fr hp nx' →
      a'.defers = [] ∧ ∃ v, (results fn a'.tmps).run P G'.w = .ok v G'.w ∧ ∃ G2 x v' hp' nx', Ending.returned v = .returned v' ∧ G2.w = G'.w ∧ Ext G G2 ∧ Mdl w0 F0 G2 hp' nx' ∧ tVal G2 x v' ∧ k x hp' nx' := by
    intro fr hp nx' a' G' hm' hs' hf' hds hfin
    obtain ⟨ts, rs, h3, h4, h5⟩ := resK_out (P := P) hE hm' hf' hfin
    split at h3
    · next hn =>
      refine ⟨hds, resV rs, results_run h5, G', resT ts, resV rs, hp, nx', rfl, rfl, ⟨?_, hs'.ext.im, hs'.ext.keep, hs'.ext.size⟩, hm', resT_val h4 (noTups_out hn), h3⟩
      intro r b hr
      by_cases hlt : r < nx
      · exact hs'.rho r hlt b hr
      · rw [hm.fresh r (by omega)] at hr; cases hr
    · exact h3.elim
  refine code_ok hE hmix c hc _ _ _ _ _ G _ hm hfr ?_ h2
  intro e fr hp nx' a' G' hm' hs' hf' hds hk
  cases e with
  | normal => exact fin fr hp nx' a' G' hm' hs' hf' hds hk
  | ret => exact fin fr hp nx' a' G' hm' hs' hf' hds hk
  | _ => exact hk.elim

/-- From a function's text to its being called, without a contract. -/
theorem may_inl {tys : List (Nat × TyI)} {l : List (Nat × (List T → Hp → Nat → (T → Hp → Nat → Prop) → Prop))} {f : FuncId} {hi : Hints} {fn : Func} {c : Code} (h1 : tysB P tys = true) (hmix : P.follows .mixedOrders = true) (h2 : AllMay P l)
    (hf : P.funcs[f]? = some fn) (hb : fn.body = some c) (hn : (fn.name == "runtime.NumGoroutine") = false) (hc : codeOk hi.plans c = true) : May P (f, inl ⟨tys, l⟩ hi fn c) :=
  ⟨⟨fn, hf, hn, by rw [hb]; rfl⟩, inl_ok (env_of h1 h2) hmix hf hb hc⟩

theorem u8lt (c : UInt8) : ((c.toNat : Nat) : Int) < 256 := Int.ofNat_lt.2 c.toNat_lt

/-- Two things told at once. -/
theorem andI {p q r : Prop} (h : p → q → r) : p ∧ q → r := fun ⟨a, b⟩ => h a b

end Go.J

