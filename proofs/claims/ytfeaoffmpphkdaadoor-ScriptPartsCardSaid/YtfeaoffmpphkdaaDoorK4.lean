/-
  JOBBER: the engine and the functions of this claim, part 4.
-/
import Derived.Test.YtfeaoffmpphkdaaDoorK3
import Derived.Test.YtfeaoffmpphkdaaDoorProg
import Derived.KernelRfl
namespace Go.J

def tys : List (Nat × TyI) := [
  (2, ⟨(.int .i64), 1, 8, (.int .i64), some (.int .i64), true⟩),
  (3, ⟨(.int .i64), 1, 8, (.int .i64), some (.int .i64), true⟩),
  (4, ⟨.bool, 1, 1, .bool, some .bool, true⟩),
  (5, ⟨(.int .u8), 1, 1, (.int .u8), some .u8, true⟩),
  (6, ⟨(.int .u8), 1, 1, (.int .u8), some .u8, true⟩),
  (7, ⟨(.st [(2, 0), (3, 1), (4, 2), (6, 3)]), 4, 24, (.cons (.int .i64) (.cons (.int .i64) (.cons .bool (.cons (.int .u8) .nil)))), some (.cons (.int .i64) (.cons (.int .i64) (.cons .bool (.cons .u8 .nil)))), true⟩),
  (8, ⟨(.st [(2, 0), (3, 1), (4, 2), (6, 3)]), 4, 24, (.cons (.int .i64) (.cons (.int .i64) (.cons .bool (.cons (.int .u8) .nil)))), some (.cons (.int .i64) (.cons (.int .i64) (.cons .bool (.cons .u8 .nil)))), true⟩),
  (9, ⟨.str, 1, 16, .str, some .str, true⟩),
  (10, ⟨.str, 1, 16, .str, some .str, true⟩),
  (11, ⟨.str, 1, 16, .str, some .str, true⟩),
  (12, ⟨(.int .u64), 1, 8, (.int .u64), some (.int .u64), true⟩),
  (15, ⟨(.ptr 131), 1, 8, .nilp, none, true⟩),
  (16, ⟨(.ptr 134), 1, 8, .nilp, none, true⟩),
  (17, ⟨(.ptr 142), 1, 8, .nilp, none, true⟩),
  (20, ⟨.other, 1, 16, .nilf, none, true⟩),
  (21, ⟨(.int .i32), 1, 4, (.int .i32), some (.int .i32), true⟩),
  (22, ⟨(.sl 29), 1, 24, .nils, some (.rd (.cons (.int .i64) (.cons (.int .i64) (.cons (.int .i64) (.cons (.ar 32 .u8) (.cons (.rd .u8) .nil)))))), true⟩),
  (24, ⟨(.sl 5), 1, 24, .nils, some (.rd .u8), true⟩),
  (26, ⟨(.ar 32 5), 32, 32, (.arr .u8 32), some (.ar 32 .u8), true⟩),
  (27, ⟨(.ar 32 5), 32, 32, (.arr .u8 32), some (.ar 32 .u8), true⟩),
  (28, ⟨(.st [(3, 0), (3, 1), (3, 2), (27, 3), (24, 35)]), 36, 80, (.cons (.int .i64) (.cons (.int .i64) (.cons (.int .i64) (.cons (.arr .u8 32) (.cons .nils .nil))))), some (.cons (.int .i64) (.cons (.int .i64) (.cons (.int .i64) (.cons (.ar 32 .u8) (.cons (.rd .u8) .nil))))), true⟩),
  (29, ⟨(.st [(3, 0), (3, 1), (3, 2), (27, 3), (24, 35)]), 36, 80, (.cons (.int .i64) (.cons (.int .i64) (.cons (.int .i64) (.cons (.arr .u8 32) (.cons .nils .nil))))), some (.cons (.int .i64) (.cons (.int .i64) (.cons (.int .i64) (.cons (.ar 32 .u8) (.cons (.rd .u8) .nil))))), true⟩),
  (31, ⟨(.int .i64), 1, 8, (.int .i64), some (.int .i64), true⟩),
  (32, ⟨(.st [(3, 0), (31, 1), (3, 2), (3, 3), (3, 4), (3, 5), (3, 6), (3, 7), (3, 8), (3, 9), (27, 10)]), 42, 112, (.cons (.int .i64) (.cons (.int .i64) (.cons (.int .i64) (.cons (.int .i64) (.cons (.int .i64) (.cons (.int .i64) (.cons (.int .i64) (.cons (.int .i64) (.cons (.int .i64) (.cons (.int .i64) (.cons (.arr .u8 32) .nil))))))))))), some (.cons (.int .i64) (.cons (.int .i64) (.cons (.int .i64) (.cons (.int .i64) (.cons (.int .i64) (.cons (.int .i64) (.cons (.int .i64) (.cons (.int .i64) (.cons (.int .i64) (.cons (.int .i64) (.cons (.ar 32 .u8) .nil))))))))))), true⟩),
  (33, ⟨(.st [(3, 0), (31, 1), (3, 2), (3, 3), (3, 4), (3, 5), (3, 6), (3, 7), (3, 8), (3, 9), (27, 10)]), 42, 112, (.cons (.int .i64) (.cons (.int .i64) (.cons (.int .i64) (.cons (.int .i64) (.cons (.int .i64) (.cons (.int .i64) (.cons (.int .i64) (.cons (.int .i64) (.cons (.int .i64) (.cons (.int .i64) (.cons (.arr .u8 32) .nil))))))))))), some (.cons (.int .i64) (.cons (.int .i64) (.cons (.int .i64) (.cons (.int .i64) (.cons (.int .i64) (.cons (.int .i64) (.cons (.int .i64) (.cons (.int .i64) (.cons (.int .i64) (.cons (.int .i64) (.cons (.ar 32 .u8) .nil))))))))))), true⟩),
  (51, ⟨(.sl 3), 1, 24, .nils, some (.rd (.int .i64)), true⟩),
  (52, ⟨(.ptr 75), 1, 8, .nilp, none, true⟩),
  (55, ⟨(.sl 56), 1, 24, .nils, none, true⟩),
  (56, ⟨(.ptr 3), 1, 8, .nilp, none, true⟩),
  (57, ⟨(.int .u32), 1, 4, (.int .u32), some (.int .u32), true⟩),
  (61, ⟨(.ptr 92), 1, 8, .nilp, none, true⟩),
  (66, ⟨(.int .u64), 1, 8, (.int .u64), some (.int .u64), true⟩),
  (67, ⟨(.ar 8 57), 8, 32, (.arr (.int .u32) 8), some (.ar 8 (.int .u32)), true⟩),
  (68, ⟨(.ar 64 57), 64, 256, (.arr (.int .u32) 64), some (.ar 64 (.int .u32)), true⟩),
  (70, ⟨(.int .u64), 1, 8, (.int .u64), some (.int .u64), true⟩),
  (74, ⟨(.st [(24, 0), (3, 1), (4, 2)]), 3, 40, (.cons .nils (.cons (.int .i64) (.cons .bool .nil))), some (.cons (.rd .u8) (.cons (.int .i64) (.cons .bool .nil))), true⟩),
  (75, ⟨(.st [(24, 0), (3, 1), (4, 2)]), 3, 40, (.cons .nils (.cons (.int .i64) (.cons .bool .nil))), some (.cons (.rd .u8) (.cons (.int .i64) (.cons .bool .nil))), true⟩),
  (78, ⟨(.ar 8 57), 8, 32, (.arr (.int .u32) 8), some (.ar 8 (.int .u32)), true⟩),
  (80, ⟨(.st []), 0, 0, .nil, none, true⟩),
  (81, ⟨(.st []), 0, 0, .nil, none, true⟩),
  (82, ⟨(.st []), 0, 0, .nil, none, true⟩),
  (85, ⟨(.st [(21, 0), (57, 1)]), 2, 8, (.cons (.int .i32) (.cons (.int .u32) .nil)), some (.cons (.int .i32) (.cons (.int .u32) .nil)), true⟩),
  (86, ⟨(.st [(21, 0), (57, 1)]), 2, 8, (.cons (.int .i32) (.cons (.int .u32) .nil)), some (.cons (.int .i32) (.cons (.int .u32) .nil)), true⟩),
  (91, ⟨(.st [(90, 0), (68, 3), (78, 67), (24, 75), (3, 76)]), 77, 336, (.cons (.cons .nil (.cons (.cons .nil (.cons (.int .u32) .nil)) (.cons (.cons .nil (.cons (.cons (.int .i32) (.cons (.int .u32) .nil)) .nil)) .nil))) (.cons (.arr (.int .u32) 64) (.cons (.arr (.int .u32) 8) (.cons .nils (.cons (.int .i64) .nil))))), some (.cons (.cons .nil (.cons (.cons .nil (.cons (.int .u32) .nil)) (.cons (.cons .nil (.cons (.cons (.int .i32) (.cons (.int .u32) .nil)) .nil)) .nil))) (.cons (.ar 64 (.int .u32)) (.cons (.ar 8 (.int .u32)) (.cons (.rd .u8) (.cons (.int .i64) .nil))))), true⟩),
  (92, ⟨(.st [(90, 0), (68, 3), (78, 67), (24, 75), (3, 76)]), 77, 336, (.cons (.cons .nil (.cons (.cons .nil (.cons (.int .u32) .nil)) (.cons (.cons .nil (.cons (.cons (.int .i32) (.cons (.int .u32) .nil)) .nil)) .nil))) (.cons (.arr (.int .u32) 64) (.cons (.arr (.int .u32) 8) (.cons .nils (.cons (.int .i64) .nil))))), some (.cons (.cons .nil (.cons (.cons .nil (.cons (.int .u32) .nil)) (.cons (.cons .nil (.cons (.cons (.int .i32) (.cons (.int .u32) .nil)) .nil)) .nil))) (.cons (.ar 64 (.int .u32)) (.cons (.ar 8 (.int .u32)) (.cons (.rd .u8) (.cons (.int .i64) .nil))))), true⟩),
  (94, ⟨(.ptr 68), 1, 8, .nilp, none, true⟩),
  (98, ⟨(.ptr 90), 1, 8, .nilp, none, true⟩),
  (99, ⟨(.ar 24 5), 24, 24, (.arr .u8 24), some (.ar 24 .u8), true⟩),
  (104, ⟨(.ptr 84), 1, 8, .nilp, none, true⟩),
  (106, ⟨(.ptr 57), 1, 8, .nilp, none, true⟩),
  (110, ⟨(.ar 20 66), 20, 160, (.arr (.int .u64) 20), some (.ar 20 (.int .u64)), true⟩),
  (111, ⟨(.ar 65 5), 65, 65, (.arr .u8 65), some (.ar 65 .u8), true⟩),
  (114, ⟨(.ptr 88), 1, 8, .nilp, none, true⟩),
  (118, ⟨(.ptr 86), 1, 8, .nilp, none, true⟩),
  (120, ⟨(.ptr 21), 1, 8, .nilp, none, true⟩),
  (125, ⟨(.ar 64 5), 64, 64, (.arr .u8 64), some (.ar 64 .u8), true⟩),
  (132, ⟨(.ar 0 16), 0, 0, .nil, none, true⟩),
  (135, ⟨(.int .u8), 1, 1, (.int .u8), some .u8, true⟩),
  (136, ⟨(.int .u8), 1, 1, (.int .u8), some .u8, true⟩),
  (138, ⟨(.ptr 5), 1, 8, .nilp, none, true⟩),
  (139, ⟨(.int .i32), 1, 4, (.int .i32), some (.int .i32), true⟩),
  (140, ⟨(.int .i32), 1, 4, (.int .i32), some (.int .i32), true⟩)]
theorem tysOk : tysB Go.Proofs.Tryd.prog tys = true := by kernel_rfl
theorem mixOk : Go.Proofs.Tryd.prog.follows .mixedOrders = true := by kernel_rfl

end Go.J

set_option linter.unusedSimpArgs false
set_option linter.unusedVariables false
set_option linter.unusedSectionVars false

namespace Go.J

def noTups : List T → Bool
  | [] => true
  | .tup _ :: _ => false
  | _ :: l => noTups l
theorem noTups_out : ∀ {ts : List T}, noTups ts = true → ∀ t, t ∈ ts → ∀ us, t ≠ .tup us
  | [], _, _, h => by cases h
  | t :: ts, h, u, hu => by
    intro us e
    subst e
    cases t <;> simp only [noTups, Bool.false_eq_true] at h <;> (rcases List.mem_cons.1 hu with hu | hu; · cases hu) <;> exact noTups_out h _ hu us rfl

/-- A call, by the function's own text. -/
noncomputable def inl (E : Env) (hi : Hints) (fn : Func) (c : Code) (args : List T) (hp : Hp) (nx : Nat) (k : T → Hp → Nat → Prop) : Prop :=
  lpadK fn.ntmps args fun fr => denC E nx hi c fr hp nx fun e fr hp nx => match e with
    | .normal => fin fr hp nx
    | .ret => fin fr hp nx
    | _ => False
where
  fin (fr : List T) (hp : Hp) (nx : Nat) : Prop := resK E fr hp fn.results.toList fun ts => match noTups ts with
    | true => k (resT ts) hp nx
    | false => False

variable {P : Program} {E : Env}
theorem inl_ok (hE : EnvOk P E) (hmix : P.follows .mixedOrders = true) {hi : Hints} {f : FuncId} {fn : Func} {c : Code} (hf : P.funcs[f]? = some fn) (hb : fn.body = some c) (hc : codeOk hi.plans c = true) : CallOk P f (inl E hi fn c) := by
  intro w0 F0 G hp nx args vs k hm hv h
  refine calls_of_wp hf hb ?_
  obtain ⟨hlen, h2⟩ := lpadK_out h
  have hfr : frOk G (args ++ List.replicate (fn.ntmps - args.length) (.v .any)) ((⟨vs⟩ : Array Value) ++ Array.replicate (fn.ntmps - (⟨vs⟩ : Array Value).size) undef) := by
    have hl := hv.1
    refine ⟨by simp at hl ⊢; omega, fun i t ht => ?_⟩
    by_cases hi : i < args.length
    · rw [List.getElem?_append_left hi] at ht
      obtain ⟨v, hv1, hv2⟩ := hv.2 i t ht
      exact ⟨v, by rw [Array.getElem?_append_left (by rw [← hl]; exact hi)]; exact hv1, hv2⟩
    · rw [List.getElem?_append_right (by omega)] at ht
      have hi2 := (List.getElem?_eq_some_iff.1 ht).1
      simp only [List.length_replicate] at hi2
      rw [List.getElem?_replicate, if_pos hi2] at ht
      cases ht
      refine ⟨undef, ?_, trivial⟩
      rw [Array.getElem?_append_right (by rw [← hl]; omega), Array.getElem?_replicate, if_pos (by rw [← hl]; exact hi2)]
  have fin : ∀ (fr : List T) (hp : Hp) (nx' : Nat) (a' : Act) (G' : Cx), Mdl w0 F0 G' hp nx' → Since nx G G' → frOk G' fr a'.tmps → a'.defers = [] → inl.fin E fn k fr hp nx' →
      a'.defers = [] ∧ ∃ v, (results fn a'.tmps).run P G'.w = .ok v G'.w ∧ ∃ G2 x v' hp' nx', Ending.returned v = .returned v' ∧ G2.w = G'.w ∧ Ext G G2 ∧ Mdl w0 F0 G2 hp' nx' ∧ tVal G2 x v' ∧ k x hp' nx' := by
    intro fr hp nx' a' G' hm' hs' hf' hds hfin
    obtain ⟨ts, rs, h3, h4, h5⟩ := resK_out (P := P) hE hm' hf' hfin
    split at h3
    · next hn =>
      refine ⟨hds, resV rs, results_run h5, G', resT ts, resV rs, hp, nx', rfl, rfl, ⟨?_, hs'.ext.im, hs'.ext.keep, hs'.ext.size⟩, hm', resT_val h4 (noTups_out hn), h3⟩
      intro r b hr
      by_cases hlt : r < nx
      · exact hs'.rho r hlt b hr
      · rw [hm.fresh r (by omega)] at hr; cases hr
    · exact h3.elim
  refine code_ok hE hmix c hc _ _ _ _ _ G _ hm hfr ?_ h2
  intro e fr hp nx' a' G' hm' hs' hf' hds hk
  cases e with
  | normal => exact fin fr hp nx' a' G' hm' hs' hf' hds hk
  | ret => exact fin fr hp nx' a' G' hm' hs' hf' hds hk
  | _ => exact hk.elim

/-- From a function's text to its being called, without a contract. -/
theorem may_inl {tys : List (Nat × TyI)} {l : List (Nat × (List T → Hp → Nat → (T → Hp → Nat → Prop) → Prop))} {f : FuncId} {hi : Hints} {fn : Func} {c : Code} (h1 : tysB P tys = true) (hmix : P.follows .mixedOrders = true) (h2 : AllMay P l)
    (hf : P.funcs[f]? = some fn) (hb : fn.body = some c) (hn : (fn.name == "runtime.NumGoroutine") = false) (hc : codeOk hi.plans c = true) : May P (f, inl ⟨tys, l⟩ hi fn c) :=
  ⟨⟨fn, hf, hn, by rw [hb]; rfl⟩, inl_ok (env_of h1 h2) hmix hf hb hc⟩

theorem u8lt (c : UInt8) : ((c.toNat : Nat) : Int) < 256 := Int.ofNat_lt.2 c.toNat_lt

/-- Two things told at once. -/
theorem andI {p q r : Prop} (h : p → q → r) : p ∧ q → r := fun ⟨a, b⟩ => h a b

end Go.J

