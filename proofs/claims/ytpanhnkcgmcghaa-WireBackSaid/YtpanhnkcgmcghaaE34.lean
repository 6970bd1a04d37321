/-
  THE ENGINE, part 34: functions that are walked anew at each call.
-/
import Derived.Test.YtpanhnkcgmcghaaE33
set_option linter.unusedSimpArgs false
set_option linter.unusedVariables false
set_option linter.unusedSectionVars false

namespace Go.J

def noTups : List T → Bool
  | [] => true
  | .tup _ :: _ => false
  | _ :: l => noTups l
theorem noTups_out : ∀ {ts : List T}, noTups ts = true → ∀ t, t ∈ ts → ∀ us, t ≠ .tup us
  | [], _, _, h => by cases h
  | t :: ts, h, u, hu => by
    intro us e
    subst e
    cases t <;> simp only [noTups, Bool.false_eq_true] at h <;> (rcases List.mem_cons.1 hu with hu | hu; · cases hu) <;> exact noTups_out h _ hu us rfl

/-- A call, by the function's own text. -/
noncomputable def inl (E : Env) (hi : Hints) (fn : Func) (c : Code) (args : List T) (hp : Hp) (nx : Nat) (k : T → Hp → Nat → Prop) : Prop :=
  lpadK fn.ntmps args fun fr => denC E nx hi c fr hp nx fun e fr hp nx => match e with
    | .normal => fin fr hp nx
    | .ret => fin fr hp nx
    | _ => False
where
  fin (fr : List T) (hp : Hp) (nx : Nat) : Prop := resK E fr hp fn.results.toList fun ts => match noTups ts with
    | true => k (resT ts) hp nx
    | false => False

variable {P : Program} {E : Env}
theorem inl_ok (hE : EnvOk P E) (hmix : P.follows .mixedOrders = true) {hi : Hints} {f : FuncId} {fn : Func} {c : Code} (hf : P.funcs[f]? = some fn) (hb : fn.body = some c) (hc : codeOk hi.plans c = true) : CallOk P f (inl E hi fn c) := by
  intro w0 F0 G hp nx args vs k hm hv h
  refine calls_of_wp hf hb ?_
  obtain ⟨hlen, h2⟩ := lpadK_out h
  have hfr : frOk G (args ++ List.replicate (fn.ntmps - args.length) (.v .any)) ((⟨vs⟩ : Array Value) ++ Array.replicate (fn.ntmps - (⟨vs⟩ : Array Value).size) undef) := by
    have hl := hv.1
    refine ⟨by simp at hl ⊢; omega, fun i t ht => ?_⟩
    by_cases hi : i < args.length
    · rw [List.getElem?_append_left hi] at ht
      obtain ⟨v, hv1, hv2⟩ := hv.2 i t ht
      exact ⟨v, by rw [Array.getElem?_append_left (by rw [← hl]; exact hi)]; exact hv1, hv2⟩
    · rw [List.getElem?_append_right (by omega)] at ht
      have hi2 := (List.getElem?_eq_some_iff.1 ht).1
      simp only [List.length_replicate] at hi2
      rw [List.getElem?_replicate, if_pos hi2] at ht
      cases ht
      refine ⟨undef, ?_, trivial⟩
      rw [Array.getElem?_append_right (by rw [← hl]; omega), Array.getElem?_replicate, if_pos (by rw [← hl]; exact hi2)]
  have fin : ∀ (fr : List T) (hp : Hp) (nx' : Nat) (a' : Act) (G' : Cx), Mdl w0 F0 G' hp nx' → Since nx G G' → frOk G' fr a'.tmps → a'.defers = [] → inl.fin E fn k fr hp nx' →
      a'.defers = [] ∧ ∃ v, (results fn a'.tmps).run P G'.w = .ok v G'.w ∧ ∃ G2 x v' hp' nx', Ending.returned v = .returned v' ∧ G2.w = G'.w ∧ Ext G G2 ∧ Mdl w0 F0 G2 hp' nx' ∧ tVal G2 x v' ∧ k x hp' nx' := by
    intro fr hp nx' a' G' hm' hs' hf' hds hfin
    obtain ⟨ts, rs, h3, h4, h5⟩ := resK_out (P := P) hE hm' hf' hfin
    split at h3
    · next hn =>
      refine ⟨hds, resV rs, results_run h5, G', resT ts, resV rs, hp, nx', rfl, rfl, ⟨?_, hs'.ext.im, hs'.ext.keep, hs'.ext.size⟩, hm', resT_val h4 (noTups_out hn), h3⟩
      intro r b hr
      by_cases hlt : r < nx
      · exact hs'.rho r hlt b hr
      · rw [hm.fresh r (by omega)] at hr; cases hr
    · exact h3.elim
  refine code_ok hE hmix c hc _ _ _ _ _ G _ hm hfr ?_ h2
  intro e fr hp nx' a' G' hm' hs' hf' hds hk
  cases e with
  | normal => exact fin fr hp nx' a' G' hm' hs' hf' hds hk
  | ret => exact fin fr hp nx' a' G' hm' hs' hf' hds hk
  | _ => exact hk.elim

/-- From a function's text to its being called, without a contract. -/
theorem may_inl {tys : List (Nat × TyI)} {l : List (Nat × (List T → Hp → Nat → (T → Hp → Nat → Prop) → Prop))} {f : FuncId} {hi : Hints} {fn : Func} {c : Code} (h1 : tysB P tys = true) (hmix : P.follows .mixedOrders = true) (h2 : AllMay P l)
    (hf : P.funcs[f]? = some fn) (hb : fn.body = some c) (hn : (fn.name == "runtime.NumGoroutine") = false) (hc : codeOk hi.plans c = true) : May P (f, inl ⟨tys, l⟩ hi fn c) :=
  ⟨⟨fn, hf, hn, by rw [hb]; rfl⟩, inl_ok (env_of h1 h2) hmix hf hb hc⟩

theorem u8lt (c : UInt8) : ((c.toNat : Nat) : Int) < 256 := Int.ofNat_lt.2 c.toNat_lt

/-- Two things told at once. -/
theorem andI {p q r : Prop} (h : p → q → r) : p ∧ q → r := fun ⟨a, b⟩ => h a b

end Go.J
