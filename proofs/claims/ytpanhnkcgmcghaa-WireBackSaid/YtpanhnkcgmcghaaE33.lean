/-
  THE ENGINE, part 33: functions that may be called.
-/
import Derived.Test.YtpanhnkcgmcghaaE32
set_option linter.unusedSimpArgs false
set_option linter.unusedVariables false
set_option linter.unusedSectionVars false

namespace Go.J

/-- A function that may be called, by its contract. -/
def May (P : Program) (p : Nat × (List T → Hp → Nat → (T → Hp → Nat → Prop) → Prop)) : Prop := FnIs P p.1 ∧ CallOk P p.1 p.2
def AllMay (P : Program) : List (Nat × (List T → Hp → Nat → (T → Hp → Nat → Prop) → Prop)) → Prop
  | [] => True
  | p :: l => May P p ∧ AllMay P l
theorem allMay_out {P : Program} : ∀ {l : List (Nat × (List T → Hp → Nat → (T → Hp → Nat → Prop) → Prop))}, AllMay P l → ∀ f g, (f, g) ∈ l → May P (f, g)
  | [], _, _, _, h => by cases h
  | p :: l, h, f, g, hm => by
    rcases List.mem_cons.1 hm with rfl | hm
    · exact h.1
    · exact allMay_out h.2 f g hm
theorem env_of {P : Program} {tys : List (Nat × TyI)} {l : List (Nat × (List T → Hp → Nat → (T → Hp → Nat → Prop) → Prop))} (h1 : tysB P tys = true) (h2 : AllMay P l) : EnvOk P ⟨tys, l⟩ :=
  ⟨fun f g h => (allMay_out h2 f g h).1, tysB_out h1, fun f g h => (allMay_out h2 f g h).2⟩

/-- From a function's side conditions to its contract. -/
theorem fn_of {P : Program} {tys : List (Nat × TyI)} {l : List (Nat × (List T → Hp → Nat → (T → Hp → Nat → Prop) → Prop))} {f : FuncId} {S : Spec} {hi : Hints} {fn : Func} {c : Code} (h1 : tysB P tys = true) (hmix : P.follows .mixedOrders = true) (h2 : AllMay P l)
    (hf : P.funcs[f]? = some fn) (hb : fn.body = some c) (hn : (fn.name == "runtime.NumGoroutine") = false) (hc : codeOk hi.plans c = true) (hs : (idsOk S.cs && idsOk S.cs' && Nat.ble S.n S.n') = true) (h : denF ⟨tys, l⟩ S hi fn) : (FnIs P f ∧ FnOk P f S) ∧ (idsOk S.cs && idsOk S.cs' && Nat.ble S.n S.n') = true := by
  have hs' := hs
  simp only [Bool.and_eq_true] at hs'
  exact ⟨⟨⟨fn, hf, hn, by rw [hb]; rfl⟩, fn_ok (env_of h1 h2) hmix hf hb hc (by simp only [Bool.and_eq_true]; exact ⟨hs'.1.2, hs'.2⟩) h⟩, hs⟩
theorem may_call {P : Program} {f : FuncId} {S : Spec} (h : (FnIs P f ∧ FnOk P f S) ∧ (idsOk S.cs && idsOk S.cs' && Nat.ble S.n S.n') = true) : May P (f, S.call) := ⟨h.1.1, call_ok false h.1.2 h.2⟩
theorem may_callN {P : Program} {f : FuncId} {S : Spec} (h : (FnIs P f ∧ FnOk P f S) ∧ (idsOk S.cs && idsOk S.cs' && Nat.ble S.n S.n') = true) : May P (f, S.callN) := ⟨h.1.1, call_ok true h.1.2 h.2⟩

end Go.J
