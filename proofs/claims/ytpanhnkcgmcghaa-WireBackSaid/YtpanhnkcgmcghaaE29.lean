/-
  THE ENGINE, part 29: functions; calls.
-/
import Derived.Test.YtpanhnkcgmcghaaE28
set_option linter.unusedSimpArgs false
set_option linter.unusedVariables false
set_option linter.unusedSectionVars false

namespace Go.J

section
variable {P : Program} {E : Env}

def resV : List Value → Value
  | [v] => v
  | vs => .tuple ⟨vs⟩

def Spec.Post (S : Spec) (x : Gh S.cs S.ar) (y : Gh S.cs' S.rs) : Prop :=
  match S.post with
  | .fn g => y = g x
  | .rel R => R x y

/-- A function does what its contract says. -/
def FnOk (P : Program) (f : FuncId) (S : Spec) : Prop :=
  ∀ (w0 : World) (F0 : Base) (G : Cx) (x : Gh S.cs S.ar) (vs : List Value), Mdl w0 F0 G (CSh.encs id S.cs x).1 S.n → frOk G (Sh.encs id S.ar (CSh.encs id S.cs x).2).1 ⟨vs⟩ → S.pre x →
    Calls P f ⟨vs⟩ G.w fun e w' => ∃ rs y G', e = .returned (resV rs) ∧ w' = G'.w ∧ Since S.n G G' ∧ Mdl w0 F0 G' (CSh.encs id S.cs' y).1 S.n' ∧ frOk G' (Sh.encs id S.rs (CSh.encs id S.cs' y).2).1 ⟨rs⟩ ∧ S.Post x y

def resOne (vs : Array Value) (r : ResultVar) : Sem Value :=
  match r with
  | .tmp t => pure (vs.getD t undef)
  | .cell a t => do loadVar t (← asAddr (vs.getD a undef))

theorem resK_out (hE : EnvOk P E) {w0 : World} {F0 : Base} {G : Cx} {fr : List T} {hp : Hp} {nx : Nat} {vs : Array Value} (hm : Mdl w0 F0 G hp nx) (hf : frOk G fr vs) : ∀ {l : List ResultVar} {k : List T → Prop}, resK E fr hp l k →
    ∃ (ts : List T) (rs : List Value), k ts ∧ frOk G ts ⟨rs⟩ ∧ (l.mapM (resOne vs)).run P G.w = .ok rs G.w
  | [], k, h => ⟨[], [], h, ⟨rfl, fun i t ht => by simp at ht⟩, by simp⟩
  | .tmp t :: l, k, h => by
    obtain ⟨x, hx, h1⟩ := lgetK_out h
    obtain ⟨ts, rs, h2, h3, h4⟩ := resK_out hE hm hf (l := l) (k := fun xs => k (x :: xs)) h1
    obtain ⟨v, hv, hvt⟩ := hf.2 t x hx
    have hg : vs.getD t undef = v := by simp [Array.getD, (Array.getElem?_eq_some_iff.1 hv).1, (Array.getElem?_eq_some_iff.1 hv).2]
    refine ⟨_, v :: rs, h2, frOk_cons.2 ⟨hvt, h3⟩, ?_⟩
    rw [List.mapM_cons]
    simp only [resOne, Sem.run_bind, Sem.run_pure, Result.andThen_ok, hg]
    rw [h4]
    rfl
  | .cell a t :: l, k, h => by
    obtain ⟨x, hx, h1⟩ := lgetK_out h
    obtain ⟨y, hy, h2⟩ := tyK_out h1
    have hty := hE.ty t y hy
    obtain ⟨v, hv, hvt⟩ := hf.2 a x hx
    have hg : vs.getD a undef = v := by simp [Array.getD, (Array.getElem?_eq_some_iff.1 hv).1, (Array.getElem?_eq_some_iff.1 hv).2]
    have go : ∀ u x', tVal G x' u → (Instr.loadAt t v).run P G.w = .ok u G.w → (∃ ad, v = .pointer (some ad)) → resK E fr hp l (fun xs => k (x' :: xs)) →
        ∃ (ts : List T) (rs : List Value), k ts ∧ frOk G ts ⟨rs⟩ ∧ ((.cell a t :: l : List ResultVar).mapM (resOne vs)).run P G.w = .ok rs G.w := by
      intro u x' hu hl ⟨ad, hv⟩ hk
      subst hv
      obtain ⟨ts, rs, h2, h3, h4⟩ := resK_out hE hm hf (l := l) hk
      refine ⟨_, u :: rs, h2, frOk_cons.2 ⟨hu, h3⟩, ?_⟩
      have hl' : (loadVar t ad).run P G.w = .ok u G.w := by simpa [Instr.loadAt, Instr.sureAddr] using hl
      rw [List.mapM_cons]
      simp only [resOne, Sem.run_bind, Sem.run_pure, Result.andThen_ok, hg, asAddr, hl']
      rw [h4]
      rfl
    split at h2
    · next r p =>
      obtain ⟨c, hc, h3⟩ := lookK_out h2
      obtain ⟨x', h4, hx⟩ := tgetK_out h3
      obtain ⟨b, hr, hck⟩ := hm.chunk r c hc
      obtain ⟨b', k1, k2, k3⟩ := tVal_of_v hvt
      obtain rfl : b = b' := Option.some.inj (hr.symm.trans k1)
      obtain ⟨cs, hcs, hat⟩ := tree_cells hck
      obtain ⟨m1, m2⟩ := hx G cs hcs
      split at h4
      · next hs =>
        by_cases hne : cs = []
        · subst hne
          simp only [List.length_nil] at m2
          obtain ⟨v, hv1, hv2, hv3⟩ := run_load_t (b := b.blk) (o := poff p) hty hs h4 (cs := []) (by simpa using m1) (fun j v hv => by simp at hv)
          exact go v _ hv2 (by rw [k3]; exact hv1) ⟨_, k3⟩ hv3
        · have h5 := ((hat hne).2.drop (poff p) x'.size)
          rw [Nat.zero_add] at h5
          obtain ⟨v, hv1, hv2, hv3⟩ := run_load_t hty hs h4 m1 h5
          exact go v _ hv2 (by rw [k3]; exact hv1) ⟨_, k3⟩ hv3
      · exact h4.elim
    · exact h2.elim

theorem results_run {fn : Func} {tmps : Array Value} {w : World} {rs : List Value} (h : (fn.results.toList.mapM (resOne tmps)).run P w = .ok rs w) : (results fn tmps).run P w = .ok (resV rs) w := by
  show (do
    let vs ← fn.results.mapM (resOne tmps)
    pure (if h : vs.size = 1 then vs[0] else .tuple vs) : Sem Value).run P w = _
  rw [Array.mapM_eq_mapM_toList]
  simp only [Sem.run_bind, Sem.run_map, h]
  match rs with
  | [] => rfl
  | [v] => rfl
  | v :: u :: rs => simp [resV, Result.andThen]

theorem Sh.eqK_out : ∀ (s : Sh) {R : Type} (x y : s.add R) (k : R → R → Prop), s.eqK x y k → (∀ a b, k a b → a = b) → x = y
  | .el _, _, x, y, k, h, hk => Prod.ext h.1.out (hk _ _ h.2)
  | .lend _, _, x, y, k, h, hk => Prod.ext h.1.out (hk _ _ h.2)
  | .rp _, _, x, y, k, h, hk => Prod.ext h.1.out (hk _ _ h.2)
  | .own _, _, x, y, k, h, hk => hk _ _ h
  | .ref _, _, x, y, k, h, hk => hk _ _ h
  | .any, _, x, y, k, h, hk => hk _ _ h
  | .nil, _, x, y, k, h, hk => hk _ _ h
  | .cons s ss, _, x, y, k, h, hk => Sh.eqK_out s x y _ h fun a b hab => Sh.eqK_out ss a b k hab hk
theorem Sh.eqsK_out : ∀ (ss : List Sh) {R : Type} (x y : Sh.adds ss R) (k : R → R → Prop), Sh.eqsK ss x y k → (∀ a b, k a b → a = b) → x = y
  | [], _, x, y, k, h, hk => hk _ _ h
  | s :: ss, _, x, y, k, h, hk => Sh.eqK_out s x y _ h fun a b hab => Sh.eqsK_out ss a b k hab hk
theorem CSh.eqsK_out : ∀ (cs : List (Nat × CSh)) {R : Type} (x y : CSh.adds cs R) (k : R → R → Prop), CSh.eqsK cs x y k → (∀ a b, k a b → a = b) → x = y
  | [], _, x, y, k, h, hk => hk _ _ h
  | (_, .row _ _) :: cs, _, x, y, k, h, hk => Prod.ext h.1.out (CSh.eqsK_out cs _ _ k h.2 hk)
  | (_, .own s) :: cs, _, x, y, k, h, hk => Sh.eqK_out s x y _ h fun a b hab => CSh.eqsK_out cs a b k hab hk
theorem ghEq_out {cs : List (Nat × CSh)} {ss : List Sh} {x y : Gh cs ss} (h : ghEq cs ss x y) : x = y :=
  CSh.eqsK_out cs x y _ h fun a b hab => Sh.eqsK_out ss a b _ hab fun _ _ _ => rfl

theorem fn_ok (hE : EnvOk P E) (hmix : P.follows .mixedOrders = true) {S : Spec} {hi : Hints} {f : FuncId} {fn : Func} {c : Code} (hf : P.funcs[f]? = some fn) (hb : fn.body = some c) (hc : codeOk hi.plans c = true)
    (hs : (idsOk S.cs' && Nat.ble S.n S.n') = true) (h : denF E S hi fn) : FnOk P f S := by
  intro w0 F0 G x vs hm hv hpre
  simp only [Bool.and_eq_true] at hs
  have hle := Nat.le_of_ble_eq_true hs.2
  refine calls_of_wp hf hb ?_
  simp only [denF, hb] at h
  have h1 := ghK_out hm hv (ghAll_out h x hpre)
  rw [CSh.encsK_eq, Sh.encsK_eq] at h1
  obtain ⟨hlen, h2⟩ := lpadK_out h1
  have hfr : frOk G ((Sh.encs id S.ar (CSh.encs id S.cs x).2).1 ++ List.replicate (fn.ntmps - (Sh.encs id S.ar (CSh.encs id S.cs x).2).1.length) (.v .any)) ((⟨vs⟩ : Array Value) ++ Array.replicate (fn.ntmps - (⟨vs⟩ : Array Value).size) undef) := by
    have hl := hv.1
    refine ⟨by simp at hl ⊢; omega, fun i t ht => ?_⟩
    by_cases hi : i < (Sh.encs id S.ar (CSh.encs id S.cs x).2).1.length
    · rw [List.getElem?_append_left hi] at ht
      obtain ⟨v, hv1, hv2⟩ := hv.2 i t ht
      exact ⟨v, by rw [Array.getElem?_append_left (by rw [← hl]; exact hi)]; exact hv1, hv2⟩
    · rw [List.getElem?_append_right (by omega)] at ht
      have hi2 := (List.getElem?_eq_some_iff.1 ht).1
      simp only [List.length_replicate] at hi2
      rw [List.getElem?_replicate, if_pos hi2] at ht
      cases ht
      refine ⟨undef, ?_, trivial⟩
      rw [Array.getElem?_append_right (by rw [← hl]; omega), Array.getElem?_replicate, if_pos (by rw [← hl]; exact hi2)]
  have fin : ∀ (fr : List T) (hp : Hp) (nx : Nat) (a' : Act) (G' : Cx), Mdl w0 F0 G' hp nx → Since S.n G G' → frOk G' fr a'.tmps → a'.defers = [] → denF.fin E S fn x fr hp →
      a'.defers = [] ∧ ∃ v, (results fn a'.tmps).run P G'.w = .ok v G'.w ∧ ∃ rs y G2, Ending.returned v = .returned (resV rs) ∧ G'.w = G2.w ∧ Since S.n G G2 ∧ Mdl w0 F0 G2 (CSh.encs id S.cs' y).1 S.n' ∧ frOk G2 (Sh.encs id S.rs (CSh.encs id S.cs' y).2).1 ⟨rs⟩ ∧ S.Post x y := by
    intro fr hp nx a' G' hm' hs' hf' hds hfin
    obtain ⟨ts, rs, h3, h4, h5⟩ := resK_out (P := P) hE hm' hf' hfin
    obtain ⟨y, d, im', L, h6, hT⟩ := st_told hm' (fun q r hq => Nat.lt_of_lt_of_le (anchors_lt hq) hle) h3
    refine ⟨hds, resV rs, results_run h5, rs, y, ctxOf G' im' d, rfl, rfl, hs'.trans ⟨hT.ext0, fun q hq b hb => by rw [hT.anchor hq]; exact hb⟩, hT.mdl hs.1, hT.vals _ (ctxOf_compat _ _) _ h4, ?_⟩
    revert h6
    unfold Spec.Post
    cases S.post with
    | fn g => exact fun h => ghEq_out h
    | rel R => exact fun h => h.out
  refine code_ok hE hmix c hc _ _ _ _ _ G _ hm hfr ?_ h2
  intro e fr hp nx a' G' hm' hs' hf' hds hk
  cases e with
  | normal => exact fin fr hp nx a' G' hm' hs' hf' hds hk
  | ret => exact fin fr hp nx a' G' hm' hs' hf' hds hk
  | _ => exact hk.elim

end
end Go.J
