/-
  THE ENGINE, part 27: lengths; regions in the text's order; code.
-/
import Derived.Test.YtpanhnkcgmcghaaE26
import Derived.Deep.LoopGhost
set_option linter.unusedSimpArgs false
set_option linter.unusedVariables false
set_option linter.unusedSectionVars false

namespace Go.J

section
variable {P : Program} {E : Env} {w0 : World} {F0 : Base} {G : Cx} {nx : Nat}

/-! Lengths. -/
theorem El.lens_of : ∀ (e : El) (x : e.ty) (K : Prop) (im : Nat → Prop) (w : World) (cs : List Value), cellsOf im w e x cs → e.lensK x K → K
  | .rd e, x, K, im, w, cs, ⟨A, c, _, h1, h2, _⟩, h => h (Nat.le_trans h1 h2)
  | .cons e es, x, K, im, w, cs, ⟨c1, c2, _, k1, k2⟩, h => El.lens_of es x.2 K im w c2 k2 (El.lens_of e x.1 _ im w c1 k1 h)
  | .u8, _, _, _, _, _, _, h => h
  | .int _, _, _, _, _, _, _, h => h
  | .bool, _, _, _, _, _, _, h => h
  | .str, _, _, _, _, _, _, h => h
  | .nil, _, _, _, _, _, _, h => h
  | .ar _ _, _, _, _, _, _, _, h => h

theorem Sh.lens_of (ρ : Nat → Nat) : ∀ (s : Sh) {R : Type} (x : s.add R) (k : R → Prop) (cs : List Value), tCells G (s.enc ρ x).1 cs → s.lensK x k → k (s.enc ρ x).2
  | .el e, _, x, k, cs, hc, h => El.lens_of e x.1 _ _ _ cs ((tCells_enc e x.1 cs).1 hc) h
  | .lend e, _, x, k, cs, ⟨c, _, _, A, cc, _, h1, h2, _⟩, h => h (Nat.le_trans h1 h2)
  | .rp e, _, x, k, cs, ⟨c, _, _, _, b, o, css, _, _, _, _, c1, c2, _, k1, _⟩, h => El.lens_of e x.1 _ _ _ c1 k1 h
  | .own _, _, _, _, _, _, h => h
  | .ref _, _, _, _, _, _, h => h
  | .any, _, _, _, _, _, h => h
  | .nil, _, _, _, _, _, h => h
  | .cons s ss, _, x, k, cs, ⟨c1, c2, _, k1, k2⟩, h => Sh.lens_of ρ ss _ k c2 k2 (Sh.lens_of ρ s x _ c1 k1 h)

theorem Sh.lens_val (ρ : Nat → Nat) (s : Sh) {R : Type} (x : s.add R) (k : R → Prop) (v : Value) (hv : tVal G (s.enc ρ x).1 v) (h : s.lensK x k) : k (s.enc ρ x).2 := by
  cases s with
  | el e =>
    cases e with
    | rd e => obtain ⟨A, c, _, h1, h2, _⟩ := hv; exact h (Nat.le_trans h1 h2)
    | cons e es => obtain ⟨cs, _, hc⟩ := hv; exact Sh.lens_of (G := G) ρ (.el (.cons e es)) x k cs hc h
    | _ => exact h
  | lend e => obtain ⟨A, c, _, h1, h2, _⟩ := hv; exact h (Nat.le_trans h1 h2)
  | rp e => obtain ⟨_, b, o, css, _, _, _, _, c1, c2, _, k1, _⟩ := hv; exact El.lens_of e x.1 _ _ _ c1 k1 h
  | cons s ss => obtain ⟨cs, _, hc⟩ := hv; exact Sh.lens_of (G := G) ρ (.cons s ss) x k cs hc h
  | _ => exact h

theorem Sh.lenss_of (ρ : Nat → Nat) : ∀ (ss : List Sh) {R : Type} (x : Sh.adds ss R) (k : R → Prop) (vs : List Value), frOk G (Sh.encs ρ ss x).1 ⟨vs⟩ → Sh.lenssK ss x k → k (Sh.encs ρ ss x).2
  | [], _, _, _, _, _, h => h
  | s :: ss, _, x, k, vs, hf, h => by
    cases vs with
    | nil => have := hf.1; simp [Sh.encs] at this
    | cons v vs =>
      obtain ⟨h1, h2⟩ := frOk_cons.1 hf
      exact Sh.lenss_of ρ ss _ k vs h2 (Sh.lens_val ρ s x _ v h1 h)

theorem CSh.lenss_of (ρ : Nat → Nat) : ∀ (cs : List (Nat × CSh)) {R : Type} (x : CSh.adds cs R) (k : R → Prop), (∀ q c, (q, c) ∈ (CSh.encs ρ cs x).1 → ∃ b, chunkOk G c b) → CSh.lenssK cs x k → k (CSh.encs ρ cs x).2
  | [], _, _, _, _, h => h
  | (q, c) :: cs, _, x, k, hc, h => by
    refine CSh.lenss_of ρ cs _ k (fun q' c' hm => hc q' c' (by simp [CSh.encs, hm])) ?_
    obtain ⟨b, hb⟩ := hc (ρ q) _ (by simp only [CSh.encs]; exact List.mem_cons_self ..)
    cases c with
    | row ty e =>
      obtain ⟨A, c, _, h1, h2, _⟩ := own_row hb
      exact h (Nat.le_trans h1 h2)
    | own s =>
      obtain ⟨_, cs', ty, _, k3⟩ := hb
      exact Sh.lens_of ρ s x _ cs' k3 h

theorem ghK_out {cs : List (Nat × CSh)} {ss : List Sh} {x : Gh cs ss} {K : Prop} {n : Nat} {vs : List Value} (hm : Mdl w0 F0 G (CSh.encs id cs x).1 n) (hf : frOk G (Sh.encs id ss (CSh.encs id cs x).2).1 ⟨vs⟩) (h : ghK cs ss x K) : K := by
  have h1 := CSh.lenss_of id cs x _ (fun q c hqc => (hm.chunk q c hqc).imp fun b hb => hb.2) h
  exact Sh.lenss_of id ss _ _ vs hf h1

/-! What stays, from the function's start on. -/
structure Since (na : Nat) (G G' : Cx) : Prop where
  ext : Ext0 G G'
  rho : ∀ q, q < na → ∀ b, G.rho q = some b → G'.rho q = some b
theorem Since.refl (na : Nat) (G : Cx) : Since na G G := ⟨Ext0.refl G, fun _ _ _ h => h⟩
theorem Since.trans {na : Nat} {G G' G2 : Cx} (h : Since na G G') (k : Since na G' G2) : Since na G G2 := ⟨h.ext.trans k.ext, fun q hq b hb => k.rho q hq b (h.rho q hq b hb)⟩
theorem Ext.since {na : Nat} {G G' : Cx} (h : Ext G G') : Since na G G' := ⟨h.zero, fun q _ b hb => h.rho q b hb⟩

theorem tt_of {b : Bool} {G : Cx} {v : Value} (h : tVal G (.v (.bool b)) v) : tVal G (.v (if b then .tt else .ff)) v := by
  cases b <;> exact h

/-- A guard, told apart. -/
theorem guardK_out {ops : List Oper} {fr : List T} {g : Option (Nat × Bool)} {yes no : List T → Prop} {vs : Array Value} (hf : frOk G fr vs) (h : guardK ops fr g yes no) :
    (g = none ∧ yes fr) ∨ (∃ j want d, g = some (j, want) ∧ (ops[j]?).bind (·.dst) = some d ∧ vs[d]? = some undef ∧ no fr) ∨ ∃ j want d b fr', g = some (j, want) ∧ (ops[j]?).bind (·.dst) = some d ∧ vs[d]? = some (.bool b) ∧ frOk G fr' vs ∧ (if b = want then yes fr' else no fr') := by
  unfold guardK at h
  split at h
  · exact .inl ⟨rfl, h⟩
  · next j want =>
    obtain ⟨d, hd, h2⟩ := slotK_out h
    obtain ⟨x, hx, h3⟩ := lgetK_out h2
    obtain ⟨v, hv, hvt⟩ := hf.2 d x hx
    by_cases hx0 : x = .tup .nil
    · subst hx0
      obtain ⟨vs', hv', rfl⟩ := hvt
      exact .inr (.inl ⟨j, want, d, rfl, hd, by rw [hv, hv']; rfl, h3⟩)
    refine .inr (.inr ⟨j, want, d, ?_⟩)
    split at h3
    · have hvt : v = .bool true := hvt
      exact ⟨true, fr, rfl, hd, by rw [hv, hvt], hf, by cases want <;> simpa using h3⟩
    · have hvt : v = .bool false := hvt
      exact ⟨false, fr, rfl, hd, by rw [hv, hvt], hf, by cases want <;> simpa using h3⟩
    · next b =>
      have hvt : v = .bool b := hvt
      subst hvt
      have hset : ∀ y : T, tVal G y (.bool b) → frOk G (fr.set d y) vs := fun y hy => by
        have hdl : d < vs.size := (Array.getElem?_eq_some_iff.1 hv).1
        have := hf.set (i := d) (t := y) (v := .bool b) hy
        rwa [show vs.setIfInBounds d (.bool b) = vs from by
          apply Array.ext'
          have hg : vs[d] = .bool b := (Array.getElem?_eq_some_iff.1 hv).2
          rw [Array.setIfInBounds_def, dif_pos hdl, ← hg]
          simp] at this
      cases b with
      | true =>
        cases want with
        | true =>
          obtain ⟨_, h4⟩ := lsetK_out (h3.1 rfl)
          exact ⟨true, _, rfl, hd, hv, hset (.v .tt) rfl, by simpa using h4⟩
        | false =>
          obtain ⟨_, h4⟩ := lsetK_out (h3.1 rfl)
          exact ⟨true, _, rfl, hd, hv, hset (.v .tt) rfl, by simpa using h4⟩
      | false =>
        cases want with
        | true =>
          obtain ⟨_, h4⟩ := lsetK_out (h3.2 rfl)
          exact ⟨false, _, rfl, hd, hv, hset (.v .ff) rfl, by simpa using h4⟩
        | false =>
          obtain ⟨_, h4⟩ := lsetK_out (h3.2 rfl)
          exact ⟨false, _, rfl, hd, hv, hset (.v .ff) rfl, by simpa using h4⟩
    · exact (hx0 rfl).elim
    · exact h3.elim

theorem putK_frame {fr : List T} {dst : Option Tmp} {x : T} {k : List T → Prop} {a : Act} {v : Value} (hf : frOk G fr a.tmps) (hv : tVal G x v) (h : putK fr dst x k) : ∃ fr', k fr' ∧ frOk G fr' (a.put dst v).tmps := by
  unfold putK at h
  cases dst with
  | none => exact ⟨fr, h, hf⟩
  | some d =>
    obtain ⟨h1, h2⟩ := lsetK_out h
    exact ⟨_, h2, hf.set hv⟩

theorem ops_ok (hE : EnvOk P E) {ops : Array Oper} {Q : Exit → Act → World → Prop} {k : List T → Hp → Nat → Prop} {G0 : Cx} {ds : List Deferred}
    (hQ : ∀ a G fr hp nx, Mdl w0 F0 G hp nx → Ext G0 G → frOk G fr a.tmps → a.defers = ds → k fr hp nx → Q .normal a G.w) :
    ∀ (os : List Oper) (i : Nat), (∀ j, ops.toList[i + j]? = os[j]?) → ∀ (fr : List T) (hp : Hp) (nx : Nat) (a : Act) (G : Cx), Mdl w0 F0 G hp nx → Ext G0 G → frOk G fr a.tmps → a.defers = ds →
      denOps E ops.toList os fr hp nx k → wpOps P ops Q (List.range' i os.length) a G.w
  | [], i, _, fr, hp, nx, a, G, hm, hx, hf, hds, h => hQ a G fr hp nx hm hx hf hds h
  | o :: os, i, hi, fr, hp, nx, a, G, hm, hx, hf, hds, h => by
    have ho : ops[i]? = some o := by have := hi 0; simpa using this
    have hrest : ∀ j, ops.toList[i + 1 + j]? = os[j]? := fun j => by
      have := hi (j + 1)
      rw [show i + 1 + j = i + (j + 1) by omega]
      simpa using this
    have ih := ops_ok hE hQ os (i + 1) hrest
    rw [List.length_cons, List.range'_succ, wpOps_cons]
    unfold wpOp
    rw [ho]
    simp only []
    have yes : ∀ fr : List T, frOk G fr a.tmps → (denOp E o.op fr hp nx fun x hp nx => putK fr o.dst x fun fr => denOps E ops.toList os fr hp nx k) → o.wp P a G.w (wpOps P ops Q (List.range' (i + 1) os.length)) Q := fun fr hf h =>
      op_ok hE hm hf h _ Q fun G' x v hp' nx' hx' hm' hv hk => by
        obtain ⟨fr', h2, hf'⟩ := putK_frame (hf.ext hx') hv hk
        exact ih fr' hp' nx' _ G' hm' (hx.trans hx') hf' (put_defs.trans hds) h2
    have no : ∀ fr : List T, frOk G fr a.tmps → (putK fr o.dst (.tup .nil) fun fr => denOps E ops.toList os fr hp nx k) → wpOps P ops Q (List.range' (i + 1) os.length) (a.put o.dst undef) G.w := fun fr hf h => by
      obtain ⟨fr', h2, hf'⟩ := putK_frame (x := .tup .nil) (v := undef) hf ⟨[], rfl, rfl⟩ h
      exact ih fr' hp nx _ G hm hx hf' (put_defs.trans hds) h2
    have h : guardK ops.toList fr o.guard (fun fr => denOp E o.op fr hp nx fun x hp nx => putK fr o.dst x fun fr => denOps E ops.toList os fr hp nx k) (fun fr => putK fr o.dst (.tup .nil) fun fr => denOps E ops.toList os fr hp nx k) := h
    rcases guardK_out hf h with ⟨h1, h2⟩ | ⟨j, want, d, h1, h2, h3, h4⟩ | ⟨j, want, d, b, fr', h1, h2, h3, h4, h5⟩
    · rw [if_pos (by simp [Region.wanted, h1])]
      exact .inl (yes fr hf h2)
    · have hw : Region.wanted o (yielded ops a.tmps) = false := by
        have h2' : (ops[j]?).bind (·.dst) = some d := by simpa using h2
        have hy : yielded ops a.tmps j = none := by
          unfold yielded
          rw [h2', Option.bind_some, h3]
          rfl
        simp only [Region.wanted, h1, hy]
        rfl
      rw [hw]
      rw [if_neg (by simp)]
      exact no fr hf h4
    · have hy : yielded ops a.tmps j = some b := by
        have h2' : (ops[j]?).bind (·.dst) = some d := by simpa using h2
        unfold yielded
        rw [h2', Option.bind_some, h3]
      have hw : Region.wanted o (yielded ops a.tmps) = (b == want) := by
        simp only [Region.wanted, h1, hy]
        cases b <;> cases want <;> rfl
      rw [hw]
      by_cases hb : b = want
      · subst hb
        rw [if_pos rfl] at h5
        rw [if_pos (by simp)]
        exact .inl (yes fr' h4 h5)
      · rw [if_neg hb] at h5
        rw [if_neg (by simpa using hb)]
        exact no fr' h4 h5

theorem getsK_out {fr : List T} {vs : Array Value} (hf : frOk G fr vs) : ∀ {l : List (Nat × Sh)} {k : List T → Prop}, getsK fr l k → ∃ ts, k ts ∧ frOk G ts ⟨l.map fun p => vs.getD p.1 undef⟩
  | [], k, h => ⟨[], h, rfl, fun i t ht => by simp at ht⟩
  | (i, s) :: l, k, h => by
    obtain ⟨t, ht, h1⟩ := lgetK_out h
    obtain ⟨ts, h2, hts⟩ := getsK_out hf (l := l) (k := fun ts => k (t :: ts)) h1
    obtain ⟨v, hv, hvt⟩ := hf.2 i t ht
    refine ⟨_, h2, ?_⟩
    rw [List.map_cons]
    refine frOk_cons.2 ⟨?_, hts⟩
    have : vs.getD i undef = v := by simp [Array.getD, (Array.getElem?_eq_some_iff.1 hv).1, (Array.getElem?_eq_some_iff.1 hv).2]
    rw [this]
    exact hvt

theorem anys_eq : ∀ fr : List T, anys fr = List.replicate fr.length (.v .any)
  | [] => rfl
  | _ :: l => by simp [anys, anys_eq l, List.replicate_succ]

theorem frOk_anys {fr : List T} {vs : Array Value} (h : fr.length = vs.size) : frOk G (anys fr) vs := by
  rw [anys_eq]
  refine ⟨by simpa using h, fun i t ht => ?_⟩
  have hi := (List.getElem?_eq_some_iff.1 ht).1
  simp at hi
  simp [List.getElem?_replicate, hi] at ht
  subst ht
  exact ⟨vs[i]'(by omega), by simp [show i < vs.size by omega], trivial⟩

theorem setsK_out {vs : Array Value} : ∀ {l : List (Nat × Sh)} {ts : List T} {fr : List T} {k : List T → Prop}, frOk G fr vs → frOk G ts ⟨l.map fun p => vs.getD p.1 undef⟩ → setsK fr l ts k → ∃ fr', k fr' ∧ frOk G fr' vs
  | [], ts, fr, k, hf, _, h => ⟨fr, by cases ts <;> exact h, hf⟩
  | _ :: _, [], _, _, _, _, h => h.elim
  | (i, s) :: l, t :: ts, fr, k, hf, ht, h => by
    obtain ⟨h1, h2⟩ := lsetK_out h
    rw [List.map_cons] at ht
    obtain ⟨k1, k2⟩ := frOk_cons.1 ht
    refine setsK_out ?_ k2 h2
    have hlt : i < vs.size := by rw [← hf.1]; exact h1
    have := hf.set (i := i) (t := t) (v := vs.getD i undef) k1
    rwa [show vs.setIfInBounds i (vs.getD i undef) = vs from by
      apply Array.ext'
      rw [Array.setIfInBounds_def, dif_pos hlt]
      simp [Array.getD, hlt]] at this

end
end Go.J
