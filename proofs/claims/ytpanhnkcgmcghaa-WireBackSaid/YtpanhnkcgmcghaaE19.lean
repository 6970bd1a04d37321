/-
  THE ENGINE, part 19: where the order is drawn: every order is fine.
-/
import Derived.Test.YtpanhnkcgmcghaaE18
set_option linter.unusedSimpArgs false
set_option linter.unusedVariables false
set_option linter.unusedSectionVars false

namespace Go.J

section
variable {P : Program} {E : Env} {w0 : World} {F0 : Base} {ops : Array Oper} {G0 : Cx} {ds : List Deferred}

theorem valK_congr {o : Op} {fr fr2 : List T} {hp : Hp} {k : T → Prop} (h : valK E o fr hp k) (ha : Agree o.operands.toList fr fr2) : valK E o fr2 hp k := den_congr h ha
theorem noNilP_congr {o : Op} {fr fr2 : List T} (h : noNilP o fr) (ha : Agree o.operands.toList fr fr2) : noNilP o fr2 := by
  cases o <;> first | exact trivial | skip
  exact evalK_congr h (fun t ht => ha t (by simp [Op.operands, ht])) fun _ h => h

theorem looks_agree {opl : List Oper} {o : Oper} {fr fr2 : List T} (h : ∀ t, t ∈ looks opl o → fr2[t]? = fr[t]?) : Agree o.op.operands.toList fr fr2 := fun t ht => h t (mem_looks.2 (.inl ht))

theorem valK_mono {o : Op} {fr : List T} {hp : Hp} {k k' : T → Prop} (hv : valueOp o = true) (hn : noNilP o fr) (h : valK E o fr hp k) (hk : ∀ x, k x → k' x) : valK E o fr hp k' := by
  obtain ⟨x, h1, h2⟩ := valK_det hv hn _ h
  exact h2 _ (hk x h1)

/-- What a value that was taken ahead is, is what it will be. -/
def Stab (E : Env) (opl : List Oper) (o : Oper) (fr : List T) (hp : Hp) : Prop :=
  gateK opl fr o.guard (noNilP o.op fr ∧ ∃ x, valK E o.op fr hp (fun y => Ref y x) ∧ ∀ d, o.dst = some d → fr[d]? = some x) (∀ d, o.dst = some d → fr[d]? = some (.tup .nil))

structure Inv (E : Env) (w0 : World) (F0 : Base) (G0 : Cx) (ds : List Deferred) (ops : Array Oper) (listed : Array Bool) (m : Nat) (fr : List T) (hp : Hp) (nx : Nat) (a : Act) (G : Cx) : Prop where
  mdl : Mdl w0 F0 G hp nx
  ext : Ext G0 G
  defs : a.defers = ds
  size : listed.size = ops.size
  sub : ∀ i, listed.getD i false = true → m.testBit i = true
  lt : ∀ i, m.testBit i = true → i < ops.size
  low : Below ops.toList fun i => listed.getD i false = true
  lowM : Below ops.toList fun i => m.testBit i = true
  val : ∀ i o, ops.toList[i]? = some o → m.testBit i = true → listed.getD i false = false → valueOp o.op = true
  len : fr.length = a.tmps.size
  frame : ∀ (t : Nat) (x : T), fr[t]? = some x → (∀ i o, ops.toList[i]? = some o → m.testBit i = true → listed.getD i false = false → o.dst ≠ some t) → ∃ v : Value, a.tmps[t]? = some v ∧ tVal G x v
  stab : ∀ i o, ops.toList[i]? = some o → m.testBit i = true → listed.getD i false = false → Stab E ops.toList o fr hp

def unl (ops : Array Oper) (listed : Array Bool) : Nat := ((List.range ops.size).filter fun i => !listed.getD i true).length

theorem getD_both {listed : Array Bool} {i n : Nat} (hs : listed.size = n) (hi : i < n) : listed.getD i true = listed.getD i false := by
  simp [Array.getD, hs, hi]

theorem filter_lt {p q : Nat → Bool} {i : Nat} : ∀ {l : List Nat}, (∀ x ∈ l, q x = true → p x = true) → i ∈ l → p i = true → q i = false → (l.filter q).length < (l.filter p).length
  | [], _, h, _, _ => by simp at h
  | x :: l, hpq, hi, hp, hq => by
    have hle : (l.filter q).length ≤ (l.filter p).length := by
      clear hi
      induction l with
      | nil => simp
      | cons y l ih =>
        have h2 := ih (fun z hz => hpq z (by simp at hz ⊢; rcases hz with hz | hz; exact .inl hz; exact .inr (.inr hz)))
        have h3 := hpq y (by simp)
        by_cases hqy : q y = true
        · simp [List.filter_cons, hqy, h3 hqy]; omega
        · simp only [List.filter_cons, hqy]
          by_cases hpy : p y = true <;> simp [hpy] <;> omega
    rcases List.mem_cons.1 hi with rfl | hi
    · simp [List.filter_cons, hp, hq]; omega
    · have := filter_lt (l := l) (fun z hz => hpq z (by simp [hz])) hi hp hq
      by_cases hqx : q x = true
      · simp [List.filter_cons, hqx, hpq x (by simp) hqx]; omega
      · simp only [List.filter_cons, hqx]
        by_cases hpx : p x = true <;> simp [hpx] <;> omega

theorem unl_set {listed : Array Bool} {i : Nat} (hi : i < ops.size) (hs : listed.size = ops.size) (hl : listed.getD i true = false) : unl ops (listed.setIfInBounds i true) < unl ops listed := by
  refine filter_lt (i := i) (fun x hx hq => ?_) (by simpa using hi) (by simp [hl]) ?_
  · by_cases hxi : i = x
    · subst hxi; simp [hl]
    · rwa [getD_set_ne true hxi] at hq
  · simp [hs, hi]

theorem nextV_out {m : Nat} : ∀ {os : List Oper} {i0 i : Nat} {o : Oper}, nextV m os i0 = some (i, o) → ∃ j, i = i0 + j ∧ os[j]? = some o ∧ m.testBit i = false ∧ valueOp o.op = true ∧ bindsAll m o.after.toList = true
  | [], _, _, _, h => by simp [nextV] at h
  | x :: os, i0, i, o, h => by
    unfold nextV at h
    split at h
    · next hb =>
      simp only [Bool.and_eq_true, Bool.not_eq_true'] at hb
      simp only [Option.some.injEq, Prod.mk.injEq] at h
      obtain ⟨rfl, rfl⟩ := h
      exact ⟨0, rfl, rfl, hb.1.1, hb.1.2, hb.2⟩
    · obtain ⟨j, h1, h2, h3⟩ := nextV_out h
      exact ⟨j + 1, by omega, by simpa using h2, h3⟩
theorem nextV_none {m : Nat} : ∀ {os : List Oper} {i0 : Nat}, nextV m os i0 = none → ∀ (j : Nat) (o : Oper), os[j]? = some o → m.testBit (i0 + j) = false → bindsAll m o.after.toList = true → valueOp o.op = false
  | [], _, _, _, _, h, _, _ => by simp at h
  | x :: os, i0, h, j, o, hj, hm, hb => by
    unfold nextV at h
    split at h
    · cases h
    · next hn =>
      cases j with
      | zero =>
        simp at hj
        subst hj
        rw [Nat.add_zero] at hm
        simpa [hm, hb] using hn
      | succ j => exact nextV_none h j o (by simpa using hj) (by rwa [show i0 + 1 + j = i0 + (j + 1) by omega]) hb
theorem readyE_mem {m : Nat} : ∀ {os : List Oper} {i0 j : Nat} {o : Oper}, os[j]? = some o → m.testBit (i0 + j) = false → bindsAll m o.after.toList = true → (i0 + j, o) ∈ readyE m os i0
  | [], _, _, _, h, _, _ => by simp at h
  | x :: os, i0, j, o, hj, hm, hb => by
    unfold readyE
    cases j with
    | zero =>
      simp at hj
      subst hj
      rw [Nat.add_zero] at hm
      simp [hm, hb]
    | succ j =>
      have := readyE_mem (i0 := i0 + 1) (j := j) (os := os) (by simpa using hj) (by rwa [show i0 + 1 + j = i0 + (j + 1) by omega]) hb
      rw [show i0 + 1 + j = i0 + (j + 1) by omega] at this
      split
      · simp [this]
      · exact this
theorem readyE_out {m : Nat} : ∀ {os : List Oper} {i0 : Nat} {p : Nat × Oper}, p ∈ readyE m os i0 → ∃ j, p.1 = i0 + j ∧ os[j]? = some p.2 ∧ m.testBit p.1 = false ∧ bindsAll m p.2.after.toList = true
  | [], _, _, h => by simp [readyE] at h
  | x :: os, i0, p, h => by
    unfold readyE at h
    split at h
    · next hb =>
      simp only [Bool.and_eq_true, Bool.not_eq_true'] at hb
      rcases List.mem_cons.1 h with rfl | h
      · exact ⟨0, rfl, rfl, hb.1, hb.2⟩
      · obtain ⟨j, h1, h2, h3⟩ := readyE_out h
        exact ⟨j + 1, by omega, by simpa using h2, h3⟩
    · obtain ⟨j, h1, h2, h3⟩ := readyE_out h
      exact ⟨j + 1, by omega, by simpa using h2, h3⟩

theorem bindsAll_iff {m : Nat} : ∀ {es : List Edge}, bindsAll m es = true ↔ ∀ e ∈ es, Region.binds .any e = true → m.testBit e.on = true
  | [] => by simp [bindsAll]
  | e :: es => by
    simp only [bindsAll, Bool.and_eq_true, Bool.or_eq_true, Bool.not_eq_true', bindsAll_iff (es := es), List.mem_cons, forall_eq_or_imp]
    constructor
    · rintro ⟨h1, h2⟩
      exact ⟨fun hb => h1.resolve_left (by simp [hb]), h2⟩
    · rintro ⟨h1, h2⟩
      refine ⟨?_, h2⟩
      cases hb : Region.binds .any e
      · exact .inl rfl
      · exact .inr (h1 hb)

theorem forkK_out {f : Nat → Oper → Prop} : ∀ {l : List (Nat × Oper)} {j : Nat} {o : Oper}, forkK l f → (j, o) ∈ l → f j o
  | [], _, _, _, h => by simp at h
  | (j', o') :: l, j, o, h, hm => by
    rcases List.mem_cons.1 hm with hm | hm
    · cases hm; exact h.1
    · exact forkK_out h.2 hm

theorem recheckK_out {opl : List Oper} {m anc : Nat} {fr : List T} {hp : Hp} {nx : Nat} {k : Prop} : ∀ {os : List Oper} {i0 : Nat}, recheckK E opl m anc fr hp nx k os i0 →
    k ∧ ∀ (j : Nat) (o : Oper), os[j]? = some o → m.testBit (i0 + j) = true → anc.testBit (i0 + j) = false → valueOp o.op = true → readsHp o.op = true →
      ∃ d, o.dst = some d ∧ gateK opl fr o.guard (denOp E o.op fr hp nx fun y _ _ => lgetK fr d fun x => sameK y x) True
  | [], _, h => ⟨h, fun j o hj => by simp at hj⟩
  | x :: os, i0, h => by
    unfold recheckK at h
    split at h
    · next hb =>
      obtain ⟨h1, h2⟩ := h
      obtain ⟨hk, hr⟩ := recheckK_out h2
      refine ⟨hk, fun j o hj hm ha hv hrd => ?_⟩
      cases j with
      | zero =>
        simp at hj
        subst hj
        split at h1
        · exact h1.elim
        · next d hd => exact ⟨d, hd, h1⟩
      | succ j => exact hr j o (by simpa using hj) (by rwa [show i0 + 1 + j = i0 + (j + 1) by omega]) (by rwa [show i0 + 1 + j = i0 + (j + 1) by omega]) hv hrd
    · next hb =>
      obtain ⟨hk, hr⟩ := recheckK_out h
      refine ⟨hk, fun j o hj hm ha hv hrd => ?_⟩
      cases j with
      | zero =>
        simp at hj
        subst hj
        rw [Nat.add_zero] at hm ha
        simp [hm, ha, hv, hrd] at hb
      | succ j => exact hr j o (by simpa using hj) (by rwa [show i0 + 1 + j = i0 + (j + 1) by omega]) (by rwa [show i0 + 1 + j = i0 + (j + 1) by omega]) hv hrd

theorem testBit_set {m i j : Nat} : (m ||| 2 ^ i).testBit j = (m.testBit j || decide (i = j)) := by
  rw [Nat.testBit_or, Nat.testBit_two_pow]


theorem put_get {a : Act} {dst : Option Tmp} {v : Value} {t : Nat} (h : dst ≠ some t) : (a.put dst v).tmps[t]? = a.tmps[t]? := by
  cases dst with
  | none => rfl
  | some d => simp only [Act.put]; rw [Array.getElem?_setIfInBounds_ne (fun e => h (by rw [e]))]
theorem put_at {a : Act} {dst : Option Tmp} {v : Value} {t : Nat} (h : dst = some t) (ht : t < a.tmps.size) : (a.put dst v).tmps[t]? = some v := by
  subst h
  simp [Act.put, ht]
theorem put_size {a : Act} {dst : Option Tmp} {v : Value} : (a.put dst v).tmps.size = a.tmps.size := by
  cases dst <;> simp [Act.put]
theorem put_defs {a : Act} {dst : Option Tmp} {v : Value} : (a.put dst v).defers = a.defers := by
  cases dst <;> rfl

/-- The frame with the values that were taken ahead left out. -/
theorem frame_out {listed : Array Bool} {m : Nat} {fr : List T} {hp : Hp} {nx : Nat} {a : Act} {G : Cx} (h : Inv E w0 F0 G0 ds ops listed m fr hp nx a G) :
    ∃ fr2, frOk G fr2 a.tmps ∧ ∀ t, (∀ i o, ops.toList[i]? = some o → m.testBit i = true → listed.getD i false = false → o.dst ≠ some t) → fr2[t]? = fr[t]? := by
  classical
  refine ⟨fr.mapIdx fun t x => if (∀ i o, ops.toList[i]? = some o → m.testBit i = true → listed.getD i false = false → o.dst ≠ some t) then x else .v .any, ⟨by simp [h.len], fun t x ht => ?_⟩, fun t ht => ?_⟩
  · rw [List.getElem?_mapIdx] at ht
    cases hx : fr[t]? with
    | none => simp [hx] at ht
    | some y =>
      simp only [hx, Option.map_some, Option.some.injEq] at ht
      split at ht
      · next hD =>
        subst ht
        exact h.frame t y hx hD
      · subst ht
        have hlt : t < a.tmps.size := by rw [← h.len]; exact (List.getElem?_eq_some_iff.1 hx).1
        exact ⟨a.tmps[t], by simp [hlt], trivial⟩
  · rw [List.getElem?_mapIdx]
    cases hx : fr[t]? with
    | none => rfl
    | some y => rw [Option.map_some, if_pos ht]

/-- Who is about to be run looks at nothing that was taken ahead. -/
theorem looks_free (hok : DrawOk ops.toList (ancs ops.toList [])) {listed : Array Bool} {m : Nat} {fr : List T} {hp : Hp} {nx : Nat} {a : Act} {G : Cx} (h : Inv E w0 F0 G0 ds ops listed m fr hp nx a G) {j : Nat} {o : Oper} (hj : ops.toList[j]? = some o)
    (hd : ∀ e ∈ o.after.toList, Region.binds .any e = true → listed.getD e.on false = true) {t : Nat} (ht : t ∈ looks ops.toList o) :
    ∀ i o', ops.toList[i]? = some o' → m.testBit i = true → listed.getD i false = false → o'.dst ≠ some t := by
  intro i o' hi hm hl hdst
  by_cases hij : j = i
  · subst hij
    rw [hj] at hi
    cases hi
    exact hok.self j o t hj hdst ht
  · rcases hok.look j i o o' t hj hi hij hdst ht with h1 | ⟨h1, _⟩
    · have := anc_ready h.low hj h1 hd
      rw [hl] at this
      cases this
    · rw [h.val i o' hi hm hl] at h1
      cases h1

/-- The guard as the machine reads it. -/
theorem wanted_of {listed : Array Bool} {m : Nat} {fr : List T} {hp : Hp} {nx : Nat} {a : Act} {G : Cx} (h : Inv E w0 F0 G0 ds ops listed m fr hp nx a G) {o : Oper} {yes no : Prop} (hg : gateK ops.toList fr o.guard yes no)
    (hfree : ∀ t, t ∈ looks ops.toList o → ∀ i o', ops.toList[i]? = some o' → m.testBit i = true → listed.getD i false = false → o'.dst ≠ some t) :
    (Region.wanted o (yielded ops a.tmps) = true ∧ yes) ∨ (Region.wanted o (yielded ops a.tmps) = false ∧ no) := by
  rcases gateK_out hg with ⟨h1, h2⟩ | ⟨j, want, d, b, h1, h2, h3, h4⟩
  · exact .inl ⟨by simp [Region.wanted, h1], h2⟩
  · obtain ⟨v, hv, hvt⟩ := h.frame d _ h3 (hfree d (mem_looks.2 (.inr ⟨j, want, h1, h2⟩)))
    have h2' : (ops[j]?).bind (·.dst) = some d := by simpa using h2
    have hy : yielded ops a.tmps j = b := by
      unfold yielded
      rw [h2', Option.bind_some, hv]
      rcases b with _ | b
      · obtain ⟨vs, rfl, rfl⟩ := hvt
        rfl
      · have hvb : v = .bool b := by cases b <;> exact hvt
        subst hvb
        rfl
    have hw : Region.wanted o (yielded ops a.tmps) = (b == some want) := by
      simp only [Region.wanted, h1, hy]
    rw [hw]
    by_cases hb : b = some want
    · subst hb; exact .inl ⟨by simp, by simpa using h4⟩
    · exact .inr ⟨by simpa using hb, by simpa [hb] using h4⟩

/-- A value that was taken ahead is made. -/
theorem step_ahead (hE : EnvOk P E) (hok : DrawOk ops.toList (ancs ops.toList [])) {listed : Array Bool} {m : Nat} {fr : List T} {hp : Hp} {nx : Nat} {a : Act} {G : Cx} (h : Inv E w0 F0 G0 ds ops listed m fr hp nx a G)
    {i : Nat} {o : Oper} (hi : ops.toList[i]? = some o) (hm : m.testBit i = true) (hl : listed.getD i false = false) (hd : ∀ e ∈ o.after.toList, Region.binds .any e = true → listed.getD e.on false = true) {K : Act → World → Prop} {Q : Exit → Act → World → Prop}
    (hK : ∀ a' G', Inv E w0 F0 G0 ds ops (listed.setIfInBounds i true) m fr hp nx a' G' → K a' G'.w) : wpOp P ops Q i K a G.w := by
  have hlt : i < ops.size := h.lt i hm
  have hfree := fun t ht => looks_free hok h hi hd (t := t) ht
  have hold : ∀ j, (listed.setIfInBounds i true).getD j false = true ↔ (j = i ∨ listed.getD j false = true) := fun j => by
    by_cases hji : i = j
    · subst hji; simp [h.size, hlt]
    · rw [getD_set_ne false hji]; simp [Ne.symm hji]
  have hnew : ∀ j, (listed.setIfInBounds i true).getD j false = false ↔ (j ≠ i ∧ listed.getD j false = false) := fun j => by
    have := hold j
    cases h1 : (listed.setIfInBounds i true).getD j false <;> cases h2 : listed.getD j false <;> simp_all
  have done : ∀ (v : Value) (G' : Cx), Ext G G' → Mdl w0 F0 G' hp nx → (∀ d, o.dst = some d → ∀ x, fr[d]? = some x → tVal G' x v) → K (a.put o.dst v) G'.w := by
    intro v G' hx hmd hv
    refine hK _ G' ⟨hmd, h.ext.trans hx, put_defs.trans h.defs, by simp [h.size], fun j hj => ?_, h.lt, ?_, h.lowM, fun j o' hj hmj hlj => ?_, by rw [put_size]; exact h.len, fun t x ht hD => ?_, fun j o' hj hmj hlj => h.stab j o' hj hmj ((hnew j).1 hlj).2⟩
    · rcases (hold j).1 hj with rfl | hj
      · exact hm
      · exact h.sub j hj
    · intro j o' hj hlj e he hb
      refine (hold e.on).2 ?_
      rcases (hold j).1 hlj with rfl | hlj
      · rw [hi] at hj
        cases hj
        exact .inr (hd e he hb)
      · exact .inr (h.low j o' hj hlj e he hb)
    · exact h.val j o' hj hmj ((hnew j).1 hlj).2
    · by_cases hdt : o.dst = some t
      · have htl : t < a.tmps.size := by rw [← h.len]; exact (List.getElem?_eq_some_iff.1 ht).1
        exact ⟨v, put_at hdt htl, hv t hdt x ht⟩
      · obtain ⟨v', hv', hvt⟩ := h.frame t x ht fun j o' hj hmj hlj => by
          by_cases hji : j = i
          · subst hji
            rw [hi] at hj
            cases hj
            exact hdt
          · exact hD j o' hj hmj ((hnew j).2 ⟨hji, hlj⟩)
        exact ⟨v', (put_get hdt).trans hv', hx.tVal hvt⟩
  have hst := h.stab i o hi hm hl
  unfold wpOp
  rw [show ops[i]? = some o by simpa using hi]
  simp only []
  rcases wanted_of h hst hfree with ⟨hw, hn, x, hval, hx⟩ | ⟨hw, hno⟩
  · rw [if_pos hw]
    left
    obtain ⟨fr2, hf2, hag⟩ := frame_out h
    have hagr : Agree o.op.operands.toList fr fr2 := looks_agree (opl := ops.toList) fun t ht => hag t (hfree t ht)
    have hv := h.val i o hi hm hl
    have hval2 := valK_congr hval hagr
    have hn2 := noNilP_congr hn hagr
    have hden : denOp E o.op fr2 hp nx (fun y hp' nx' => hp' = hp ∧ nx' = nx ∧ Ref y x) := by
      rw [val_same hv]
      exact valK_mono hv hn2 hval2 fun y hy => ⟨rfl, rfl, hy⟩
    refine op_ok hE h.mdl hf2 hden _ Q fun G' y v hp' nx' hx' hmd hvt ⟨e1, e2, hr⟩ => ?_
    subst e1 e2
    exact done v G' hx' hmd fun d hd' x' hx2 => by
      rw [hx d hd'] at hx2
      cases hx2
      exact hr G' v hvt
  · rw [if_neg (by simp [hw])]
    exact done undef G (Ext.refl G) h.mdl fun d hd' x' hx2 => by
      rw [hno d hd'] at hx2
      cases hx2
      exact ⟨[], rfl, rfl⟩

end
end Go.J
