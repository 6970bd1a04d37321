/-
  THE ENGINE, part 20: where the order is drawn: the region.
-/
import Derived.Test.YtpanhnkcgmcghaaE19
set_option linter.unusedSimpArgs false
set_option linter.unusedVariables false
set_option linter.unusedSectionVars false

namespace Go.J

section
variable {P : Program} {E : Env} {w0 : World} {F0 : Base} {ops : Array Oper} {G0 : Cx} {ds : List Deferred}

theorem stab_move (hok : DrawOk ops.toList (ancs ops.toList [])) {i : Nat} {o : Oper} {fr fr' : List T} {hp : Hp} (h : Stab E ops.toList o fr hp) (ha : ∀ t, t ∈ looks ops.toList o → fr'[t]? = fr[t]?) (hd : ∀ d, o.dst = some d → fr'[d]? = fr[d]?) : Stab E ops.toList o fr' hp :=
  gateK_congr h ha (fun ⟨hn, x, hv, hx⟩ => ⟨noNilP_congr hn (looks_agree ha), x, valK_congr hv (looks_agree ha), fun d hd' => (hd d hd').trans (hx d hd')⟩) fun hn d hd' => (hd d hd').trans (hn d hd')

/-- A value is taken ahead. -/
theorem take_ahead (hok : DrawOk ops.toList (ancs ops.toList [])) {listed : Array Bool} {m : Nat} {fr fr' : List T} {hp : Hp} {nx : Nat} {a : Act} {G : Cx} (h : Inv E w0 F0 G0 ds ops listed m fr hp nx a G)
    {i : Nat} {o : Oper} (hi : ops.toList[i]? = some o) (hm : m.testBit i = false) (hv : valueOp o.op = true) (hb : ∀ e ∈ o.after.toList, Region.binds .any e = true → m.testBit e.on = true)
    (hlen : fr'.length = fr.length) (hsame : ∀ t, o.dst ≠ some t → fr'[t]? = fr[t]?) (hst : Stab E ops.toList o fr' hp) :
    Inv E w0 F0 G0 ds ops listed (m ||| 2 ^ i) fr' hp nx a G := by
  have hlt : i < ops.size := by have := (List.getElem?_eq_some_iff.1 hi).1; simpa using this
  have hbit : ∀ j, (m ||| 2 ^ i).testBit j = true ↔ (m.testBit j = true ∨ i = j) := fun j => by rw [testBit_set]; simp
  have hli : listed.getD i false = false := by
    cases hl : listed.getD i false with
    | false => rfl
    | true => have := h.sub i hl; rw [hm] at this; cases this
  have old : ∀ j o', ops.toList[j]? = some o' → m.testBit j = true → listed.getD j false = false → Stab E ops.toList o' fr' hp := fun j o' hj hmj hlj => by
    have hji : j ≠ i := by rintro rfl; rw [hm] at hmj; cases hmj
    refine stab_move (i := j) hok (h.stab j o' hj hmj hlj) (fun t ht => hsame t fun hd => ?_) fun d hd => hsame d fun hd2 => ?_
    · rcases hok.look j i o' o t hj hi hji hd ht with h1 | ⟨h1, _⟩
      · have := anc_in h.lowM hj h1 hmj
        rw [hm] at this
        cases this
      · rw [hv] at h1; cases h1
    · have := (hok.dst j i o' o d hj hi hji hd2 hd).2
      rw [hv] at this
      cases this
  refine ⟨h.mdl, h.ext, h.defs, h.size, fun j hj => (hbit j).2 (.inl (h.sub j hj)), fun j hj => ?_, h.low, ?_, fun j o' hj hmj hlj => ?_, hlen.trans h.len, fun t x ht hD => ?_, fun j o' hj hmj hlj => ?_⟩
  · rcases (hbit j).1 hj with hj | rfl
    · exact h.lt j hj
    · exact hlt
  · intro j o' hj hmj e he hbe
    refine (hbit e.on).2 (.inl ?_)
    rcases (hbit j).1 hmj with hmj | rfl
    · exact h.lowM j o' hj hmj e he hbe
    · rw [hi] at hj
      cases hj
      exact hb e he hbe
  · rcases (hbit j).1 hmj with hmj | rfl
    · exact h.val j o' hj hmj hlj
    · rw [hi] at hj
      cases hj
      exact hv
  · have hdt : o.dst ≠ some t := hD i o hi ((hbit i).2 (.inr rfl)) hli
    rw [hsame t hdt] at ht
    exact h.frame t x ht fun j o' hj hmj hlj => hD j o' hj ((hbit j).2 (.inl hmj)) hlj
  · rcases (hbit j).1 hmj with hmj | rfl
    · exact old j o' hj hmj hlj
    · rw [hi] at hj
      cases hj
      exact hst

theorem sameB_eq {a b : Bool} (h : sameB a b = true) : a = b := by cases a <;> cases b <;> simp_all [sameB]
theorem sameL_eq : ∀ {l m : List Nat}, sameL l m = true → l = m
  | [], [], _ => rfl
  | a :: l, b :: m, h => by
    simp only [sameL, Bool.and_eq_true] at h
    rw [nat_beq_eq h.1, sameL_eq h.2]
  | [], _ :: _, h => by simp [sameL] at h
  | _ :: _, [], h => by simp [sameL] at h
theorem opAtK_out : ∀ {ops : List Oper} {i : Nat} {k : Oper → Prop}, opAtK ops i k → ∃ o, ops[i]? = some o ∧ k o
  | [], _, _, h => h.elim
  | o :: _, 0, _, h => ⟨o, rfl, h⟩
  | _ :: os, i + 1, k, h => by simpa using opAtK_out (ops := os) (i := i) h

theorem recheckL_out {opl : List Oper} {m anc : Nat} {fr : List T} {hp : Hp} {nx : Nat} {k k' : Prop} (hk : k → k') : ∀ {os : List Oper} {i0 : Nat}, (∀ (j : Nat) (o : Oper), os[j]? = some o → opl[i0 + j]? = some o) → recheckL E opl fr hp nx k (rcList opl m anc os i0) → recheckK E opl m anc fr hp nx k' os i0
  | [], _, _, h => hk h
  | x :: os, i0, hall, h => by
    have hall' : ∀ (j : Nat) (o : Oper), os[j]? = some o → opl[i0 + 1 + j]? = some o := fun j o hj => by
      have := hall (j + 1) o (by simpa using hj)
      rwa [show i0 + 1 + j = i0 + (j + 1) by omega]
    unfold rcList at h
    unfold recheckK
    split at h
    · next hb =>
      obtain ⟨o, ho, h1, h2⟩ := opAtK_out h
      have hx := hall 0 x rfl
      rw [Nat.add_zero] at hx
      rw [hx] at ho
      cases ho
      exact ⟨h1, recheckL_out hk hall' h2⟩
    · next hb =>
      exact recheckL_out hk hall' h

def Plan.size : Plan → Nat
  | .done => 1
  | .take _ _ p => p.size + 1
  | .last _ _ _ p => p.size + 1
  | .alt _ _ _ p rest => p.size + rest.size + 1

theorem gateK_mono {ops : List Oper} {fr : List T} {g : Option (Nat × Bool)} {yes no yes' no' : Prop} (h : gateK ops fr g yes no) (hy : yes → yes') (hn : no → no') : gateK ops fr g yes' no' := by
  refine gateK_mk ?_
  rcases gateK_out h with ⟨h1, h2⟩ | ⟨j, want, d, b, h1, h2, h3, h4⟩
  · exact .inl ⟨h1, hy h2⟩
  · refine .inr ⟨j, want, d, b, h1, h2, h3, ?_⟩
    split <;> simp_all
theorem normK_mono {b : Bool} {x : T} {k k' : T → Prop} (h : normK b x k) (hk : ∀ x, k x → k' x) : normK b x k' := by
  unfold normK at h ⊢
  split at h
  · exact hk _ h
  · split at h
    · exact hk _ h
    · exact hk _ h
    · exact ⟨fun e => hk _ (h.1 e), fun e => hk _ (h.2 e)⟩
    · exact h
theorem putK_mono {fr : List T} {dst : Option Tmp} {x : T} {k k' : List T → Prop} (h : putK fr dst x k) (hk : ∀ fr, k fr → k' fr) : putK fr dst x k' := by
  unfold putK at h ⊢
  split at h
  · exact hk _ h
  · obtain ⟨h1, h2⟩ := lsetK_out h
    exact lsetK_mk h1 (hk _ h2)


/-- What is no value is done, here and there. -/
theorem step_both (hE : EnvOk P E) (hok : DrawOk ops.toList (ancs ops.toList [])) {listed : Array Bool} {m : Nat} {fr : List T} {hp : Hp} {nx : Nat} {a : Act} {G : Cx} (h : Inv E w0 F0 G0 ds ops listed m fr hp nx a G)
    {i : Nat} {o : Oper} (hi : ops.toList[i]? = some o) (hm : m.testBit i = false) (hv : valueOp o.op = false) (hd : ∀ e ∈ o.after.toList, Region.binds .any e = true → listed.getD e.on false = true) {K : Act → World → Prop} {Q : Exit → Act → World → Prop} {rest : List T → Hp → Nat → Prop} {b : Bool}
    (hden : gateK ops.toList fr o.guard
      (denOp E o.op fr hp nx fun x hp nx => normK b x fun x => putK fr o.dst x fun fr => recheckL E ops.toList fr hp nx (rest fr hp nx) (rcList ops.toList m ((ancs ops.toList []).getD i 0) ops.toList 0))
      (putK fr o.dst (.tup .nil) fun fr => recheckL E ops.toList fr hp nx (rest fr hp nx) (rcList ops.toList m ((ancs ops.toList []).getD i 0) ops.toList 0)))
    (hK : ∀ a' G' fr' hp' nx', Inv E w0 F0 G0 ds ops (listed.setIfInBounds i true) (m ||| 2 ^ i) fr' hp' nx' a' G' → rest fr' hp' nx' → K a' G'.w) : wpOp P ops Q i K a G.w := by
  have hlt : i < ops.size := by have := (List.getElem?_eq_some_iff.1 hi).1; simpa using this
  have hfree := fun t ht => looks_free hok h hi hd (t := t) ht
  have hbit : ∀ j, (m ||| 2 ^ i).testBit j = true ↔ (m.testBit j = true ∨ i = j) := fun j => by rw [testBit_set]; simp
  have hold : ∀ j, (listed.setIfInBounds i true).getD j false = true ↔ (j = i ∨ listed.getD j false = true) := fun j => by
    by_cases hji : i = j
    · subst hji; simp [h.size, hlt]
    · rw [getD_set_ne false hji]; simp [Ne.symm hji]
  have hnew : ∀ j, (listed.setIfInBounds i true).getD j false = false ↔ (j ≠ i ∧ listed.getD j false = false) := fun j => by
    have := hold j
    cases h1 : (listed.setIfInBounds i true).getD j false <;> cases h2 : listed.getD j false <;> simp_all
  have done : ∀ (v : Value) (x : T) (G' : Cx) (hp' : Hp) (nx' : Nat) (fr' : List T), Ext G G' → Mdl w0 F0 G' hp' nx' → tVal G' x v → fr'.length = fr.length → (∀ t, o.dst ≠ some t → fr'[t]? = fr[t]?) → (∀ d, o.dst = some d → fr'[d]? = some x) →
      recheckL E ops.toList fr' hp' nx' (rest fr' hp' nx') (rcList ops.toList m ((ancs ops.toList []).getD i 0) ops.toList 0) → (readsHp o.op = readsHp o.op) → K (a.put o.dst v) G'.w := by
    intro v x G' hp' nx' fr' hx hmd hvt hlen hsame hat hre _
    obtain ⟨hrest, hrc⟩ := recheckK_out (recheckL_out (opl := ops.toList) id (fun j o hj => by rwa [Nat.zero_add]) hre)
    have side : ∀ j o', ops.toList[j]? = some o' → m.testBit j = true → listed.getD j false = false → (∀ t, t ∈ looks ops.toList o' → fr'[t]? = fr[t]?) ∧ (∀ d, o'.dst = some d → fr'[d]? = fr[d]?) := fun j o' hj hmj hlj => by
      have hji : j ≠ i := by rintro rfl; rw [hm] at hmj; cases hmj
      refine ⟨fun t ht => hsame t fun hdt => ?_, fun d hd' => hsame d fun hd2 => ?_⟩
      · rcases hok.look j i o' o t hj hi hji hdt ht with h1 | ⟨_, h1⟩
        · have := anc_in h.lowM hj h1 hmj
          rw [hm] at this
          cases this
        · have := anc_ready h.low hi h1 hd
          rw [hlj] at this
          cases this
      · have := (hok.dst j i o' o d hj hi hji hd2 hd').1
        rw [h.val j o' hj hmj hlj] at this
        cases this
    refine hK _ G' fr' hp' nx' ⟨hmd, h.ext.trans hx, put_defs.trans h.defs, by simp [h.size], fun j hj => ?_, fun j hj => ?_, ?_, ?_, fun j o' hj hmj hlj => ?_, by rw [put_size, hlen]; exact h.len, fun t x' ht hD => ?_, fun j o' hj hmj hlj => ?_⟩ hrest
    · rcases (hold j).1 hj with rfl | hj
      · exact (hbit _).2 (.inr rfl)
      · exact (hbit j).2 (.inl (h.sub j hj))
    · rcases (hbit j).1 hj with hj | rfl
      · exact h.lt j hj
      · exact hlt
    · intro j o' hj hlj e he hbe
      refine (hold e.on).2 ?_
      rcases (hold j).1 hlj with rfl | hlj
      · rw [hi] at hj
        cases hj
        exact .inr (hd e he hbe)
      · exact .inr (h.low j o' hj hlj e he hbe)
    · intro j o' hj hmj e he hbe
      refine (hbit e.on).2 (.inl ?_)
      rcases (hbit j).1 hmj with hmj | rfl
      · exact h.lowM j o' hj hmj e he hbe
      · rw [hi] at hj
        cases hj
        exact h.sub _ (hd e he hbe)
    · obtain ⟨hji, hlj⟩ := (hnew j).1 hlj
      rcases (hbit j).1 hmj with hmj | rfl
      · exact h.val j o' hj hmj hlj
      · exact (hji rfl).elim
    · by_cases hdt : o.dst = some t
      · have htl : t < a.tmps.size := by rw [← h.len, ← hlen]; exact (List.getElem?_eq_some_iff.1 ht).1
        rw [hat t hdt] at ht
        cases ht
        exact ⟨v, put_at hdt htl, hvt⟩
      · rw [hsame t hdt] at ht
        obtain ⟨v', hv', hvt'⟩ := h.frame t x' ht fun j o' hj hmj hlj => by
          have hji : j ≠ i := by rintro rfl; rw [hm] at hmj; cases hmj
          exact hD j o' hj ((hbit j).2 (.inl hmj)) ((hnew j).2 ⟨hji, hlj⟩)
        exact ⟨v', (put_get hdt).trans hv', hx.tVal hvt'⟩
    · obtain ⟨hji, hlj⟩ := (hnew j).1 hlj
      rcases (hbit j).1 hmj with hmj | rfl
      · obtain ⟨s1, s2⟩ := side j o' hj hmj hlj
        have hvj := h.val j o' hj hmj hlj
        have hst := stab_move (i := j) hok (h.stab j o' hj hmj hlj) s1 s2
        cases hr : readsHp o'.op with
        | false => exact gateK_congr hst (fun _ _ => rfl) (fun ⟨hn, x, hvx, hx'⟩ => ⟨hn, x, valK_hp hvj hr hn hvx, hx'⟩) fun hn => hn
        | true =>
          have hanc : ((ancs ops.toList []).getD i 0).testBit j = false := by
            cases hq : ((ancs ops.toList []).getD i 0).testBit j with
            | false => rfl
            | true =>
              have := anc_ready h.low hi hq hd
              rw [hlj] at this
              cases this
          obtain ⟨d, hd', hg⟩ := hrc j o' hj (by rwa [Nat.zero_add]) (by rwa [Nat.zero_add]) hvj hr
          refine gateK_and hst hg (fun ⟨hn, x, _, hx'⟩ hd2 => ⟨hn, x, ?_, hx'⟩) fun hn _ => hn
          have hd3 : valK E o'.op fr' hp' (fun y => lgetK fr' d fun x => sameK y x) := by
            have := val_same (E := E) (fr := fr') (hp := hp') (nx := nx') (k := fun y _ _ => lgetK fr' d fun x => sameK y x) hvj
            rw [this] at hd2
            exact hd2
          refine valK_mono hvj hn hd3 fun y hy => ?_
          obtain ⟨z, hz, hs⟩ := lgetK_out hy
          rw [hx' d hd'] at hz
          cases hz
          exact sameK_out hs
      · exact (hji rfl).elim
  unfold wpOp
  rw [show ops[i]? = some o by simpa using hi]
  simp only []
  rcases wanted_of h hden hfree with ⟨hw, hy⟩ | ⟨hw, hno⟩
  · rw [if_pos hw]
    left
    obtain ⟨fr2, hf2, hag⟩ := frame_out h
    have hagr : Agree o.op.operands.toList fr fr2 := looks_agree (opl := ops.toList) fun t ht => hag t (hfree t ht)
    refine op_ok hE h.mdl hf2 (den_congr hy hagr) _ Q fun G' y v hp' nx' hx' hmd hvt hk => ?_
    obtain ⟨x, hk2, hr⟩ := normK_out hk
    obtain ⟨fr', hk3, hlen, hsame, hat⟩ := putK_out hk2
    exact done v x G' hp' nx' fr' hx' hmd (hr G' v hvt) hlen hsame hat hk3 rfl
  · rw [if_neg (by simp [hw])]
    obtain ⟨fr', hk3, hlen, hsame, hat⟩ := putK_out hno
    exact done undef (.tup .nil) G hp nx fr' (Ext.refl G) h.mdl ⟨[], rfl, rfl⟩ hlen hsame hat hk3 rfl

theorem ready_in {listed : Array Bool} {i : Nat} (h : i ∈ Region.ready .any ops listed) : ∃ o, ops.toList[i]? = some o ∧ listed.getD i true = false ∧ ∀ e ∈ o.after.toList, Region.binds .any e = true → listed.getD e.on false = true := by
  obtain ⟨h1, o, h2, h3⟩ := mem_ready.1 h
  exact ⟨o, by simpa using h2, h1, fun e he hb => h3 e (by simpa using he) hb⟩

theorem in_ready {listed : Array Bool} {i : Nat} {o : Oper} (hs : listed.size = ops.size) (hi : ops.toList[i]? = some o) (hl : listed.getD i false = false) (h : ∀ e ∈ o.after.toList, Region.binds .any e = true → listed.getD e.on false = true) : i ∈ Region.ready .any ops listed := by
  have hlt : i < ops.size := by have := (List.getElem?_eq_some_iff.1 hi).1; simpa using this
  exact mem_ready.2 ⟨(getD_both hs hlt).trans hl, o, by simpa using hi, fun e he hb => h e (by simpa using he) hb⟩

/-- Nothing is left. -/
theorem any_end (hok : DrawOk ops.toList (ancs ops.toList [])) {listed : Array Bool} {m : Nat} {fr : List T} {hp : Hp} {nx : Nat} {a : Act} {G : Cx} (h : Inv E w0 F0 G0 ds ops listed m fr hp nx a G) (hr : Region.ready .any ops listed = []) :
    (∀ i, i < ops.size → m.testBit i = true → listed.getD i false = true) ∧ readyE m ops.toList 0 = [] ∧ frOk G fr a.tmps := by
  have all : ∀ i, m.testBit i = true → listed.getD i false = true := by
    intro i
    induction i using Nat.strongRecOn with
    | _ i ih =>
      intro hm
      cases hl : listed.getD i false with
      | true => rfl
      | false =>
        have hlt := h.lt i hm
        have hi : ops.toList[i]? = some ops.toList[i] := List.getElem?_eq_getElem (by simpa using hlt)
        have := in_ready h.size hi hl fun e he hb => ih e.on (hok.edge i _ hi e he hb) (h.lowM i _ hi hm e he hb)
        rw [hr] at this
        cases this
  refine ⟨fun i _ hm => all i hm, ?_, h.len, fun t x ht => h.frame t x ht fun i o hi hm hl => ?_⟩
  · cases hre : readyE m ops.toList 0 with
    | nil => rfl
    | cons p l =>
      obtain ⟨j, e1, e2, e3, e4⟩ := readyE_out (m := m) (os := ops.toList) (i0 := 0) (p := p) (by rw [hre]; simp)
      rw [Nat.zero_add] at e1
      subst e1
      have := in_ready h.size e2 (by
        cases hl : listed.getD p.1 false with
        | false => rfl
        | true => have := h.sub _ hl; rw [e3] at this; cases this) fun e he hb => all e.on (bindsAll_iff.1 e4 e he hb)
      rw [hr] at this
      cases this
  · rw [all i hm] at hl
    cases hl

theorem chain_out : ∀ (p : Plan) (m : Nat) (r : Option (List (Nat × Oper))) (fr : List T) (hp : Hp) (nx : Nat) {opl : List Oper} {as : List Nat} {k : List T → Hp → Nat → Prop}, (∃ i g rc p', p = .last i g rc p') ∨ (∃ i g rc p' rest, p = .alt i g rc p' rest) → planOk opl as p m r = true → planK E opl k p fr hp nx →
    ∀ j o, (j, o) ∈ r.getD (readyE m opl 0) → opl[j]? = some o → ∃ g p', p'.size < p.size ∧ planOk opl as p' (m ||| 2 ^ j) none = true ∧ gateK opl fr o.guard
      (denOp E o.op fr hp nx fun x hp nx => normK g x fun x => putK fr o.dst x fun fr => recheckL E opl fr hp nx (planK E opl k p' fr hp nx) (rcList opl m (as.getD j 0) opl 0))
      (putK fr o.dst (.tup .nil) fun fr => recheckL E opl fr hp nx (planK E opl k p' fr hp nx) (rcList opl m (as.getD j 0) opl 0))
  | .done, _, _, _, _, _, _, _, _, hp, _, _, _, _, _, _ => by rcases hp with ⟨_, _, _, _, h⟩ | ⟨_, _, _, _, _, h⟩ <;> cases h
  | .take _ _ _, _, _, _, _, _, _, _, _, hp, _, _, _, _, _, _ => by rcases hp with ⟨_, _, _, _, h⟩ | ⟨_, _, _, _, _, h⟩ <;> cases h
  | .last i g rc p, m, r, fr, hp, nx, opl, as, k, _, hok, hk, j, o, hj, ho => by
    simp only [planOk, Bool.and_eq_true] at hok
    obtain ⟨_, hok⟩ := hok
    split at hok
    · next j' o' hr =>
      rw [hr] at hj
      simp at hj
      obtain ⟨rfl, rfl⟩ := hj
      simp only [Bool.and_eq_true] at hok
      obtain ⟨⟨⟨e1, e2⟩, e3⟩, e4⟩ := hok
      obtain rfl := nat_beq_eq e1
      obtain rfl := sameL_eq e3
      obtain ⟨o2, ho2, h2⟩ := opAtK_out hk
      rw [ho] at ho2
      cases ho2
      exact ⟨g, p, by simp [Plan.size], e4, h2⟩
    · cases hok
  | .alt i g rc p rest, m, r, fr, hp, nx, opl, as, k, _, hok, hk, j, o, hj, ho => by
    simp only [planOk, Bool.and_eq_true] at hok
    obtain ⟨_, hok⟩ := hok
    split at hok
    · next j' o' l hr =>
      rw [hr] at hj
      simp only [Bool.and_eq_true] at hok
      obtain ⟨⟨⟨⟨e1, e2⟩, e3⟩, e4⟩, e5⟩ := hok
      obtain ⟨hk1, hk2⟩ := hk
      rcases List.mem_cons.1 hj with hj | hj
      · cases hj
        obtain rfl := nat_beq_eq e1
        obtain rfl := sameL_eq e3
        obtain ⟨o2, ho2, h2⟩ := opAtK_out hk1
        rw [ho] at ho2
        cases ho2
        exact ⟨g, p, by simp [Plan.size]; omega, e4, h2⟩
      · have hshape : (∃ i g rc p', rest = .last i g rc p') ∨ (∃ i g rc p' rest', rest = .alt i g rc p' rest') := by
          cases rest with
          | done => simp [planOk] at e5
          | take _ _ _ => simp [planOk] at e5
          | last _ _ _ _ => exact .inl ⟨_, _, _, _, rfl⟩
          | alt _ _ _ _ _ => exact .inr ⟨_, _, _, _, _, rfl⟩
        obtain ⟨g', p', q1, q2, q3⟩ := chain_out rest m (some l) fr hp nx hshape e5 hk2 j o (by simpa using hj) ho
        exact ⟨g', p', by simp [Plan.size]; omega, q2, q3⟩
    · cases hok

theorem any_ok (hE : EnvOk P E) (hok : DrawOk ops.toList (ancs ops.toList [])) {Q : Exit → Act → World → Prop} {k : List T → Hp → Nat → Prop}
    (hQ : ∀ a G fr hp nx, Mdl w0 F0 G hp nx → Ext G0 G → frOk G fr a.tmps → a.defers = ds → k fr hp nx → Q .normal a G.w) :
    ∀ (n : Nat) (p : Plan), p.size ≤ n → ∀ (m : Nat) (fr : List T) (hp : Hp) (nx : Nat), planOk ops.toList (ancs ops.toList []) p m none = true → planK E ops.toList k p fr hp nx →
      ∀ (fuel : Nat) (listed : Array Bool) (a : Act) (G : Cx), Inv E w0 F0 G0 ds ops listed m fr hp nx a G → unl ops listed ≤ fuel → wpAny P .any ops Q fuel listed a G.w := by
  intro n
  induction n with
  | zero => intro p hp; cases p <;> simp [Plan.size] at hp
  | succ n ih =>
    intro p hpn m fr hp nx hpl hany fuel listed a G hinv hfuel
    have fork : (nextV m ops.toList 0 = none) → (∀ a G, frOk G fr a.tmps → Mdl w0 F0 G hp nx → Ext G0 G → a.defers = ds → readyE m ops.toList 0 = [] → Q .normal a G.w) →
        (∀ j o, (j, o) ∈ readyE m ops.toList 0 → ops.toList[j]? = some o → ∃ g p', p'.size ≤ n ∧ planOk ops.toList (ancs ops.toList []) p' (m ||| 2 ^ j) none = true ∧ gateK ops.toList fr o.guard
          (denOp E o.op fr hp nx fun x hp nx => normK g x fun x => putK fr o.dst x fun fr => recheckL E ops.toList fr hp nx (planK E ops.toList k p' fr hp nx) (rcList ops.toList m ((ancs ops.toList []).getD j 0) ops.toList 0))
          (putK fr o.dst (.tup .nil) fun fr => recheckL E ops.toList fr hp nx (planK E ops.toList k p' fr hp nx) (rcList ops.toList m ((ancs ops.toList []).getD j 0) ops.toList 0))) → wpAny P .any ops Q fuel listed a G.w := by
      intro hnext hdone hall
      have hnv : ∀ (j : Nat) (o : Oper), ops.toList[j]? = some o → m.testBit j = false → bindsAll m o.after.toList = true → valueOp o.op = false := fun j o hj hm hb => nextV_none hnext j o hj (by rwa [Nat.zero_add]) hb
      have hend : ∀ (listed : Array Bool) (a : Act) (G : Cx), Inv E w0 F0 G0 ds ops listed m fr hp nx a G → Region.ready .any ops listed = [] → Q .normal a G.w := fun listed a G hinv hr => by
        obtain ⟨_, h2, h3⟩ := any_end hok hinv hr
        exact hdone a G h3 hinv.mdl hinv.ext hinv.defs h2
      clear hany hpl
      induction fuel generalizing listed a G with
      | zero =>
        have hr : Region.ready .any ops listed = [] := by
          cases hre : Region.ready .any ops listed with
          | nil => rfl
          | cons i l =>
            obtain ⟨o, h1, h2, _⟩ := ready_in (ops := ops) (listed := listed) (i := i) (by rw [hre]; simp)
            have hlt : i < ops.size := by have := (List.getElem?_eq_some_iff.1 h1).1; simpa using this
            have hmem : i ∈ (List.range ops.size).filter fun i => !listed.getD i true := by simp [hlt]; simpa using h2
            have h0 : unl ops listed = 0 := by omega
            rw [unl, List.length_eq_zero_iff] at h0
            rw [h0] at hmem
            cases hmem
        exact ⟨hr, hend listed a G hinv hr⟩
      | succ fuel ihf =>
        refine ⟨hend listed a G hinv, fun i hir => ?_⟩
        obtain ⟨o, hi, hl, hd⟩ := ready_in hir
        have hlt : i < ops.size := by have := (List.getElem?_eq_some_iff.1 hi).1; simpa using this
        have hlf : listed.getD i false = false := by rw [← getD_both hinv.size hlt]; exact hl
        have hun := unl_set hlt hinv.size hl
        cases hm : m.testBit i with
        | true => exact step_ahead hE hok hinv hi hm hlf hd fun a' G' hinv' => ihf _ a' G' hinv' (by omega)
        | false =>
          have hb : bindsAll m o.after.toList = true := bindsAll_iff.2 fun e he hbe => hinv.sub _ (hd e he hbe)
          have hmem := readyE_mem (m := m) (i0 := 0) hi (by rwa [Nat.zero_add]) hb
          rw [Nat.zero_add] at hmem
          obtain ⟨g, p', q1, q2, q3⟩ := hall i o hmem hi
          refine step_both hE hok hinv hi hm (hnv i o hi hm hb) hd (rest := planK E ops.toList k p') (b := g) ?_ fun a' G' fr' hp' nx' hinv' hrest => ih p' q1 _ _ _ _ q2 hrest fuel _ a' G' hinv' (by omega)
          exact q3
    cases p with
    | done =>
      simp only [planOk, Bool.and_eq_true] at hpl
      obtain ⟨h1, h2⟩ := hpl
      refine fork (by cases hn : nextV m ops.toList 0 <;> simp [hn] at h1 ⊢) (fun a G hf hmd hx hds _ => hQ a G fr hp nx hmd hx hf hds hany) fun j o hj => ?_
      cases hr : readyE m ops.toList 0 with
      | nil => rw [hr] at hj; cases hj
      | cons _ _ => rw [hr] at h2; cases h2
    | take i g p =>
      simp only [planOk] at hpl
      split at hpl
      · next j o hnext =>
        simp only [Bool.and_eq_true] at hpl
        obtain ⟨⟨e1, e2⟩, e3⟩ := hpl
        obtain rfl := nat_beq_eq e1
        obtain ⟨j, e1, hi, hm, hv, hb⟩ := nextV_out hnext
        rw [Nat.zero_add] at e1
        subst e1
        obtain ⟨o2, ho2, hany⟩ := opAtK_out hany
        rw [hi] at ho2
        cases ho2
        have hps : p.size ≤ n := by simp [Plan.size] at hpn; omega
        have hbe := bindsAll_iff.1 hb
        have hself : ∀ t, t ∈ looks ops.toList o → ∀ fr' : List T, (∀ t, o.dst ≠ some t → fr'[t]? = fr[t]?) → fr'[t]? = fr[t]? := fun t ht fr' hs => hs t fun hd => hok.self i o t hi hd ht
        rcases gateK_out hany with ⟨g1, g2⟩ | ⟨j, want, d, b, g1, g2, g3, g4⟩
        · obtain ⟨hn, hden⟩ := noNilK_out g2
          rw [val_same hv] at hden
          obtain ⟨x, hx, hxk⟩ := valK_det hv hn _ hden
          obtain ⟨x', hx', href⟩ := normK_out hx
          obtain ⟨fr', hk3, hlen, hsame, hat⟩ := putK_out hx'
          refine ih p hps _ _ _ _ e3 hk3 fuel listed a G (take_ahead hok hinv hi hm hv hbe hlen hsame (gateK_mk (.inl ⟨g1, noNilP_congr hn (looks_agree fun t ht => hself t ht fr' hsame), x', ?_, hat⟩))) hfuel
          exact valK_congr (hxk _ href) (looks_agree fun t ht => hself t ht fr' hsame)
        · have g3' : ∀ fr' : List T, (∀ t, o.dst ≠ some t → fr'[t]? = fr[t]?) → fr'[d]? = some (gvT b) := fun fr' hs => (hself d (mem_looks.2 (.inr ⟨j, want, g1, g2⟩)) fr' hs).trans g3
          by_cases hbw : b = some want
          · rw [if_pos hbw] at g4
            obtain ⟨hn, hden⟩ := noNilK_out g4
            rw [val_same hv] at hden
            obtain ⟨x, hx, hxk⟩ := valK_det hv hn _ hden
            obtain ⟨x', hx', href⟩ := normK_out hx
            obtain ⟨fr', hk3, hlen, hsame, hat⟩ := putK_out hx'
            refine ih p hps _ _ _ _ e3 hk3 fuel listed a G (take_ahead hok hinv hi hm hv hbe hlen hsame (gateK_mk (.inr ⟨j, want, d, b, g1, g2, g3' fr' hsame, ?_⟩))) hfuel
            rw [if_pos hbw]
            exact ⟨noNilP_congr hn (looks_agree fun t ht => hself t ht fr' hsame), x', valK_congr (hxk _ href) (looks_agree fun t ht => hself t ht fr' hsame), hat⟩
          · rw [if_neg hbw] at g4
            obtain ⟨fr', hk3, hlen, hsame, hat⟩ := putK_out g4
            refine ih p hps _ _ _ _ e3 hk3 fuel listed a G (take_ahead hok hinv hi hm hv hbe hlen hsame (gateK_mk (.inr ⟨j, want, d, b, g1, g2, g3' fr' hsame, ?_⟩))) hfuel
            rw [if_neg hbw]
            exact hat
      · cases hpl
    | last i g rc p =>
      have hnx : nextV m ops.toList 0 = none := by
        simp only [planOk, Bool.and_eq_true] at hpl
        cases hn : nextV m ops.toList 0 <;> simp [hn] at hpl ⊢
      refine fork hnx (fun a G _ _ _ _ hr => ?_) fun j o hj ho => ?_
      · simp only [planOk, Bool.and_eq_true, Option.getD_none, hr] at hpl
        cases hpl.2
      · obtain ⟨g', p', q1, q2, q3⟩ := chain_out _ m none fr hp nx (.inl ⟨_, _, _, _, rfl⟩) hpl hany j o hj ho
        exact ⟨g', p', by omega, q2, q3⟩
    | alt i g rc p rest =>
      have hnx : nextV m ops.toList 0 = none := by
        simp only [planOk, Bool.and_eq_true] at hpl
        cases hn : nextV m ops.toList 0 <;> simp [hn] at hpl ⊢
      refine fork hnx (fun a G _ _ _ _ hr => ?_) fun j o hj ho => ?_
      · simp only [planOk, Bool.and_eq_true, Option.getD_none, hr] at hpl
        cases hpl.2
      · obtain ⟨g', p', q1, q2, q3⟩ := chain_out _ m none fr hp nx (.inr ⟨_, _, _, _, _, rfl⟩) hpl hany j o hj ho
        exact ⟨g', p', by omega, q2, q3⟩

/-- A region whose order is drawn. -/
theorem draw_ok (hE : EnvOk P E) (hmix : P.follows .mixedOrders = true) {id : Nat} {Q : Exit → Act → World → Prop} {k : List T → Hp → Nat → Prop} {G : Cx} {a : Act} {fr : List T} {hp : Hp} {nx : Nat} {p : Plan}
    (hm : Mdl w0 F0 G hp nx) (hf : frOk G fr a.tmps) (hr : regOk ops.toList p = true) (h : planK E ops.toList k p fr hp nx)
    (hQ : ∀ a' G' fr hp nx, Mdl w0 F0 G' hp nx → Ext G G' → frOk G' fr a'.tmps → a'.defers = a.defers → k fr hp nx → Q .normal a' G'.w) : (Code.region id ops true).wp P Q a G.w := by
  simp only [regOk, Bool.and_eq_true] at hr
  refine wp_region_any hmix ?_
  obtain ⟨hx, hmd⟩ := hm.drew
  have hget : ∀ i, (Array.replicate ops.size false).getD i false = false := fun i => by simp [Array.getD]
  refine any_ok hE (drawOk_out hr.1) (G0 := G) (ds := a.defers) hQ _ p (Nat.le_refl _) _ _ _ _ hr.2 h ops.size _ a ⟨G.rho, G.im, G.w.drew⟩ ⟨hmd, hx, rfl, by simp, fun i hi => ?_, fun i hi => ?_, ?_, ?_, fun i o _ hi => ?_, hf.1, fun t x ht _ => (hf.ext hx).2 t x ht, fun i o _ hi => ?_⟩ ?_
  · rw [hget] at hi; cases hi
  · simp at hi
  · intro j o _ hj; rw [hget] at hj; cases hj
  · intro j o _ hj; simp at hj
  · simp at hi
  · simp at hi
  · unfold unl
    refine Nat.le_trans (List.length_filter_le _ _) (by simp)

end
end Go.J
