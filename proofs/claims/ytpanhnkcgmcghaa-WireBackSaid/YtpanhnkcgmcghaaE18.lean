/-
  THE ENGINE, part 18: where the order is drawn.
-/
import Derived.Test.YtpanhnkcgmcghaaE17
set_option linter.unusedSimpArgs false
set_option linter.unusedVariables false
set_option linter.unusedSectionVars false

namespace Go.J

structure Ext0 (G G' : Cx) : Prop where
  im : ∀ b, G.im b → G'.im b
  keep : ∀ b, G.im b → G'.w.heap[b]? = G.w.heap[b]?
  size : G.w.heap.size ≤ G'.w.heap.size
theorem Ext0.refl (G : Cx) : Ext0 G G := ⟨fun _ h => h, fun _ _ => rfl, Nat.le_refl _⟩
theorem Ext0.trans {G G' G2 : Cx} (h : Ext0 G G') (k : Ext0 G' G2) : Ext0 G G2 :=
  ⟨fun b e => k.im b (h.im b e), fun b e => (k.keep b (h.im b e)).trans (h.keep b e), Nat.le_trans h.size k.size⟩
theorem Ext.zero {G G' : Cx} (h : Ext G G') : Ext0 G G' := ⟨h.im, h.keep, h.size⟩

/-- Whatever is y is x. -/
def Ref (y x : T) : Prop := ∀ (G : Cx) v, tVal G y v → tVal G x v
theorem Ref.refl (x : T) : Ref x x := fun _ _ h => h

theorem normK_out {b : Bool} {x : T} {k : T → Prop} (h : normK b x k) : ∃ x', k x' ∧ Ref x x' := by
  unfold normK at h
  split at h
  · exact ⟨x, h, Ref.refl x⟩
  · split at h
    · exact ⟨_, h, Ref.refl _⟩
    · exact ⟨_, h, Ref.refl _⟩
    · next b =>
      cases b with
      | true => exact ⟨_, h.1 rfl, fun _ _ h => h⟩
      | false => exact ⟨_, h.2 rfl, fun _ _ h => h⟩
    · exact h.elim

theorem sameK_out {y x : T} (h : sameK y x) : Ref y x := by
  unfold sameK at h
  split at h
  · split at h
    · exact Ref.refl _
    · next b => subst h; exact fun _ _ h => h
    · exact h.elim
  · split at h
    · exact Ref.refl _
    · next b => subst h; exact fun _ _ h => h
    · exact h.elim
  · exact fun _ _ _ => trivial
  · subst h; exact Ref.refl _

theorem putK_out {fr : List T} {dst : Option Tmp} {x : T} {k : List T → Prop} (h : putK fr dst x k) : ∃ fr', k fr' ∧ fr'.length = fr.length ∧ (∀ t, dst ≠ some t → fr'[t]? = fr[t]?) ∧ ∀ d, dst = some d → fr'[d]? = some x := by
  unfold putK at h
  split at h
  · exact ⟨fr, h, rfl, fun _ _ => rfl, fun d hd => by cases hd⟩
  · next d =>
    obtain ⟨h1, h2⟩ := lsetK_out h
    refine ⟨_, h2, by simp, fun t ht => ?_, fun d' hd => ?_⟩
    · rw [List.getElem?_set_ne]
      rintro rfl
      exact ht rfl
    · cases hd
      simp [h1]

theorem slotK_out : ∀ {ops : List Oper} {g : Nat} {k : Nat → Prop}, slotK ops g k → ∃ d, (ops[g]?).bind (·.dst) = some d ∧ k d
  | [], _, _, h => by simp [slotK] at h
  | o :: _, 0, k, h => by
    simp only [slotK] at h
    split at h
    · next d hd => exact ⟨d, by simpa using hd, h⟩
    · exact h.elim
  | _ :: os, g + 1, k, h => by simpa using slotK_out (ops := os) (g := g) h
theorem slotK_mk : ∀ {ops : List Oper} {g : Nat} {k : Nat → Prop} {d : Nat}, (ops[g]?).bind (·.dst) = some d → k d → slotK ops g k
  | [], _, _, _, h, _ => by simp at h
  | o :: _, 0, k, d, h, hk => by
    simp at h
    simp only [slotK, h]
    exact hk
  | _ :: os, g + 1, k, d, h, hk => slotK_mk (ops := os) (g := g) (by simpa using h) hk

/-- What a guard's slot may hold. -/
def gvT : Option Bool → T
  | some true => .v .tt
  | some false => .v .ff
  | none => .tup .nil
theorem gvT_inj : ∀ {a b : Option Bool}, gvT a = gvT b → a = b
  | some true, some true, _ => rfl
  | some false, some false, _ => rfl
  | none, none, _ => rfl
  | some true, some false, h => by simp [gvT] at h
  | some false, some true, h => by simp [gvT] at h
  | some true, none, h => by simp [gvT] at h
  | some false, none, h => by simp [gvT] at h
  | none, some true, h => by simp [gvT] at h
  | none, some false, h => by simp [gvT] at h
/-- A guard that is known. -/
theorem gateK_out {ops : List Oper} {fr : List T} {g : Option (Nat × Bool)} {yes no : Prop} (h : gateK ops fr g yes no) :
    (g = none ∧ yes) ∨ ∃ j want d b, g = some (j, want) ∧ (ops[j]?).bind (·.dst) = some d ∧ fr[d]? = some (gvT b) ∧ (if b = some want then yes else no) := by
  unfold gateK at h
  split at h
  · exact .inl ⟨rfl, h⟩
  · next j want =>
    obtain ⟨d, hd, h2⟩ := slotK_out h
    obtain ⟨x, hx, h3⟩ := lgetK_out h2
    refine .inr ⟨j, want, d, ?_⟩
    split at h3
    · exact ⟨some true, rfl, hd, hx, by cases want <;> simpa using h3⟩
    · exact ⟨some false, rfl, hd, hx, by cases want <;> simpa using h3⟩
    · exact ⟨none, rfl, hd, hx, by simpa using h3⟩
    · exact h3.elim
theorem gateK_mk {ops : List Oper} {fr : List T} {g : Option (Nat × Bool)} {yes no : Prop} (h : (g = none ∧ yes) ∨ ∃ j want d b, g = some (j, want) ∧ (ops[j]?).bind (·.dst) = some d ∧ fr[d]? = some (gvT b) ∧ (if b = some want then yes else no)) : gateK ops fr g yes no := by
  rcases h with ⟨rfl, h⟩ | ⟨j, want, d, b, rfl, hd, hx, h⟩
  · exact h
  · refine slotK_mk hd (lgetK_mk hx ?_)
    rcases b with _ | b
    · simpa [gvT] using h
    · cases b <;> cases want <;> simpa [gvT] using h

/-- The slots of an operation and of its guard. -/
theorem mem_looks {ops : List Oper} {o : Oper} {t : Tmp} : t ∈ looks ops o ↔ Operand.tmp t ∈ o.op.operands.toList ∨ ∃ g w, o.guard = some (g, w) ∧ (ops[g]?).bind (·.dst) = some t := by
  unfold looks
  rw [List.mem_append, List.mem_flatMap]
  constructor
  · rintro (⟨x, hx, ht⟩ | h)
    · cases x <;> simp [tmpOf] at ht
      subst ht
      exact .inl hx
    · right
      cases hg : o.guard with
      | none => simp [hg] at h
      | some p =>
        obtain ⟨g, w⟩ := p
        simp only [hg] at h
        split at h
        · next d hd => simp at h; subst h; exact ⟨g, w, rfl, hd⟩
        · simp at h
  · rintro (h | ⟨g, w, hg, hd⟩)
    · exact .inl ⟨_, h, by simp [tmpOf]⟩
    · exact .inr (by simp [hg, hd])

theorem gateK_congr {ops : List Oper} {fr fr2 : List T} {o : Oper} {yes no yes' no' : Prop} (h : gateK ops fr o.guard yes no) (ha : ∀ t, t ∈ looks ops o → fr2[t]? = fr[t]?) (hy : yes → yes') (hn : no → no') : gateK ops fr2 o.guard yes' no' := by
  refine gateK_mk ?_
  rcases gateK_out h with ⟨h1, h2⟩ | ⟨j, want, d, b, h1, h2, h3, h4⟩
  · exact .inl ⟨h1, hy h2⟩
  · refine .inr ⟨j, want, d, b, h1, h2, (ha d (mem_looks.2 (.inr ⟨j, want, h1, h2⟩))).trans h3, ?_⟩
    split <;> simp_all

theorem gateK_and {ops : List Oper} {fr : List T} {g : Option (Nat × Bool)} {y1 n1 y2 n2 y n : Prop} (h1 : gateK ops fr g y1 n1) (h2 : gateK ops fr g y2 n2) (hy : y1 → y2 → y) (hn : n1 → n2 → n) : gateK ops fr g y n := by
  refine gateK_mk ?_
  rcases gateK_out h1 with ⟨e1, k1⟩ | ⟨j, want, d, b, e1, e2, e3, k1⟩ <;> rcases gateK_out h2 with ⟨e1', k2⟩ | ⟨j', want', d', b', e1', e2', e3', k2⟩
  · exact .inl ⟨e1, hy k1 k2⟩
  · rw [e1] at e1'; cases e1'
  · rw [e1] at e1'; cases e1'
  · rw [e1] at e1'
    cases e1'
    rw [e2] at e2'
    cases e2'
    rw [e3] at e3'
    have hb : b = b' := gvT_inj (Option.some.inj e3')
    subst hb
    refine .inr ⟨j, want, d, b, e1, e2, e3, ?_⟩
    by_cases hw : b = some want <;> simp_all

/-! The operations that stand ahead. -/
def Below (ops : List Oper) (L : Nat → Prop) : Prop := ∀ (j : Nat) (o : Oper), ops[j]? = some o → L j → ∀ e ∈ o.after.toList, Region.binds .any e = true → L e.on

theorem ancOf_out {acc : List Nat} : ∀ {es : List Edge} {i : Nat}, (ancOf acc es).testBit i = true → ∃ e ∈ es, Region.binds .any e = true ∧ (e.on = i ∨ (acc.getD e.on 0).testBit i = true)
  | [], i, h => by simp [ancOf] at h
  | e :: es, i, h => by
    unfold ancOf at h
    split at h
    · next hb =>
      simp only [Nat.testBit_or, Bool.or_eq_true] at h
      rcases h with (h | h) | h
      · refine ⟨e, by simp, hb, .inl ?_⟩
        rw [Nat.testBit_two_pow] at h
        simpa using h
      · exact ⟨e, by simp, hb, .inr h⟩
      · obtain ⟨e', h1, h2⟩ := ancOf_out h
        exact ⟨e', by simp [h1], h2⟩
    · obtain ⟨e', h1, h2⟩ := ancOf_out h
      exact ⟨e', by simp [h1], h2⟩

theorem ancs_out (all : List Oper) (L : Nat → Prop) (hL : Below all L) : ∀ (os : List Oper) (acc : List Nat) (done : List Oper), all = done ++ os → acc.length = done.length →
    (∀ (j : Nat) (o : Oper) (i : Nat), done[j]? = some o → (acc.getD j 0).testBit i = true → (∀ e ∈ o.after.toList, Region.binds .any e = true → L e.on) → L i) →
    ∀ (j : Nat) (o : Oper) (i : Nat), all[j]? = some o → ((ancs os acc).getD j 0).testBit i = true → (∀ e ∈ o.after.toList, Region.binds .any e = true → L e.on) → L i
  | [], acc, done, he, hl, h => by
    intro j o i hj hb hd
    simp only [List.append_nil] at he
    subst he
    exact h j o i hj hb hd
  | o :: os, acc, done, he, hl, h => by
    refine ancs_out all L hL os (acc ++ [ancOf acc o.after.toList]) (done ++ [o]) (by simp [he]) (by simp [hl]) ?_
    intro j o' i hj hb hd
    by_cases hlt : j < done.length
    · rw [List.getElem?_append_left hlt] at hj
      rw [List.getD_eq_getElem?_getD, List.getElem?_append_left (by omega), ← List.getD_eq_getElem?_getD] at hb
      exact h j o' i hj hb hd
    · have hj2 : j = done.length := by
        have := (List.getElem?_eq_some_iff.1 hj).1
        simp at this
        omega
      subst hj2
      simp at hj
      subst hj
      rw [List.getD_eq_getElem?_getD, ← hl] at hb
      simp at hb
      obtain ⟨e, h1, h2, h3⟩ := ancOf_out hb
      rcases h3 with h3 | h3
      · exact h3 ▸ hd e h1 h2
      · have hLe := hd e h1 h2
        by_cases hlt2 : e.on < done.length
        · have hget : done[e.on]? = some done[e.on] := List.getElem?_eq_getElem hlt2
          exact h e.on _ i hget h3 (hL e.on _ (by rw [he, List.getElem?_append_left hlt2]; exact hget) hLe)
        · rw [List.getD_eq_getElem?_getD, List.getElem?_eq_none (by omega)] at h3
          simp at h3

theorem anc_ready {ops : List Oper} {L : Nat → Prop} (hL : Below ops L) {j i : Nat} {o : Oper} (hj : ops[j]? = some o) (hb : ((ancs ops []).getD j 0).testBit i = true) (hd : ∀ e ∈ o.after.toList, Region.binds .any e = true → L e.on) : L i :=
  ancs_out ops L hL ops [] [] rfl rfl (fun j o i h => by simp at h) j o i hj hb hd
theorem anc_in {ops : List Oper} {L : Nat → Prop} (hL : Below ops L) {j i : Nat} {o : Oper} (hj : ops[j]? = some o) (hb : ((ancs ops []).getD j 0).testBit i = true) (h : L j) : L i :=
  anc_ready hL hj hb (hL j o hj h)

/-! What the text was asked. -/
structure DrawOk (ops : List Oper) (as : List Nat) : Prop where
  self : ∀ (i : Nat) (x : Oper) (d : Tmp), ops[i]? = some x → x.dst = some d → d ∉ looks ops x
  look : ∀ (i j : Nat) (x y : Oper) (d : Tmp), ops[i]? = some x → ops[j]? = some y → i ≠ j → y.dst = some d → d ∈ looks ops x → (as.getD i 0).testBit j = true ∨ (valueOp y.op = false ∧ (as.getD j 0).testBit i = true)
  dst : ∀ (i j : Nat) (x y : Oper) (d : Tmp), ops[i]? = some x → ops[j]? = some y → i ≠ j → y.dst = some d → x.dst = some d → valueOp x.op = false ∧ valueOp y.op = false
  edge : ∀ (i : Nat) (x : Oper), ops[i]? = some x → ∀ e ∈ x.after.toList, Region.binds .any e = true → e.on < i

theorem rowOk_out {ops : List Oper} {as : List Nat} {i : Nat} {x : Oper} : ∀ {ys : List Oper} {j0 : Nat}, rowOk ops as i x ys j0 = true → ∀ (j : Nat) (y : Oper), ys[j]? = some y → pairOk ops as i (j0 + j) x y = true
  | [], _, _, _, _, h => by simp at h
  | y :: ys, j0, h, j, z, hz => by
    simp only [rowOk, Bool.and_eq_true] at h
    cases j with
    | zero => simp at hz; subst hz; exact h.1
    | succ j =>
      have := rowOk_out h.2 j z (by simpa using hz)
      rwa [show j0 + 1 + j = j0 + (j + 1) by omega] at this

theorem drawOk_rows {ops : List Oper} {as : List Nat} : ∀ {xs : List Oper} {i0 : Nat}, drawOk ops as xs i0 = true → ∀ (i : Nat) (x : Oper), xs[i]? = some x → rowOk ops as (i0 + i) x ops 0 = true ∧ edgesOk (i0 + i) x = true
  | [], _, _, _, _, h => by simp at h
  | x :: xs, i0, h, i, z, hz => by
    simp only [drawOk, Bool.and_eq_true] at h
    cases i with
    | zero => simp at hz; subst hz; exact ⟨h.1.1.1, h.1.1.2⟩
    | succ i =>
      have := drawOk_rows h.2 i z (by simpa using hz)
      rwa [show i0 + 1 + i = i0 + (i + 1) by omega] at this

theorem nat_beq_ne {a b : Nat} (h : a ≠ b) : Nat.beq a b = false := by
  cases hb : Nat.beq a b with
  | false => rfl
  | true => exact (h (nat_beq_eq hb)).elim
theorem nat_beq_self (a : Nat) : Nat.beq a a = true := Nat.beq_refl a

theorem drawOk_out {ops : List Oper} {as : List Nat} (h : drawOk ops as ops 0 = true) : DrawOk ops as := by
  have pair : ∀ (i j : Nat) (x y : Oper), ops[i]? = some x → ops[j]? = some y → pairOk ops as i j x y = true := fun i j x y hx hy => by
    have h1 := (drawOk_rows h i x hx).1
    rw [Nat.zero_add] at h1
    have := rowOk_out h1 j y hy
    rwa [Nat.zero_add] at this
  refine ⟨fun i x d hx hd => ?_, fun i j x y d hx hy hne hd hl => ?_, fun i j x y d hx hy hne hd hd2 => ?_, fun i x hx e he hb => ?_⟩
  · have := pair i i x x hx hx
    simp only [pairOk, hd, nat_beq_self, Bool.not_true, Bool.false_and, Bool.or_false, Bool.true_and, Bool.not_eq_true'] at this
    simpa using this
  · have := pair i j x y hx hy
    simp only [pairOk, hd, nat_beq_ne hne, Bool.not_false, Bool.true_and, Bool.false_and, Bool.false_or, Bool.and_eq_true, Bool.or_eq_true, Bool.not_eq_true'] at this
    rcases this.1 with (h1 | h1) | h1
    · simp at h1; exact (h1 hl).elim
    · exact .inl h1
    · exact .inr h1
  · have := pair i j x y hx hy
    simp only [pairOk, hd, hd2, nat_beq_ne hne, nat_beq_self, Bool.not_false, Bool.not_true, Bool.true_and, Bool.false_and, Bool.false_or, Bool.and_eq_true, Bool.not_eq_true'] at this
    exact ⟨this.2.1.1, this.2.1.2⟩
  · have h1 := (drawOk_rows h i x hx).2
    rw [Nat.zero_add] at h1
    simp only [edgesOk, List.all_eq_true] at h1
    have := h1 e he
    rw [hb] at this
    have h2 : Nat.blt e.on i = true := by simpa using this
    simpa [Nat.blt_eq] using h2

end Go.J
