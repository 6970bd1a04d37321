/-
  THE ENGINE, part 28: code; functions; calls.
-/
import Derived.Test.YtpanhnkcgmcghaaE27
set_option linter.unusedSimpArgs false
set_option linter.unusedVariables false
set_option linter.unusedSectionVars false

namespace Go.J

section
variable {P : Program} {E : Env} {w0 : World} {F0 : Base}

theorem planAtK_out {k : Plan → Prop} : ∀ {l : List (Nat × Plan)} {i : Nat}, planAtK l i k → ∃ p, planAt l i = some p ∧ k p
  | [], _, h => h.elim
  | (j, a) :: l, i, h => by
    unfold planAtK at h
    unfold planAt
    split at h
    · exact ⟨a, rfl, h⟩
    · exact planAtK_out h
theorem annK_out {k : Ann → Prop} : ∀ {l : List (Nat × Ann)} {i : Nat}, annK l i k → ∃ a, k a
  | [], _, h => h.elim
  | (j, a) :: l, i, h => by
    unfold annK at h
    split at h
    · exact ⟨a, h⟩
    · exact annK_out h

theorem code_ok (hE : EnvOk P E) (hmix : P.follows .mixedOrders = true) {na : Nat} {hi : Hints} : ∀ (c : Code), codeOk hi.plans c = true → ∀ (fr : List T) (hp : Hp) (nx : Nat) (K : Exit → List T → Hp → Nat → Prop) (a : Act) (G : Cx) (Q : Exit → Act → World → Prop),
    Mdl w0 F0 G hp nx → frOk G fr a.tmps →
    (∀ e fr hp nx a' G', Mdl w0 F0 G' hp nx → Since na G G' → frOk G' fr a'.tmps → a'.defers = a.defers → K e fr hp nx → Q e a' G'.w) →
    denC E na hi c fr hp nx K → c.wp P Q a G.w := by
  intro c
  induction c with
  | skip => intro _ fr hp nx K a G Q hm hf hQ h; exact wp_skip (hQ _ _ _ _ _ _ hm (Since.refl na G) hf rfl h)
  | region id ops d =>
    intro hok fr hp nx K a G Q hm hf hQ h
    cases d with
    | false =>
      refine wp_region ?_
      have h : denOps E ops.toList ops.toList fr hp nx (K .normal) := h
      have := ops_ok (P := P) hE (ops := ops) (Q := Q) (k := K .normal) (G0 := G) (ds := a.defers) (fun a' G' fr hp nx hm' hx hf' hds hk => hQ _ _ _ _ _ _ hm' hx.since hf' hds hk) ops.toList 0 (fun j => by rw [Nat.zero_add]) fr hp nx a G hm (Ext.refl G) hf rfl h
      rw [List.range_eq_range']
      simpa using this
    | true =>
      obtain ⟨p, hp1, h2⟩ := planAtK_out (show planAtK hi.plans id fun p => planK E ops.toList (K .normal) p fr hp nx from h)
      have hr : regOk ops.toList p = true := by
        simp only [codeOk, hp1] at hok
        exact hok
      exact draw_ok hE hmix hm hf hr h2 fun a' G' fr hp nx hm' hx hf' hds hk => hQ _ _ _ _ _ _ hm' hx.since hf' hds hk
  | seq x y ih1 ih2 =>
    intro hok fr hp nx K a G Q hm hf hQ h
    simp only [codeOk, Bool.and_eq_true] at hok
    refine wp_seq (ih1 hok.1 fr hp nx _ a G _ hm hf ?_ h)
    intro e fr' hp' nx' a' G' hm' hs hf' hds hk
    cases e with
    | normal => exact ih2 hok.2 fr' hp' nx' K a' G' Q hm' hf' (fun e fr hp nx a2 G2 hm2 hs2 hf2 hds2 hk2 => hQ e fr hp nx a2 G2 hm2 (hs.trans hs2) hf2 (hds2.trans hds) hk2) hk
    | _ => exact hQ _ _ _ _ _ _ hm' hs hf' hds hk
  | cond c x y ih1 ih2 =>
    intro hok fr hp nx K a G Q hm hf hQ h
    simp only [codeOk, Bool.and_eq_true] at hok
    obtain ⟨t, h1, ht⟩ := evalK_out hf (show evalK fr c _ from h)
    split at h1
    · exact wp_cond_true ht (ih1 hok.1 fr hp nx K a G Q hm hf hQ h1)
    · exact wp_cond_false ht (ih2 hok.2 fr hp nx K a G Q hm hf hQ h1)
    · next v =>
      have ht : a.eval c = .bool v := ht
      have other : ((v = true → denC E na hi x fr hp nx K) ∧ (v = false → denC E na hi y fr hp nx K)) → (Code.cond c x y).wp P Q a G.w := fun h1 => by
        cases v with
        | true => exact wp_cond_true ht (ih1 hok.1 fr hp nx K a G Q hm hf hQ (h1.1 rfl))
        | false => exact wp_cond_false ht (ih2 hok.2 fr hp nx K a G Q hm hf hQ (h1.2 rfl))
      cases c with
      | tmp t =>
        have hget : t < fr.length → a.tmps[t]? = some (.bool v) := fun hlt => by
          rw [hf.1] at hlt
          have : a.tmps.getD t undef = .bool v := ht
          simp [Array.getD, hlt] at this
          simp [hlt, this]
        have hset : ∀ y : T, t < fr.length → tVal G y (.bool v) → frOk G (fr.set t y) a.tmps := fun y hlt hy => by
          have hg := hget hlt
          have hdl : t < a.tmps.size := (Array.getElem?_eq_some_iff.1 hg).1
          have := hf.set (i := t) (t := y) (v := .bool v) hy
          rwa [show a.tmps.setIfInBounds t (.bool v) = a.tmps from by
            apply Array.ext'
            have hg2 : a.tmps[t] = .bool v := (Array.getElem?_eq_some_iff.1 hg).2
            rw [Array.setIfInBounds_def, dif_pos hdl, ← hg2]
            simp] at this
        cases v with
        | true =>
          obtain ⟨q1, q2⟩ := lsetK_out (h1.1 rfl)
          exact wp_cond_true ht (ih1 hok.1 _ hp nx K a G Q hm (hset (.v .tt) q1 rfl) hQ q2)
        | false =>
          obtain ⟨q1, q2⟩ := lsetK_out (h1.2 rfl)
          exact wp_cond_false ht (ih2 hok.2 _ hp nx K a G Q hm (hset (.v .ff) q1 rfl) hQ q2)
      | _ => exact other h1
    · exact h1.elim
  | block i c ih =>
    intro hok fr hp nx K a G Q hm hf hQ h
    refine wp_block (ih (by simpa [codeOk] using hok) fr hp nx _ a G _ hm hf ?_ h)
    intro e fr' hp' nx' a' G' hm' hs hf' hds hk
    cases e with
    | exit j =>
      simp only [Exit.inBlock]
      dsimp only at hk
      revert hk
      cases hb : Nat.beq j i with
      | true =>
        intro hk
        obtain rfl := nat_beq_eq hb
        simp only [if_pos]
        exact hQ _ _ _ _ _ _ hm' hs hf' hds hk
      | false =>
        intro hk
        have hne : j ≠ i := by rintro rfl; rw [nat_beq_self] at hb; cases hb
        rw [if_neg hne]
        exact hQ _ _ _ _ _ _ hm' hs hf' hds hk
    | _ => exact hQ _ _ _ _ _ _ hm' hs hf' hds hk
  | exit i => intro _ fr hp nx K a G Q hm hf hQ h; exact wp_exit (hQ _ _ _ _ _ _ hm (Since.refl na G) hf rfl h)
  | ret => intro _ fr hp nx K a G Q hm hf hQ h; exact wp_ret (hQ _ _ _ _ _ _ hm (Since.refl na G) hf rfl h)
  | loop c ih =>
    intro hok fr hp nx K a G Q hm hf hQ h
    have hok : codeOk hi.plans c = true := by simpa [codeOk] using hok
    obtain ⟨A, h⟩ := annK_out (show annK hi.anns (firstReg c) _ from h)
    split at h
    · exact h.elim
    · next hchk =>
      simp only [Bool.and_eq_true] at hchk
      have hle := Nat.le_of_ble_eq_true hchk.1
      have hmap : ∀ q r, mapF (anchors na) q = some r → q < A.nx := fun q r hq => Nat.lt_of_lt_of_le (anchors_lt hq) hle
      obtain ⟨ts, h1, hts⟩ := getsK_out hf h
      obtain ⟨x0, d0, im0, L0, ⟨hinv0, hbody⟩, hT0⟩ := st_told hm hmap h1
      have hsize : ∀ (vs : Array Value), fr.length = vs.size → (anys fr).length = vs.size := fun vs h => by rw [anys_eq]; simpa using h
      -- the state at the loop's head
      let I : Nat → Act → World → Prop := fun n a' w' => ∃ x G', w' = G'.w ∧ a'.defers = a.defers ∧ fr.length = a'.tmps.size ∧ Since na G G' ∧ Mdl w0 F0 G' (CSh.encs id A.cs x).1 A.nx ∧
        frOk G' (Sh.encs id (A.ss.map (·.2)) (CSh.encs id A.cs x).2).1 ⟨A.ss.map fun p => a'.tmps.getD p.1 undef⟩ ∧ A.inv x0 x ∧ A.mu x = n
      have since_told : ∀ {G1 : Cx} {nx1 : Nat} {ts : List T} {x : Gh A.cs (A.ss.map (·.2))} {d : D} {im' : Nat → Prop} {L}, Told w0 F0 G1 nx1 A.nx A.cs (A.ss.map (·.2)) (anchors na) ts x d im' L → Since na G1 (ctxOf G1 im' d) := fun hT =>
        ⟨hT.ext0, fun q hq b hb => by rw [hT.anchor hq]; exact hb⟩
      refine wp_loop_ghost I (A.mu x0) ⟨x0, ctxOf G im0 d0, rfl, rfl, hf.1, since_told hT0, hT0.mdl hchk.2, hT0.vals _ (ctxOf_compat _ _) _ hts, hinv0.out, rfl⟩ ?_
      rintro n a1 w1 ⟨x, G1, rfl, hds1, hlen1, hs1, hm1, hf1, hinv1, hmu1⟩
      have hb := ghK_out hm1 hf1 (ghAll_out hbody x hinv1)
      rw [CSh.encsK_eq] at hb
      rw [Sh.encsK_eq] at hb
      obtain ⟨fr1, hb2, hfr1⟩ := setsK_out (frOk_anys hlen1) hf1 hb
      have hlen2 : fr1.length = a1.tmps.size := hfr1.1
      refine ih hok fr1 _ A.nx _ a1 G1 _ hm1 hfr1 ?_ hb2
      intro e fr' hp' nx' a' G' hm' hs' hf' hds' hk
      cases e with
      | normal =>
        have same : ∀ {l m : List T} {q : Prop}, sameLenK l m q → l.length = m.length ∧ q := by
          intro l
          induction l with
          | nil => intro m q h; cases m <;> first | exact ⟨rfl, h⟩ | exact h.elim
          | cons a l ih =>
            intro m q h
            cases m with
            | nil => exact h.elim
            | cons b m => obtain ⟨h1, h2⟩ := ih (show sameLenK l m q from h); exact ⟨by simp [h1], h2⟩
        obtain ⟨hl, hk⟩ := same hk
        obtain ⟨ts', h3, hts'⟩ := getsK_out hf' hk
        obtain ⟨y, d, im', L, hy, hT⟩ := st_told hm' hmap h3
        have hy := hy.out
        refine ⟨A.mu y, hmu1 ▸ hy.2, y, ctxOf G' im' d, rfl, hds'.trans hds1, hl.trans hf'.1, (hs1.trans hs').trans (since_told hT), hT.mdl hchk.2, hT.vals _ (ctxOf_compat _ _) _ hts', hy.1, rfl⟩
      | _ => exact hQ _ _ _ _ _ _ hm' (hs1.trans hs') hf' (hds'.trans hds1) hk
  | _ => intro _ fr hp nx K a G Q hm hf hQ h; exact h.elim

end
end Go.J
