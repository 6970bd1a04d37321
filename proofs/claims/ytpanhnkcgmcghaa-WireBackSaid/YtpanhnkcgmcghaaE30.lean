/-
  THE ENGINE, part 30: a call, by its contract.
-/
import Derived.Test.YtpanhnkcgmcghaaE29
set_option linter.unusedSimpArgs false
set_option linter.unusedVariables false
set_option linter.unusedSectionVars false

namespace Go.J

section
variable {P : Program} {E : Env}

theorem keepK_out {map : List (Nat × Option Nat)} {cs : List (Nat × CSh)} : ∀ {l : List Nat} {k : Prop}, keepK map cs l k → k ∧ ∀ q, q ∈ l → inIds q cs = true ∧ ∃ r, mapF map q = some (some r)
  | [], k, h => ⟨h, fun q hq => (by cases hq)⟩
  | q :: l, k, h => by
    unfold keepK at h
    split at h
    · next hi =>
      obtain ⟨r, hr, h2⟩ := mapK_out h
      cases r with
      | none => exact h2.elim
      | some r =>
        obtain ⟨h3, h4⟩ := keepK_out h2
        refine ⟨h3, fun q' hq' => ?_⟩
        rcases List.mem_cons.1 hq' with rfl | hq'
        · exact ⟨hi, r, hr⟩
        · exact h4 q' hq'
    · exact h.elim

theorem inIds_out {q : Nat} : ∀ {cs : List (Nat × CSh)}, inIds q cs = true → q ∈ cs.map (·.1)
  | [], h => by simp [inIds] at h
  | (q', c) :: cs, h => by
    simp only [inIds, Bool.or_eq_true] at h
    rcases h with h | h
    · simp [nat_beq_eq h]
    · simp only [List.map_cons, List.mem_cons]
      exact .inr (inIds_out h)

theorem renN_lt {map : List (Nat × Option Nat)} {n nx q r : Nat} (hq : q < n) (h : mapF map q = some (some r)) : renN map n nx q = r := by
  have hb : Nat.blt q n = true := by simpa [Nat.blt_eq] using hq
  unfold renN
  rw [hb]
  simp only []
  induction map with
  | nil => simp [mapF] at h
  | cons p l ih =>
    obtain ⟨q', r'⟩ := p
    unfold mapF at h
    unfold renN.go
    cases hbq : Nat.beq q' q with
    | true => rw [hbq] at h; simp at h; simp [h]
    | false => rw [hbq] at h; exact ih h
theorem renN_ge {map : List (Nat × Option Nat)} {n nx q : Nat} (hq : n ≤ q) : renN map n nx q = nx + (q - n) := by
  have hb : Nat.blt q n = false := by
    cases hb : Nat.blt q n with
    | false => rfl
    | true => have : q < n := by simpa [Nat.blt_eq] using hb
              omega
  unfold renN
  rw [hb]

/-! What holds in the callee's numbers holds in the caller's. -/
theorem bare_cells {im im' : Nat → Prop} {w : World} : ∀ (e : El), e.bare = true → ∀ (x : e.ty) (cs : List Value), cellsOf im w e x cs → cellsOf im' w e x cs
  | .u8, _, _, _, h => h
  | .int _, _, _, _, h => h
  | .bool, _, _, _, h => h
  | .str, _, _, _, h => h
  | .nil, _, _, _, h => h
  | .rd _, hb, _, _, _ => by cases hb
  | .cons e es, hb, x, cs, ⟨c1, c2, e1, k1, k2⟩ => by
    simp only [El.bare, Bool.and_eq_true] at hb
    exact ⟨c1, c2, e1, bare_cells e hb.1 x.1 c1 k1, bare_cells es hb.2 x.2 c2 k2⟩
  | .ar n e, hb, x, cs, ⟨k1, k2⟩ => ⟨k1, listOf.mono (fun x cs h => bare_cells e hb x cs h) _ _ k2⟩

structure Move (G3 G4 : Cx) (ρ : Nat → Nat) (bare : Bool) : Prop where
  w : G4.w = G3.w
  im : bare = false → ∀ b, G3.im b → G4.im b

theorem Move.cells {G3 G4 : Cx} {ρ : Nat → Nat} {bare : Bool} (h : Move G3 G4 ρ bare) {e : El} (hb : bare = true → e.bare = true) {x : e.ty} {cs : List Value} (hc : cellsOf G3.im G3.w e x cs) : cellsOf G4.im G4.w e x cs := by
  cases bare with
  | false => exact cellsOf.mono (h.im rfl) (fun _ _ => by rw [h.w]) (by rw [h.w]; exact Nat.le_refl _) e x cs hc
  | true => rw [h.w]; exact bare_cells e (hb rfl) x cs hc

theorem Move.enc_val {G3 G4 : Cx} {ρ : Nat → Nat} {bare : Bool} (h : Move G3 G4 ρ bare) {e : El} (hb : bare = true → e.bare = true) {x : e.ty} {v : Value} (hv : tVal1 G3 (e.enc x) v) : tVal1 G4 (e.enc x) v := by
  cases e with
  | rd e =>
    obtain ⟨A, c, e1, _⟩ := id hv
    exact h.cells (e := .rd e) hb hv
  | cons e es => obtain ⟨cs, e1, hc⟩ := hv; exact ⟨cs, e1, (tCells_enc (.cons e es) x cs).2 (h.cells hb ((tCells_enc (.cons e es) x cs).1 hc))⟩
  | nil => exact hv
  | ar n e => obtain ⟨cs, e1, hc⟩ := hv; exact ⟨cs, e1, (tCells_enc (.ar n e) x cs).2 (h.cells hb ((tCells_enc (.ar n e) x cs).1 hc))⟩
  | _ => exact hv

/-- The numbers that keep their meaning. -/
def Good (G3 G4 : Cx) (ρ : Nat → Nat) (n : Nat) (ids : List Nat) : Prop := ∀ q, (n ≤ q ∨ q ∈ ids) → ∀ b, G3.rho q = some b → G4.rho (ρ q) = some b

theorem mem_ids {n q : Nat} : n ≤ q ∨ q ∈ (match Nat.blt q n with
    | true => [q]
    | false => []) := by
  by_cases h : q < n
  · have hb : Nat.blt q n = true := by simpa [Nat.blt_eq] using h
    rw [hb]; exact .inr (by simp)
  · exact .inl (by omega)

theorem Good.sub {G3 G4 : Cx} {ρ : Nat → Nat} {n : Nat} {l l' : List Nat} (h : Good G3 G4 ρ n l) (hs : ∀ q, q ∈ l' → q ∈ l) : Good G3 G4 ρ n l' := fun q hq => h q (hq.imp id (hs q))

theorem Move.sh {G3 G4 : Cx} {ρ : Nat → Nat} {bare : Bool} {n : Nat} (h : Move G3 G4 ρ bare) : ∀ (s : Sh) {R : Type} (x : s.add R), (bare = true → s.bare = true) → Good G3 G4 ρ n (s.ids n) →
    (s.enc ρ x).2 = (s.enc id x).2 ∧ (∀ cs, tCells G3 (s.enc id x).1 cs → tCells G4 (s.enc ρ x).1 cs) ∧ (∀ v, tVal1 G3 (s.enc id x).1 v → tVal1 G4 (s.enc ρ x).1 v)
  | .el e, _, x, hb, _ => ⟨rfl, fun cs hc => (tCells_enc e x.1 cs).2 (h.cells hb ((tCells_enc e x.1 cs).1 hc)), fun v hv => h.enc_val hb hv⟩
  | .lend e, _, x, hb, _ => by
    cases bare with
    | true => exact absurd (hb rfl) (by simp [Sh.bare])
    | false =>
      have hv : ∀ v, vOk G3 (.rd e x.1) v → vOk G4 (.rd e x.1) v := fun v hv => h.cells (e := .rd e) (fun hh => by cases hh) hv
      exact ⟨rfl, fun cs ⟨c, e1, e2, e3⟩ => ⟨c, e1, e2, hv c e3⟩, hv⟩
  | .rp e, _, x, hb, _ => by
    cases bare with
    | true => exact absurd (hb rfl) (by simp [Sh.bare])
    | false =>
      have hv : ∀ v, vOk G3 (.rp e [x.1] 0 []) v → vOk G4 (.rp e [x.1] 0 []) v := fun v ⟨h0, b, o, css, e1, e2, e3, e4, e5⟩ =>
        ⟨h0, b, o, css, e1, h.im rfl b e2, by rw [h.w]; exact e3, by rw [h.w]; exact e4, listOf.mono (fun x cs hc => h.cells (fun hh => by cases hh) hc) _ _ e5⟩
      exact ⟨rfl, fun cs ⟨c, e1, e2, e3⟩ => ⟨c, e1, e2, hv c e3⟩, hv⟩
  | .own q, _, x, _, hg => by
    have hv : ∀ v, vOk G3 (.own q) v → vOk G4 (.own (ρ q)) v := fun v ⟨b, e1, e2⟩ => ⟨b, hg q mem_ids b e1, e2⟩
    exact ⟨rfl, fun cs ⟨c, e1, e2, e3⟩ => ⟨c, e1, e2, hv c e3⟩, hv⟩
  | .ref q, _, x, _, hg => by
    have hv : ∀ v, vOk G3 (.ptr q []) v → vOk G4 (.ptr (ρ q) []) v := fun v ⟨b, e1, e2⟩ => ⟨b, hg q mem_ids b e1, e2⟩
    exact ⟨rfl, fun cs ⟨c, e1, e2, e3⟩ => ⟨c, e1, e2, hv c e3⟩, hv⟩
  | .any, _, x, _, _ => ⟨rfl, fun cs hc => hc, fun v hv => hv⟩
  | .nil, _, x, _, _ => ⟨rfl, fun cs hc => hc, fun v hv => hv⟩
  | .cons s ss, _, x, hb, hg => by
    have hb1 : bare = true → s.bare = true := fun e => by have := hb e; simp only [Sh.bare, Bool.and_eq_true] at this; exact this.1
    have hb2 : bare = true → ss.bare = true := fun e => by have := hb e; simp only [Sh.bare, Bool.and_eq_true] at this; exact this.2
    obtain ⟨e1, c1, _⟩ := Move.sh (n := n) h s x hb1 (hg.sub fun q hq => by simp [Sh.ids, hq])
    obtain ⟨e2, c2, _⟩ := Move.sh (n := n) h ss (s.enc ρ x).2 hb2 (hg.sub fun q hq => by simp [Sh.ids, hq])
    have hc : ∀ cs, tCells G3 (Sh.enc id (.cons s ss) x).1 cs → tCells G4 (Sh.enc ρ (.cons s ss) x).1 cs := fun cs ⟨k1, k2, e, m1, m2⟩ => by
      refine ⟨k1, k2, e, c1 k1 m1, ?_⟩
      refine c2 k2 ?_
      rw [e1]
      exact m2
    refine ⟨?_, hc, fun v ⟨cs, e, m⟩ => ⟨cs, e, hc cs m⟩⟩
    simp only [Sh.enc]
    rw [e2, e1]

theorem Move.shs {G3 G4 : Cx} {ρ : Nat → Nat} {bare : Bool} {n : Nat} (h : Move G3 G4 ρ bare) : ∀ (ss : List Sh) {R : Type} (x : Sh.adds ss R), (bare = true → Sh.bares ss = true) → Good G3 G4 ρ n (Sh.idss n ss) →
    ∀ vs : List Value, frOk G3 (Sh.encs id ss x).1 ⟨vs⟩ → frOk G4 (Sh.encs ρ ss x).1 ⟨vs⟩
  | [], _, x, _, _, vs, hf => ⟨hf.1, fun i t ht => by simp [Sh.encs] at ht⟩
  | s :: ss, _, x, hb, hg, vs, hf => by
    have hb1 : bare = true → s.bare = true := fun e => by have := hb e; simp only [Sh.bares, Bool.and_eq_true] at this; exact this.1
    have hb2 : bare = true → Sh.bares ss = true := fun e => by have := hb e; simp only [Sh.bares, Bool.and_eq_true] at this; exact this.2
    obtain ⟨e1, _, v1⟩ := h.sh (n := n) s x hb1 (hg.sub fun q hq => by simp [Sh.idss, hq])
    cases vs with
    | nil => have := hf.1; simp [Sh.encs] at this
    | cons v vs =>
      obtain ⟨k1, k2⟩ := frOk_cons.1 hf
      refine frOk_cons.2 ⟨tVal_from1 (v1 v ?_), ?_⟩
      · have hnt : ∀ ts, (s.enc id x).1 ≠ .tup ts := fun ts => by
          cases s with
          | el e => cases e <;> simp [Sh.enc, El.enc]
          | _ => simp [Sh.enc]
        revert k1
        cases hq : (s.enc id x).1 with
        | tup ts => exact (hnt ts hq).elim
        | _ => exact fun h => h
      · refine Move.shs (n := n) h ss _ hb2 (hg.sub fun q hq => by simp [Sh.idss, hq]) vs ?_
        rw [e1]
        exact k2

/-- The blocks, in the caller's numbers. -/
theorem Move.chunks {G3 G4 : Cx} {ρ : Nat → Nat} {bare : Bool} {n : Nat} (h : Move G3 G4 ρ bare) : ∀ (cs : List (Nat × CSh)) {R : Type} (x : CSh.adds cs R), (bare = true → CSh.bares cs = true) → Good G3 G4 ρ n (CSh.idss n cs) →
    (CSh.encs ρ cs x).2 = (CSh.encs id cs x).2 ∧ ∀ p, p ∈ (CSh.encs ρ cs x).1 → ∃ q c, p.1 = ρ q ∧ (q, c) ∈ (CSh.encs id cs x).1 ∧ c.rw = p.2.rw ∧ (n ≤ q ∨ q ∈ CSh.idss n cs) ∧ ∀ b, chunkOk G3 c b → chunkOk G4 p.2 b
  | [], _, x, _, _ => ⟨rfl, fun p hp => (by cases hp)⟩
  | (q, c) :: cs, _, x, hb, hg => by
    have hb2 : bare = true → CSh.bares cs = true := fun e => by have := hb e; cases c <;> simp only [CSh.bares, Bool.and_eq_true] at this <;> exact this.2
    have hsub : ∀ q', q' ∈ CSh.idss n cs → q' ∈ CSh.idss n ((q, c) :: cs) := fun q' hq' => by
      cases c <;> simp only [CSh.idss] <;> cases Nat.blt q n <;> simp [hq']
    have hq : n ≤ q ∨ q ∈ CSh.idss n ((q, c) :: cs) := by
      by_cases hlt : q < n
      · have hbl : Nat.blt q n = true := by simpa [Nat.blt_eq] using hlt
        right
        cases c <;> simp only [CSh.idss, hbl] <;> simp
      · exact .inl (by omega)
    have one : (c.enc ρ x).2 = (c.enc id x).2 ∧ (c.enc id x).1.rw = (c.enc ρ x).1.rw ∧ ∀ b, chunkOk G3 (c.enc id x).1 b → chunkOk G4 (c.enc ρ x).1 b := by
      cases c with
      | row ty e =>
        have hbe : bare = true → e.bare = true := fun e => by have := hb e; simp only [CSh.bares, Bool.and_eq_true] at this; exact this.1
        exact ⟨rfl, rfl, fun b ⟨k1, k2, css, k3, k4⟩ => ⟨k1, k2, css, by rw [h.w]; exact k3, listOf.mono (fun x cs hc => h.cells hbe hc) _ _ k4⟩⟩
      | own s =>
        have hbe : bare = true → s.bare = true := fun e => by have := hb e; simp only [CSh.bares, Bool.and_eq_true] at this; exact this.1
        obtain ⟨e1, c1, _⟩ := h.sh (n := n) s x hbe (hg.sub fun q' hq' => by simp only [CSh.idss]; cases Nat.blt q n <;> simp [hq'])
        exact ⟨e1, rfl, fun b ⟨k1, cs', ty, k2, k3⟩ => ⟨k1, cs', ty, by rw [h.w]; exact k2, c1 cs' k3⟩⟩
    obtain ⟨e2, r2⟩ := Move.chunks (n := n) h cs (c.enc ρ x).2 hb2 (hg.sub hsub)
    refine ⟨?_, fun p hp => ?_⟩
    · simp only [CSh.encs]
      rw [e2, one.1]
    · simp only [CSh.encs] at hp
      rcases List.mem_cons.1 hp with rfl | hp
      · exact ⟨q, (c.enc id x).1, rfl, by simp [CSh.encs], one.2.1, hq, one.2.2⟩
      · obtain ⟨q', c', m1, m2, m3, m4, m5⟩ := r2 p hp
        refine ⟨q', c', m1, ?_, m3, m4.imp id (hsub q'), m5⟩
        simp only [CSh.encs]
        rw [← one.1]
        exact List.mem_cons_of_mem _ m2

end
end Go.J
