/-
  THE ENGINE, part 26: a state told by its ghosts, in numbers of its own.
-/
import Derived.Test.YtpanhnkcgmcghaaE25
set_option linter.unusedSimpArgs false
set_option linter.unusedVariables false
set_option linter.unusedSectionVars false

namespace Go.J

section
variable {w0 : World} {F0 : Base} {G : Cx} {nx : Nat}

/-- The context that knows the state by the ghosts' numbers. -/
def ctxOf (G : Cx) (im : Nat → Prop) (d : D) : Cx :=
  ⟨fun q => match mapF d.map q with
    | some r => tgt G r
    | none => none, fun b => im b ∨ ∃ r b0, r ∈ d.lent ∧ G.rho r = some b0 ∧ b0.nil = false ∧ b = b0.blk, G.w⟩

theorem ctxOf_compat (im : Nat → Prop) (d : D) : Compat G im d (ctxOf G im d) :=
  ⟨rfl, fun b h => .inl h, fun q r h => by simp [ctxOf, h], fun r b h1 h2 h3 => .inr ⟨r, b, h1, h2, h3, rfl⟩⟩

/-- A state that was told by its ghosts. -/
structure Told (w0 : World) (F0 : Base) (G : Cx) (nx n : Nat) (cs : List (Nat × CSh)) (ss : List Sh) (map : List (Nat × Option Nat)) (ts : List T) (x : Gh cs ss) (d : D) (im' : Nat → Prop) (L : List (Nat × Chunk × Option (Nat × Chunk))) : Prop where
  di : DI w0 F0 G nx im' d (L.filterMap (·.2.2))
  n : d.n = n
  map : ∀ q r, mapF map q = some r → mapF d.map q = some r
  cells : (CSh.encs id cs x).1 = L.map fun p => (p.1, p.2.1)
  ids : L.map (·.1) = cs.map (·.1)
  each : ∀ p, p ∈ L → p.2.1.rw = true ∧ mapF d.map p.1 = some (p.2.2.map (·.1)) ∧ (∀ s, p.2.2 = some s → s.2.rw = true ∧ s.1 ∉ d.lent) ∧
    ∀ G' b, Compat G im' d G' → (∀ s, p.2.2 = some s → G.rho s.1 = some b) → (p.2.2 = none → b = nilB) → chunkOk G' p.2.1 b
  vals : ∀ G', Compat G im' d G' → ∀ vs : List Value, frOk G ts ⟨vs⟩ → frOk G' (Sh.encs id ss (CSh.encs id cs x).2).1 ⟨vs⟩

theorem st_told {cs : List (Nat × CSh)} {ss : List Sh} {ts : List T} {hp : Hp} {n : Nat} {map : List (Nat × Option Nat)} {k : Gh cs ss → D → Prop} (hm : Mdl w0 F0 G hp nx) (hlt : ∀ q r, mapF map q = some r → q < n) (h : decSt cs ss ts hp n map k) :
    ∃ x d im' L, k x d ∧ Told w0 F0 G nx n cs ss map ts x d im' L := by
  have hd : DI w0 F0 G nx G.im ⟨n, hp, map, []⟩ [] := ⟨by simpa using hm, fun _ h => h, hlt, fun r hr => by cases hr⟩
  obtain ⟨f, d1, im1, h1, hd1, hle1, ts', e1, hv1⟩ := decs_out ss ts _ _ _ _ hd h
  obtain ⟨g, d2, im2, L, h2, o⟩ := chunks_out cs d1 _ im1 [] hd1 h1
  rw [ghF_eq] at h2
  have henc := o.enc _ (f Unit ())
  refine ⟨_, d2, im2, L, h2, by simpa using o.di, o.le.n.trans hle1.n, fun q r hq => o.le.map q r (hle1.map q r hq), by rw [henc], o.ids, o.each, fun G' hG vs hf => ?_⟩
  rw [henc]
  simp only [e1]
  exact hv1 G' (hG.le o.le) vs hf

/-- Where a block of the new numbers lies. -/
theorem Told.src {n : Nat} {cs : List (Nat × CSh)} {ss : List Sh} {map : List (Nat × Option Nat)} {ts : List T} {x : Gh cs ss} {d : D} {im' : Nat → Prop} {L : List (Nat × Chunk × Option (Nat × Chunk))} (h : Told w0 F0 G nx n cs ss map ts x d im' L)
    {p : Nat × Chunk × Option (Nat × Chunk)} (hp : p ∈ L) : ∃ b, (ctxOf G im' d).rho p.1 = some b ∧ (∀ s, p.2.2 = some s → G.rho s.1 = some b ∧ (s.1, s.2) ∈ d.hp ++ L.filterMap (·.2.2)) ∧ (p.2.2 = none → b = nilB) := by
  obtain ⟨h1, h2, h3, h4⟩ := h.each p hp
  cases hs : p.2.2 with
  | none =>
    refine ⟨nilB, ?_, fun s hs' => (by cases hs'), fun _ => rfl⟩
    rw [hs] at h2
    simp only [ctxOf, h2]
    rfl
  | some s =>
    rw [hs] at h2
    have hmem : (s.1, s.2) ∈ d.hp ++ L.filterMap (·.2.2) := by
      simp only [List.mem_append, List.mem_filterMap]
      exact .inr ⟨p, hp, hs⟩
    obtain ⟨b, hr, _⟩ := h.di.mdl.chunk s.1 s.2 hmem
    refine ⟨b, ?_, fun s' hs' => ?_, fun hn => by cases hn⟩
    · simp only [ctxOf, h2]
      exact hr
    · cases hs'
      exact ⟨hr, hmem⟩

theorem Told.apart {n : Nat} {cs : List (Nat × CSh)} {ss : List Sh} {map : List (Nat × Option Nat)} {ts : List T} {x : Gh cs ss} {d : D} {im' : Nat → Prop} {L : List (Nat × Chunk × Option (Nat × Chunk))} (h : Told w0 F0 G nx n cs ss map ts x d im' L)
    {p1 p2 : Nat × Chunk × Option (Nat × Chunk)} (h1 : p1 ∈ L) (h2 : p2 ∈ L) (hne : p1 ≠ p2) {s1 s2 : Nat × Chunk} (e1 : p1.2.2 = some s1) (e2 : p2.2.2 = some s2) : s1.1 ≠ s2.1 := by
  intro he
  have hnd0 := h.di.mdl.ids
  rw [List.map_append] at hnd0
  have hnd := (List.nodup_append.1 hnd0).2.1
  clear h hnd0
  induction L with
  | nil => cases h1
  | cons p L ih =>
    have key : ∀ {p q : Nat × Chunk × Option (Nat × Chunk)} {s t : Nat × Chunk}, ((p :: L).filterMap (·.2.2) |>.map (·.1)).Nodup → q ∈ L → p.2.2 = some s → q.2.2 = some t → s.1 = t.1 → False := by
      intro p q s t hn hq hs ht hst
      rw [List.filterMap_cons_some (by exact hs), List.map_cons, List.nodup_cons] at hn
      exact hn.1 (List.mem_map.2 ⟨t, List.mem_filterMap.2 ⟨q, hq, ht⟩, hst.symm⟩)
    rcases List.mem_cons.1 h1 with e3 | h3 <;> rcases List.mem_cons.1 h2 with e4 | h4
    · exact hne (e3.trans e4.symm)
    · subst e3; exact key hnd h4 e1 e2 he
    · subst e4; exact key hnd h3 e2 e1 he.symm
    · refine ih h3 h4 ?_
      cases hp : p.2.2 with
      | none => rwa [List.filterMap_cons_none (by exact hp)] at hnd
      | some s =>
        rw [List.filterMap_cons_some (by exact hp), List.map_cons, List.nodup_cons] at hnd
        exact hnd.2

theorem Told.mem {n : Nat} {cs : List (Nat × CSh)} {ss : List Sh} {map : List (Nat × Option Nat)} {ts : List T} {x : Gh cs ss} {d : D} {im' : Nat → Prop} {L : List (Nat × Chunk × Option (Nat × Chunk))} (h : Told w0 F0 G nx n cs ss map ts x d im' L)
    {q : Nat} {c : Chunk} (hm : (q, c) ∈ (CSh.encs id cs x).1) : ∃ s, (q, c, s) ∈ L := by
  rw [h.cells] at hm
  obtain ⟨p, hp, e⟩ := List.mem_map.1 hm
  cases e
  exact ⟨p.2.2, hp⟩

theorem Told.inj {n : Nat} {cs : List (Nat × CSh)} {ss : List Sh} {map : List (Nat × Option Nat)} {ts : List T} {x : Gh cs ss} {d : D} {im' : Nat → Prop} {L : List (Nat × Chunk × Option (Nat × Chunk))} (h : Told w0 F0 G nx n cs ss map ts x d im' L) (hids : idsOk cs = true) :
    ((CSh.encs id cs x).1.map (·.1)).Nodup := by
  have : (CSh.encs id cs x).1.map (·.1) = cs.map (·.1) := by
    rw [h.cells, List.map_map, ← h.ids]
    rfl
  rw [this]
  exact idsOk_out hids

/-- The lent blocks, and those that nobody writes, are no blocks of ours. -/
theorem Told.notIm {n : Nat} {cs : List (Nat × CSh)} {ss : List Sh} {map : List (Nat × Option Nat)} {ts : List T} {x : Gh cs ss} {d : D} {im' : Nat → Prop} {L : List (Nat × Chunk × Option (Nat × Chunk))} (h : Told w0 F0 G nx n cs ss map ts x d im' L)
    {p : Nat × Chunk × Option (Nat × Chunk)} (hp : p ∈ L) {s : Nat × Chunk} (hs : p.2.2 = some s) {b : B} (hr : G.rho s.1 = some b) (hn : b.nil = false) : ¬ (ctxOf G im' d).im b.blk := by
  obtain ⟨_, _, h3, _⟩ := h.each p hp
  obtain ⟨hrw, hni⟩ := h3 s hs
  have hmem : (s.1, s.2) ∈ d.hp ++ L.filterMap (·.2.2) := by
    simp only [List.mem_append, List.mem_filterMap]
    exact .inr ⟨p, hp, hs⟩
  have hmi := h.di.mdl.mine s.1 s.2 b hmem hrw hr hn
  rintro (hi | ⟨r, b0, k1, k2, k3, k5⟩)
  · exact hmi.2.2 hi
  · obtain ⟨c, hc, hor⟩ := h.di.lentIn r k1
    have hne : s.1 ≠ r := by rintro rfl; exact hni k1
    rcases hor with hcr | him
    · exact h.di.mdl.apart s.1 s.2 r c b b0 hmem (by simp [hc]) hne hrw hcr hr k2 hn k3 k5
    · exact hmi.2.2 (k5 ▸ him b0 k2 k3)


/-- The state, in the ghosts' numbers, is the same state. -/
theorem Told.mdl {n : Nat} {cs : List (Nat × CSh)} {ss : List Sh} {map : List (Nat × Option Nat)} {ts : List T} {x : Gh cs ss} {d : D} {im' : Nat → Prop} {L : List (Nat × Chunk × Option (Nat × Chunk))} (h : Told w0 F0 G nx n cs ss map ts x d im' L) (hids : idsOk cs = true) :
    Mdl w0 F0 (ctxOf G im' d) (CSh.encs id cs x).1 n := by
  have hm := h.di.mdl
  have hlt : ∀ q b, (ctxOf G im' d).rho q = some b → q < n := fun q b hq => by
    cases hf : mapF d.map q with
    | none => simp [ctxOf, hf] at hq
    | some r => rw [← h.n]; exact h.di.lt q r hf
  refine ⟨hm.os, hm.tape, hm.output, hm.size, hm.keep, fun b hb => ?_, fun q hq => ?_, fun q c hqc => ?_, h.inj hids, fun q1 c1 q2 c2 b1 b2 h1 h2 hne hw1 hw2 hr1 hr2 hn1 hn2 => ?_, fun q c b hqc hw hr hn => ?_, fun b hb => ?_⟩
  · rcases hb with hb | ⟨r, b0, k1, k2, k3, rfl⟩
    · exact hm.imLt b hb
    · obtain ⟨c, hc, hor⟩ := h.di.lentIn r k1
      rcases hor with hrw | him
      · exact (hm.mine r c b0 (by simp [hc]) hrw k2 k3).2.1
      · exact hm.imLt _ (him b0 k2 k3)
  · cases hr : (ctxOf G im' d).rho q with
    | none => rfl
    | some b => have := hlt q b hr; omega
  · obtain ⟨s, hs⟩ := h.mem hqc
    obtain ⟨b, hb, hsrc, hnil⟩ := h.src hs
    exact ⟨b, hb, (h.each _ hs).2.2.2 _ b (ctxOf_compat im' d) (fun s hs => (hsrc s hs).1) hnil⟩
  · obtain ⟨s1, hs1⟩ := h.mem h1
    obtain ⟨s2, hs2⟩ := h.mem h2
    obtain ⟨b1', hb1, hsrc1, hnil1⟩ := h.src hs1
    obtain ⟨b2', hb2, hsrc2, hnil2⟩ := h.src hs2
    obtain rfl : b1 = b1' := Option.some.inj (hr1.symm.trans hb1)
    obtain rfl : b2 = b2' := Option.some.inj (hr2.symm.trans hb2)
    cases s1 with
    | none => rw [hnil1 rfl] at hn1; cases hn1
    | some s1 =>
      cases s2 with
      | none => rw [hnil2 rfl] at hn2; cases hn2
      | some s2 =>
        obtain ⟨e1, m1⟩ := hsrc1 s1 rfl
        obtain ⟨e2, m2⟩ := hsrc2 s2 rfl
        exact hm.apart s1.1 s1.2 s2.1 s2.2 b1 b2 m1 m2 (h.apart hs1 hs2 (fun e => hne (by cases e; rfl)) rfl rfl) ((h.each _ hs1).2.2.1 s1 rfl).1 ((h.each _ hs2).2.2.1 s2 rfl).1 e1 e2 hn1 hn2
  · obtain ⟨s, hs⟩ := h.mem hqc
    obtain ⟨b', hb, hsrc, hnil⟩ := h.src hs
    obtain rfl : b = b' := Option.some.inj (hr.symm.trans hb)
    cases s with
    | none => rw [hnil rfl] at hn; cases hn
    | some s =>
      obtain ⟨e1, m1⟩ := hsrc s rfl
      have hmi := hm.mine s.1 s.2 b m1 ((h.each _ hs).2.2.1 s rfl).1 e1 hn
      exact ⟨hmi.1, hmi.2.1, h.notIm hs rfl e1 hn⟩
  · rcases hb with hb | ⟨r, b0, k1, k2, k3, rfl⟩
    · exact hm.imNew b hb
    · obtain ⟨c, hc, hor⟩ := h.di.lentIn r k1
      rcases hor with hrw | him
      · exact .inr (hm.mine r c b0 (by simp [hc]) hrw k2 k3).1
      · exact hm.imNew _ (him b0 k2 k3)

theorem Told.ext0 {n : Nat} {cs : List (Nat × CSh)} {ss : List Sh} {map : List (Nat × Option Nat)} {ts : List T} {x : Gh cs ss} {d : D} {im' : Nat → Prop} {L : List (Nat × Chunk × Option (Nat × Chunk))} (h : Told w0 F0 G nx n cs ss map ts x d im' L) : Ext0 G (ctxOf G im' d) :=
  ⟨fun b hb => .inl (h.di.im b hb), fun _ _ => rfl, Nat.le_refl _⟩

theorem anchors_map : ∀ {n q : Nat}, q < n → mapF (anchors n) q = some (some q)
  | 0, q, h => by omega
  | n + 1, q, h => by
    unfold anchors mapF
    by_cases hq : n = q
    · subst hq; rw [nat_beq_self]
    · rw [nat_beq_ne hq]
      exact anchors_map (by omega)
theorem anchors_lt : ∀ {n q : Nat} {r : Option Nat}, mapF (anchors n) q = some r → q < n
  | 0, q, r, h => by simp [anchors, mapF] at h
  | n + 1, q, r, h => by
    unfold anchors mapF at h
    by_cases hq : n = q
    · omega
    · rw [nat_beq_ne hq] at h
      have := anchors_lt h
      omega

/-- The function's own blocks keep their numbers. -/
theorem Told.anchor {n na : Nat} {cs : List (Nat × CSh)} {ss : List Sh} {ts : List T} {x : Gh cs ss} {d : D} {im' : Nat → Prop} {L : List (Nat × Chunk × Option (Nat × Chunk))} (h : Told w0 F0 G nx n cs ss (anchors na) ts x d im' L) {q : Nat} (hq : q < na) : (ctxOf G im' d).rho q = G.rho q := by
  have := h.map q _ (anchors_map hq)
  simp [ctxOf, this, tgt]

end
end Go.J
