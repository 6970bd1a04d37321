/-
  JOBBER: the engine and the functions of this claim, part 3.
-/
import Derived.Test.YtfeaoffmpphkdaaDoorK2
set_option linter.unusedSimpArgs false
set_option linter.unusedVariables false
set_option linter.unusedSectionVars false

namespace Go.J

section
variable {P : Program} {E : Env} {w0 : World} {F0 : Base} {G : Cx} {nx : Nat}

theorem lentOkK_out {l : List Nat} {S : Spec} {k : Prop} (h : lentOkK l S k) : k ∧ (l ≠ [] → CSh.bares S.cs' = true ∧ Sh.bares S.rs = true) := by
  unfold lentOkK at h
  split at h
  · exact ⟨h, fun hh => (hh rfl).elim⟩
  · split at h
    · next hb =>
      simp only [Bool.and_eq_true] at hb
      exact ⟨h, fun _ => hb⟩
    · exact h.elim

theorem resT_val {ts : List T} {rs : List Value} (h : frOk G ts ⟨rs⟩) (hne : ∀ t, t ∈ ts → ∀ us, t ≠ .tup us) : tVal G (resT ts) (resV rs) := by
  have tup : ∀ (ts : List T) (rs : List Value), frOk G ts ⟨rs⟩ → (∀ t, t ∈ ts → ∀ us, t ≠ .tup us) → tTup G (resT.tupOf ts) rs := by
    intro ts
    induction ts with
    | nil => intro rs h _; have := h.1; simp at this; cases rs <;> simp at this; rfl
    | cons t ts ih =>
      intro rs h hne
      cases rs with
      | nil => have := h.1; simp at this
      | cons v vs =>
        obtain ⟨h1, h2⟩ := frOk_cons.1 h
        refine ⟨v, vs, rfl, ?_, ih vs h2 fun t ht => hne t (by simp [ht])⟩
        cases t with
        | tup us => exact (hne _ (by simp) us rfl).elim
        | _ => exact h1
  match ts, rs, h with
  | [], [], h => exact ⟨[], rfl, rfl⟩
  | [], v :: vs, h => have := h.1; simp at this
  | [t], [], h => have := h.1; simp at this
  | [t], [v], h => exact (frOk_cons.1 h).1
  | [t], v :: u :: vs, h => have := h.1; simp at this
  | t :: u :: ts, [], h => have := h.1; simp at this
  | t :: u :: ts, [v], h => have := h.1; simp at this
  | t :: u :: ts, v :: v2 :: vs, h => exact ⟨v :: v2 :: vs, rfl, tup _ _ h hne⟩

theorem encs_tup (ρ : Nat → Nat) : ∀ (ss : List Sh) {R : Type} (x : Sh.adds ss R) (t : T), t ∈ (Sh.encs ρ ss x).1 → ∀ us, t ≠ .tup us
  | [], _, _, t, h => by simp [Sh.encs] at h
  | s :: ss, _, x, t, h => by
    simp only [Sh.encs] at h
    rcases List.mem_cons.1 h with rfl | h
    · intro us
      cases s with
      | el e => cases e <;> simp [Sh.enc, El.enc]
      | _ => simp [Sh.enc]
    · exact encs_tup ρ ss _ t h

theorem nodup_map_on {f : Nat → Nat} : ∀ {l : List Nat}, l.Nodup → (∀ a, a ∈ l → ∀ b, b ∈ l → f a = f b → a = b) → (l.map f).Nodup
  | [], _, _ => by simp
  | a :: l, h, hf => by
    rw [List.nodup_cons] at h
    rw [List.map_cons, List.nodup_cons]
    refine ⟨fun hm => ?_, nodup_map_on h.2 fun x hx y hy => hf x (by simp [hx]) y (by simp [hy])⟩
    obtain ⟨b, hb, he⟩ := List.mem_map.1 hm
    have := hf b (by simp [hb]) a (by simp) he
    exact h.1 (this ▸ hb)

theorem encs_ids (ρ : Nat → Nat) : ∀ (cs : List (Nat × CSh)) {R : Type} (x : CSh.adds cs R), (CSh.encs ρ cs x).1.map (·.1) = (cs.map (·.1)).map ρ
  | [], _, _ => rfl
  | (q, c) :: cs, _, x => by simp only [CSh.encs, List.map_cons]; rw [encs_ids ρ cs]

theorem mem_idss {n : Nat} : ∀ {cs : List (Nat × CSh)} {q : Nat}, q ∈ cs.map (·.1) → n ≤ q ∨ q ∈ CSh.idss n cs
  | [], _, h => by simp at h
  | (q', c) :: cs, q, h => by
    simp only [List.map_cons, List.mem_cons] at h
    rcases h with rfl | h
    · by_cases hlt : q < n
      · have hbl : Nat.blt q n = true := by simpa [Nat.blt_eq] using hlt
        right
        cases c <;> simp only [CSh.idss, hbl] <;> simp
      · exact .inl (by omega)
    · refine (mem_idss (n := n) h).imp id fun h => ?_
      cases c <;> simp only [CSh.idss] <;> cases Nat.blt q' n <;> simp [h]

theorem call_ok {f : FuncId} {S : Spec} (nm : Bool) (hf : FnOk P f S) (hs : (idsOk S.cs && idsOk S.cs' && Nat.ble S.n S.n') = true) : CallOk P f (S.callB nm) := by
  intro w0 F0 G hp nx args vs k hm hargs h
  simp only [Bool.and_eq_true] at hs
  obtain ⟨⟨hs1, hs2⟩, hs3⟩ := hs
  have hle := Nat.le_of_ble_eq_true hs3
  obtain ⟨x, d, im', L, ⟨hpre, hpost⟩, hT⟩ := st_told (map := []) hm (fun q r hq => by simp [mapF] at hq) h
  have hmT := hT.mdl hs1
  let G2 := ctxOf G im' d
  let F2 : Base := ⟨fun b => ∃ q c b', (q, c) ∈ (CSh.encs id S.cs x).1 ∧ c.rw = true ∧ G2.rho q = some b' ∧ b'.nil = false ∧ b = b'.blk, G2.im⟩
  have hF2 : ∀ b, F2 b → (w0.heap.size ≤ b ∨ F0 b) ∧ b < G.w.heap.size ∧ ¬ G2.im b := fun b ⟨q, c, b', h1, h2, h3, h4, h5⟩ => h5 ▸ hmT.mine q c b' h1 h2 h3 h4
  have hm2 : Mdl G.w F2 G2 (CSh.encs id S.cs x).1 S.n :=
    ⟨rfl, rfl, rfl, Nat.le_refl _, fun _ _ _ => rfl, hmT.imLt, hmT.fresh, hmT.chunk, hmT.ids, hmT.apart, fun q c b h1 h2 h3 h4 => ⟨.inr ⟨q, c, b, h1, h2, h3, h4, rfl⟩, (hmT.mine q c b h1 h2 h3 h4).2⟩, fun b hb => .inl hb⟩
  refine Calls.mono (hf G.w F2 G2 x vs hm2 (hT.vals _ (ctxOf_compat _ _) vs hargs) hpre.out) ?_
  rintro e w' ⟨rs, y, G3, rfl, rfl, hsince, hm3, hres, hP⟩
  -- what is asked of the answer
  have hret : retK S d nx y k := by
    revert hpost
    unfold Spec.Post at hP
    revert hP
    cases S.post with
    | fn g =>
      intro hP hpost
      cases nm with
      | false => rw [hP]; exact hpost
      | true => exact ghK_out hm3 hres (ghNm_out (x := y) (by have := ghAll_out hpost y; rwa [← hP] at this))
    | rel R => intro hP hpost; exact ghK_out hm3 hres (ghAll_out hpost y hP)
  obtain ⟨hret, hkeep⟩ := keepK_out hret
  obtain ⟨hret, hbare⟩ := lentOkK_out hret
  rw [CSh.encsK_eq, Sh.encsK_eq] at hret
  have hret := lappK_out hret
  rw [natK_eq] at hret
  -- the blocks that stay
  have hkeep2 : ∀ q, q ∈ CSh.idss S.n S.cs' ++ Sh.idss S.n S.rs → ∃ r c s b, (q, c, some s) ∈ L ∧ s.1 = r ∧ mapF d.map q = some (some r) ∧ G.rho r = some b ∧ G2.rho q = some b := fun q hq => by
    obtain ⟨h1, r, hr⟩ := hkeep q hq
    have hin := inIds_out h1
    rw [← hT.ids] at hin
    obtain ⟨p, hp1, hp2⟩ := List.mem_map.1 hin
    obtain ⟨q', c, s⟩ := p
    simp only at hp2
    subst hp2
    obtain ⟨_, e2, _⟩ := hT.each _ hp1
    rw [hr] at e2
    cases s with
    | none => simp at e2
    | some s =>
      simp at e2
      obtain ⟨b, hb1, hb2, _⟩ := hT.src hp1
      obtain ⟨hb3, _⟩ := hb2 s rfl
      exact ⟨r, c, s, b, hp1, e2.symm, hr, e2 ▸ hb3, hb1⟩
  have hids_lt : ∀ q, q ∈ CSh.idss S.n S.cs' ++ Sh.idss S.n S.rs → q < S.n := fun q hq => by
    obtain ⟨r, c, s, b, _, _, hr, _⟩ := hkeep2 q hq
    rw [← hT.n]
    exact hT.di.lt q _ hr
  have hnx : ∀ r b, G.rho r = some b → r < nx := fun r b hr => by
    by_cases hlt : r < nx
    · exact hlt
    · rw [hm.fresh r (by omega)] at hr; cases hr
  have hn3 : ∀ q b, G3.rho q = some b → q < S.n' := fun q b hr => by
    by_cases hlt : q < S.n'
    · exact hlt
    · rw [hm3.fresh q (by omega)] at hr; cases hr
  let lb : Bool := match d.lent with
    | [] => false
    | _ => true
  have hlb : lb = true → d.lent ≠ [] := fun h e => by simp [lb, e] at h
  have hlb0 : lb = false → d.lent = [] := fun h => by
    cases hl : d.lent with
    | nil => rfl
    | cons a l => simp [lb, hl] at h
  have him2 : lb = false → ∀ b, G2.im b → im' b := fun hl b hb => by
    rcases hb with hb | ⟨r, b0, k1, _⟩
    · exact hb
    · rw [hlb0 hl] at k1; cases k1
  let G4 : Cx := ⟨fun r => if r < nx then G.rho r else if r - nx + S.n < S.n' then G3.rho (r - nx + S.n) else none, fun b => if lb then im' b else G3.im b, G3.w⟩
  have hmove : Move G3 G4 (renN d.map S.n nx) lb := ⟨rfl, fun hl b hb => by simp only [G4, hl]; exact hb⟩
  have hgood : Good G3 G4 (renN d.map S.n nx) S.n (CSh.idss S.n S.cs' ++ Sh.idss S.n S.rs) := by
    intro q hq b hb
    by_cases hlt : q < S.n
    · have hq : q ∈ CSh.idss S.n S.cs' ++ Sh.idss S.n S.rs := hq.resolve_left (by omega)
      obtain ⟨r, c, s, b', _, _, hr, hb1, hb2⟩ := hkeep2 q hq
      rw [renN_lt hlt hr]
      have hb3 := hsince.rho q hlt b' hb2
      rw [hb] at hb3
      cases hb3
      simp only [G4]
      rw [if_pos (hnx r b hb1)]
      exact hb1
    · rw [renN_ge (by omega)]
      have := hn3 q b hb
      simp only [G4]
      rw [if_neg (by omega), if_pos (by omega), show nx + (q - S.n) - nx + S.n = q by omega]
      exact hb
  have hnotF2 : ∀ r c b, (r, c) ∈ d.hp → c.rw = true → G.rho r = some b → b.nil = false → ¬ F2 b.blk := by
    rintro r c b hrc hrw hr hn ⟨q, c', b', h1, h2, h3, h4, h5⟩
    obtain ⟨s, hs⟩ := hT.mem h1
    obtain ⟨b2, hb2, hsrc, hnil⟩ := hT.src hs
    have h3' : (ctxOf G im' d).rho q = some b' := h3
    obtain rfl : b' = b2 := Option.some.inj (h3'.symm.trans hb2)
    cases s with
    | none => rw [hnil rfl] at h4; cases h4
    | some s =>
      obtain ⟨e1, m1⟩ := hsrc s rfl
      have hne : r ≠ s.1 := by
        rintro rfl
        have hnd := hT.di.mdl.ids
        rw [List.map_append, List.nodup_append] at hnd
        exact hnd.2.2 s.1 (List.mem_map.2 ⟨_, hrc, rfl⟩) s.1 (List.mem_map.2 ⟨s, List.mem_filterMap.2 ⟨_, hs, rfl⟩, rfl⟩) rfl
      exact hT.di.mdl.apart r c s.1 s.2 b b' (by simp [hrc]) m1 hne hrw ((hT.each _ hs).2.2.1 s rfl).1 hr e1 hn h4 h5
  have hkeepw : ∀ b, b < G.w.heap.size → ¬ F2 b → G3.w.heap[b]? = G.w.heap[b]? := hm3.keep
  have him_notF2 : ∀ b, im' b → ¬ F2 b := fun b hb hF => (hF2 b hF).2.2 (.inl hb)
  have him4 : ∀ b, im' b → G4.im b := fun b hb => by
    simp only [G4]
    split
    · exact hb
    · exact hsince.ext.im b (.inl hb)
  have hext : Ext ⟨G.rho, im', G.w⟩ G4 := ⟨fun r b hr => by simp only [G4]; rw [if_pos (hnx r b hr)]; exact hr, him4, fun b hb => hkeepw b (hT.di.mdl.imLt b hb) (him_notF2 b hb), hm3.size⟩
  have hext0 : Ext G G4 := ⟨hext.rho, fun b hb => him4 b (hT.di.im b hb), fun b hb => hext.keep b (hT.di.im b hb), hm3.size⟩
  obtain ⟨hc1, hc2⟩ := hmove.chunks (n := S.n) S.cs' y (fun hl => (hbare (hlb hl)).1) (hgood.sub fun q hq => by simp [hq])
  -- a new or changed block
  have hnew : ∀ p, p ∈ (CSh.encs (renN d.map S.n nx) S.cs' y).1 → ∃ q c b, p.1 = renN d.map S.n nx q ∧ (q, c) ∈ (CSh.encs id S.cs' y).1 ∧ c.rw = p.2.rw ∧ G3.rho q = some b ∧ G4.rho p.1 = some b ∧ chunkOk G4 p.2 b ∧ (S.n ≤ q ∨ q ∈ CSh.idss S.n S.cs') := fun p hp => by
    obtain ⟨q, c, m1, m2, m3, m4, m5⟩ := hc2 p hp
    obtain ⟨b, hb1, hb2⟩ := hm3.chunk q c m2
    exact ⟨q, c, b, m1, m2, m3, hb1, by rw [m1]; exact hgood q (m4.imp id fun h => by simp [h]) b hb1, m5 b hb2, m4⟩
  have hrho_old : ∀ r c, (r, c) ∈ d.hp → ∃ b, G.rho r = some b ∧ chunkOk ⟨G.rho, im', G.w⟩ c b := fun r c hrc => hT.di.mdl.chunk r c (by simp [hrc])
  have hren_old : ∀ p, p ∈ (CSh.encs (renN d.map S.n nx) S.cs' y).1 → ∀ r c, (r, c) ∈ d.hp → p.1 ≠ r := by
    rintro p hp r c hrc rfl
    obtain ⟨q, c', b, m1, m2, m3, m4, m5, m6, m7⟩ := hnew p hp
    obtain ⟨b0, hb0, _⟩ := hrho_old p.1 c hrc
    have hlt := hnx _ _ hb0
    by_cases hq : q < S.n
    · have hq2 : q ∈ CSh.idss S.n S.cs' := m7.resolve_left (by omega)
      obtain ⟨r, c2, s, b', hL, hs1, hr, _⟩ := hkeep2 q (by simp [hq2])
      rw [renN_lt hq hr] at m1
      have hnd := hT.di.mdl.ids
      rw [List.map_append, List.nodup_append] at hnd
      exact hnd.2.2 p.1 (List.mem_map.2 ⟨_, hrc, rfl⟩) s.1 (List.mem_map.2 ⟨s, List.mem_filterMap.2 ⟨_, hL, rfl⟩, rfl⟩) (by rw [m1, hs1])
    · rw [renN_ge (by omega)] at m1
      omega
  have hold_notF2 : ∀ r c b, (r, c) ∈ d.hp → c.rw = true → G.rho r = some b → b.nil = false → b.blk < G.w.heap.size ∧ (w0.heap.size ≤ b.blk ∨ F0 b.blk) ∧ ¬ im' b.blk := fun r c b hrc hrw hr hn => by
    have := hT.di.mdl.mine r c b (by simp [hrc]) hrw hr hn
    exact ⟨this.2.1, this.1, this.2.2⟩
  have hnewmine : ∀ q c b, (q, c) ∈ (CSh.encs id S.cs' y).1 → c.rw = true → G3.rho q = some b → b.nil = false → (G.w.heap.size ≤ b.blk ∨ F2 b.blk) ∧ b.blk < G3.w.heap.size ∧ ¬ G3.im b.blk := fun q c b h1 h2 h3 h4 => hm3.mine q c b h1 h2 h3 h4
  have hcross : ∀ r c b, (r, c) ∈ d.hp → c.rw = true → G.rho r = some b → b.nil = false → ∀ b', (G.w.heap.size ≤ b'.blk ∨ F2 b'.blk) → b.blk ≠ (b' : B).blk := fun r c b h1 h2 h3 h4 b' h5 he => by
    rcases h5 with h5 | h5
    · have := (hold_notF2 r c b h1 h2 h3 h4).1
      omega
    · exact hnotF2 r c b h1 h2 h3 h4 (he ▸ h5)
  have hinj : ∀ q1, q1 ∈ S.cs'.map (·.1) → ∀ q2, q2 ∈ S.cs'.map (·.1) → renN d.map S.n nx q1 = renN d.map S.n nx q2 → q1 = q2 := by
    intro q1 h1 q2 h2 he
    by_cases l1 : q1 < S.n <;> by_cases l2 : q2 < S.n
    · have k1 := (mem_idss (n := S.n) h1).resolve_left (by omega)
      have k2 := (mem_idss (n := S.n) h2).resolve_left (by omega)
      obtain ⟨r1, c1, s1, b1, hL1, hs1, hr1, _⟩ := hkeep2 q1 (by simp [k1])
      obtain ⟨r2, c2, s2, b2, hL2, hs2, hr2, _⟩ := hkeep2 q2 (by simp [k2])
      rw [renN_lt l1 hr1, renN_lt l2 hr2] at he
      by_cases hq : q1 = q2
      · exact hq
      · exact (hT.apart hL1 hL2 (fun e => hq (by cases e; rfl)) rfl rfl (by rw [hs1, hs2, he])).elim
    · have k1 := (mem_idss (n := S.n) h1).resolve_left (by omega)
      obtain ⟨r1, c1, s1, b1, hL1, hs1, hr1, hb1, _⟩ := hkeep2 q1 (by simp [k1])
      rw [renN_lt l1 hr1, renN_ge (by omega)] at he
      have := hnx _ _ hb1
      omega
    · have k2 := (mem_idss (n := S.n) h2).resolve_left (by omega)
      obtain ⟨r2, c2, s2, b2, hL2, hs2, hr2, hb2, _⟩ := hkeep2 q2 (by simp [k2])
      rw [renN_lt l2 hr2, renN_ge (by omega)] at he
      have := hnx _ _ hb2
      omega
    · rw [renN_ge (by omega), renN_ge (by omega)] at he
      omega
  have hm4 : Mdl w0 F0 G4 (d.hp ++ (CSh.encs (renN d.map S.n nx) S.cs' y).1) (nx + (S.n' - S.n)) := by
    refine ⟨hm3.os.trans hm.os, hm3.tape.trans hm.tape, hm3.output.trans hm.output, Nat.le_trans hm.size hm3.size,
      fun b hlt hF => (hkeepw b (Nat.lt_of_lt_of_le hlt hm.size) fun h2 => (hF2 b h2).1.elim (fun h => by omega) hF).trans (hm.keep b hlt hF), fun b hb => ?_, fun r hr => ?_, fun r c hrc => ?_, ?_, ?_, ?_, fun b hb => ?_⟩
    · simp only [G4] at hb
      split at hb
      · exact Nat.lt_of_lt_of_le (hT.di.mdl.imLt b hb) hm3.size
      · exact hm3.imLt b hb
    · simp only [G4]
      rw [if_neg (by omega), if_neg (by omega)]
    · rcases List.mem_append.1 hrc with hrc | hrc
      · obtain ⟨b, hb1, hb2⟩ := hrho_old r c hrc
        exact ⟨b, hext.rho r b hb1, hext.chunkOk hb2 fun hw hn => hkeepw _ (hold_notF2 r c b hrc hw hb1 hn).1 (hnotF2 r c b hrc hw hb1 hn)⟩
      · obtain ⟨q, c', b, m1, m2, m3, m4, m5, m6, m7⟩ := hnew _ hrc
        exact ⟨b, m5, m6⟩
    · rw [List.map_append, List.nodup_append]
      refine ⟨nodup_left hT.di.mdl.ids, ?_, fun a ha b hb he => ?_⟩
      · rw [encs_ids]
        exact nodup_map_on (idsOk_out hs2) hinj
      · obtain ⟨⟨r, c⟩, h1, rfl⟩ := List.mem_map.1 ha
        obtain ⟨p, h2, rfl⟩ := List.mem_map.1 hb
        exact hren_old p h2 r c h1 he.symm
    · intro r1 c1 r2 c2 b1 b2 h1 h2 hne hw1 hw2 hr1 hr2 hn1 hn2
      rcases List.mem_append.1 h1 with h1 | h1 <;> rcases List.mem_append.1 h2 with h2 | h2
      · obtain ⟨b1', k1, _⟩ := hrho_old r1 c1 h1
        obtain ⟨b2', k2, _⟩ := hrho_old r2 c2 h2
        obtain rfl : b1 = b1' := Option.some.inj (hr1.symm.trans (hext.rho r1 b1' k1))
        obtain rfl : b2 = b2' := Option.some.inj (hr2.symm.trans (hext.rho r2 b2' k2))
        exact hT.di.mdl.apart r1 c1 r2 c2 b1 b2 (by simp [h1]) (by simp [h2]) hne hw1 hw2 k1 k2 hn1 hn2
      · obtain ⟨b1', k1, _⟩ := hrho_old r1 c1 h1
        obtain rfl : b1 = b1' := Option.some.inj (hr1.symm.trans (hext.rho r1 b1' k1))
        obtain ⟨q, c', b, m1, m2, m3, m4, m5, m6, m7⟩ := hnew _ h2
        obtain rfl : b2 = b := Option.some.inj (hr2.symm.trans m5)
        exact hcross r1 c1 b1 h1 hw1 k1 hn1 b2 (hnewmine q c' b2 m2 (m3.trans hw2) m4 hn2).1
      · obtain ⟨b2', k2, _⟩ := hrho_old r2 c2 h2
        obtain rfl : b2 = b2' := Option.some.inj (hr2.symm.trans (hext.rho r2 b2' k2))
        obtain ⟨q, c', b, m1, m2, m3, m4, m5, m6, m7⟩ := hnew _ h1
        obtain rfl : b1 = b := Option.some.inj (hr1.symm.trans m5)
        exact fun he => hcross r2 c2 b2 h2 hw2 k2 hn2 b1 (hnewmine q c' b1 m2 (m3.trans hw1) m4 hn1).1 he.symm
      · obtain ⟨q1, c1', b1', m1, m2, m3, m4, m5, m6, m7⟩ := hnew _ h1
        obtain ⟨q2, c2', b2', m1', m2', m3', m4', m5', m6', m7'⟩ := hnew _ h2
        obtain rfl : b1 = b1' := Option.some.inj (hr1.symm.trans m5)
        obtain rfl : b2 = b2' := Option.some.inj (hr2.symm.trans m5')
        exact hm3.apart q1 c1' q2 c2' b1 b2 m2 m2' (fun e => hne (by rw [show r1 = renN d.map S.n nx q1 from m1, show r2 = renN d.map S.n nx q2 from m1', e])) (m3.trans hw1) (m3'.trans hw2) m4 m4' hn1 hn2
    · intro r c b hrc hw hr hn
      rcases List.mem_append.1 hrc with hrc | hrc
      · obtain ⟨b', k1, _⟩ := hrho_old r c hrc
        obtain rfl : b = b' := Option.some.inj (hr.symm.trans (hext.rho r b' k1))
        obtain ⟨z1, z2, z3⟩ := hold_notF2 r c b hrc hw k1 hn
        refine ⟨z2, Nat.lt_of_lt_of_le z1 hm3.size, fun hi => ?_⟩
        simp only [G4] at hi
        split at hi
        · exact z3 hi
        · next hl =>
          rcases hm3.imNew _ hi with h | h | h
          · exact z3 (him2 (by simpa using hl) _ h)
          · omega
          · exact hnotF2 r c b hrc hw k1 hn h
      · obtain ⟨q, c', b', m1, m2, m3, m4, m5, m6, m7⟩ := hnew _ hrc
        obtain rfl : b = b' := Option.some.inj (hr.symm.trans m5)
        obtain ⟨z1, z2, z3⟩ := hnewmine q c' b m2 (m3.trans hw) m4 hn
        refine ⟨?_, z2, fun hi => ?_⟩
        · rcases z1 with h | h
          · exact .inl (Nat.le_trans hm.size h)
          · exact (hF2 _ h).1
        · simp only [G4] at hi
          split at hi
          · rcases z1 with h | h
            · have := hT.di.mdl.imLt _ hi
              have hlt : b.blk < G.w.heap.size := this
              omega
            · exact him_notF2 _ hi h
          · exact z3 hi
    · simp only [G4] at hb
      split at hb
      · exact hT.di.mdl.imNew b hb
      · next hl =>
        rcases hm3.imNew _ hb with h | h | h
        · exact hT.di.mdl.imNew b (him2 (by simpa using hl) _ h)
        · exact .inr (.inl (Nat.le_trans hm.size h))
        · exact .inr (hF2 _ h).1
  have hval := hmove.shs (n := S.n) S.rs (CSh.encs id S.cs' y).2 (fun hl => (hbare (hlb hl)).2) (hgood.sub fun q hq => by simp [hq]) rs hres
  rw [← hc1] at hval
  exact ⟨G4, _, resV rs, _, _, rfl, rfl, hext0, hm4, resT_val hval (encs_tup _ _ _), hret⟩

end
end Go.J

set_option linter.unusedSimpArgs false
set_option linter.unusedVariables false
set_option linter.unusedSectionVars false

namespace Go.J

/-! The zero values, cell by cell. -/
def isInt0 (k : IntKind) : Value → Bool
  | .int k' n => k == k' && decide (n = 0)
  | _ => false
def isFalse : Value → Bool
  | .bool b => !b
  | _ => false
def isEmptyS : Value → Bool
  | .string s => s.data.toList.isEmpty
  | _ => false
def isNilSl : Value → Bool
  | .slice none n c => Nat.beq n 0 && Nat.beq c 0
  | _ => false
def isNilP : Value → Bool
  | .pointer none => true
  | _ => false
def hd (p : Value → Bool) : List Value → Option (List Value)
  | [] => none
  | v :: l => match p v with
    | true => some l
    | false => none
def eatN (f : List Value → Option (List Value)) : Nat → List Value → Option (List Value)
  | 0, l => some l
  | n + 1, l => match f l with
    | some l => eatN f n l
    | none => none
def El.eat : El → List Value → Option (List Value)
  | .u8 => hd (isInt0 .u8)
  | .int k => hd (isInt0 k)
  | .bool => hd isFalse
  | .str => hd isEmptyS
  | .rd _ => hd isNilSl
  | .nil => some
  | .cons e es => fun l => match e.eat l with
    | some l => es.eat l
    | none => none
  | .ar n e => eatN e.eat n
def Z.eat : Z → List Value → Option (List Value)
  | .int k => hd (isInt0 k)
  | .bool => hd isFalse
  | .str => hd isEmptyS
  | .nils => hd isNilSl
  | .nilp => hd isNilP
  | .nilf => hd Value.oneCell'
  | .nil => some
  | .cons z zs => fun l => match z.eat l with
    | some l => zs.eat l
    | none => none
  | .arr e n => eatN e.eat n
def isNil {α : Type} : Option (List α) → Bool
  | some [] => true
  | _ => false
def Z.many : Z → Bool
  | .nil => true
  | .cons _ _ => true
  | .arr _ _ => true
  | _ => false
/-- The zero value of a type, as a value. -/
def Z.isV (z : Z) (v : Value) : Bool :=
  match z.many, v with
  | true, .agg cs => isNil (z.eat cs.toList)
  | true, _ => false
  | false, v => isNil (z.eat [v]) && v.oneCell' && isNil (z.eat v.cells.toList)

theorem hd_out {p : Value → Bool} {l l' : List Value} (h : hd p l = some l') : ∃ v, l = v :: l' ∧ p v = true := by
  cases l with
  | nil => cases h
  | cons v l =>
    simp only [hd] at h
    cases hp : p v with
    | true => rw [hp] at h; cases h; exact ⟨v, rfl, hp⟩
    | false => rw [hp] at h; cases h
theorem isInt0_eq {k : IntKind} {v : Value} (h : isInt0 k v = true) : v = .int k 0 := by
  cases v <;> simp [isInt0] at h
  rw [h.1, h.2]
theorem isFalse_eq {v : Value} (h : isFalse v = true) : v = .bool false := by
  cases v <;> simp [isFalse] at h
  rw [h]
theorem isEmptyS_eq {v : Value} (h : isEmptyS v = true) : v = .string ⟨⟨[]⟩⟩ := by
  cases v <;> simp [isEmptyS] at h
  rename_i s
  obtain ⟨⟨l⟩⟩ := s
  simp at h
  subst h
  rfl
theorem isNilSl_eq {v : Value} (h : isNilSl v = true) : v = .slice none 0 0 := by
  cases v <;> simp only [isNilSl] at h <;> (try cases h)
  rename_i a n c
  cases a with
  | none =>
    simp only [Bool.and_eq_true] at h
    rw [nat_beq_eq h.1, nat_beq_eq h.2]
  | some _ => cases h
theorem isNilP_eq {v : Value} (h : isNilP v = true) : v = .pointer none := by
  cases v <;> simp only [isNilP] at h <;> (try cases h)
  rename_i a
  cases a with
  | none => rfl
  | some _ => cases h

theorem eatN_out {α : Type} {R : α → List Value → Prop} {x : α} {f : List Value → Option (List Value)} (hf : ∀ l l', f l = some l' → ∃ c, l = c ++ l' ∧ R x c) : ∀ (n : Nat) (l l' : List Value), eatN f n l = some l' → ∃ c, l = c ++ l' ∧ listOf R (List.replicate n x) c
  | 0, l, l', h => by simp [eatN] at h; exact ⟨[], by simp [h], rfl⟩
  | n + 1, l, l', h => by
    unfold eatN at h
    split at h
    · next l1 h1 =>
      obtain ⟨c, rfl, hc⟩ := hf _ _ h1
      obtain ⟨c2, rfl, hc2⟩ := eatN_out hf n _ _ h
      exact ⟨c ++ c2, by simp, c, c2, rfl, hc, hc2⟩
    · cases h

theorem El.eat_out (im : Nat → Prop) (w : World) : ∀ (e : El) (l l' : List Value), e.eat l = some l' → ∃ c, l = c ++ l' ∧ cellsOf im w e e.dflt c
  | .u8, l, l', h => by obtain ⟨v, e1, e2⟩ := hd_out h; exact ⟨[v], e1, by rw [isInt0_eq e2]; rfl⟩
  | .int k, l, l', h => by obtain ⟨v, e1, e2⟩ := hd_out h; exact ⟨[v], e1, by rw [isInt0_eq e2]; rfl⟩
  | .bool, l, l', h => by obtain ⟨v, e1, e2⟩ := hd_out h; exact ⟨[v], e1, by rw [isFalse_eq e2]; rfl⟩
  | .str, l, l', h => by obtain ⟨v, e1, e2⟩ := hd_out h; exact ⟨[v], e1, by rw [isEmptyS_eq e2]; rfl⟩
  | .rd e, l, l', h => by
    obtain ⟨v, e1, e2⟩ := hd_out h
    exact ⟨[v], e1, none, 0, by rw [isNilSl_eq e2]; rfl, Nat.le_refl _, by simp, fun hp => by simp [El.dflt] at hp⟩
  | .nil, l, l', h => by cases h; exact ⟨[], rfl, rfl⟩
  | .cons e es, l, l', h => by
    simp only [El.eat] at h
    split at h
    · next l1 h1 =>
      obtain ⟨c1, rfl, k1⟩ := El.eat_out im w e _ _ h1
      obtain ⟨c2, rfl, k2⟩ := El.eat_out im w es _ _ h
      exact ⟨c1 ++ c2, by simp, c1, c2, rfl, k1, k2⟩
    · cases h
  | .ar n e, l, l', h => by
    obtain ⟨c, e1, hc⟩ := eatN_out (R := cellsOf im w e) (x := e.dflt) (fun l l' h => El.eat_out im w e l l' h) n l l' h
    exact ⟨c, e1, by simp [El.dflt], hc⟩

theorem Z.eat_out (G : Cx) : ∀ (z : Z) (l l' : List Value), z.eat l = some l' → ∃ c, l = c ++ l' ∧ tCells G z.toT c
  | .int k, l, l', h => by obtain ⟨v, e1, e2⟩ := hd_out h; exact ⟨[v], e1, v, rfl, by rw [isInt0_eq e2]; rfl, isInt0_eq e2⟩
  | .bool, l, l', h => by obtain ⟨v, e1, e2⟩ := hd_out h; exact ⟨[v], e1, v, rfl, by rw [isFalse_eq e2]; rfl, isFalse_eq e2⟩
  | .str, l, l', h => by obtain ⟨v, e1, e2⟩ := hd_out h; exact ⟨[v], e1, v, rfl, by rw [isEmptyS_eq e2]; rfl, isEmptyS_eq e2⟩
  | .nils, l, l', h => by obtain ⟨v, e1, e2⟩ := hd_out h; exact ⟨[v], e1, v, rfl, by rw [isNilSl_eq e2]; rfl, isNilSl_eq e2⟩
  | .nilp, l, l', h => by obtain ⟨v, e1, e2⟩ := hd_out h; exact ⟨[v], e1, v, rfl, by rw [isNilP_eq e2]; rfl, isNilP_eq e2⟩
  | .nilf, l, l', h => by obtain ⟨v, e1, e2⟩ := hd_out h; exact ⟨[v], e1, v, rfl, e2, trivial⟩
  | .nil, l, l', h => by cases h; exact ⟨[], rfl, rfl⟩
  | .cons z zs, l, l', h => by
    simp only [Z.eat] at h
    split at h
    · next l1 h1 =>
      obtain ⟨c1, rfl, k1⟩ := Z.eat_out G z _ _ h1
      obtain ⟨c2, rfl, k2⟩ := Z.eat_out G zs _ _ h
      exact ⟨c1 ++ c2, by simp, c1, c2, rfl, k1, k2⟩
    · cases h
  | .arr e n, l, l', h => by
    obtain ⟨c, e1, hc⟩ := eatN_out (R := cellsOf G.im G.w e) (x := e.dflt) (fun l l' h => El.eat_out G.im G.w e l l' h) n l l' h
    exact ⟨c, e1, by simp, hc⟩

theorem isNil_out {α : Type} {o : Option (List α)} (h : isNil o = true) : o = some [] := by
  unfold isNil at h
  split at h
  · rfl
  · cases h

theorem Z.isV_out {z : Z} {v : Value} (h : z.isV v = true) (G : Cx) : tVal G z.toT v ∧ tCells G z.toT v.cells.toList := by
  have cells : ∀ l, isNil (z.eat l) = true → tCells G z.toT l := fun l h => by
    obtain ⟨c, e1, hc⟩ := Z.eat_out G z l [] (isNil_out h)
    rw [List.append_nil] at e1
    rw [e1]
    exact hc
  unfold Z.isV at h
  split at h
  · next cs hm =>
    have hc := cells _ h
    refine ⟨?_, hc⟩
    cases z <;> first | (cases hm; done) | exact ⟨cs.toList, rfl, hc⟩
  · cases h
  · next hm =>
    simp only [Bool.and_eq_true] at h
    have hc := cells _ h.1.1
    refine ⟨?_, cells _ h.2⟩
    cases z <;> first | (cases hm; done) | (obtain ⟨c, e1, _, e3⟩ := hc; simp at e1; subst e1; exact e3)

/-! The table. -/
def offB (P : Program) : List (TypeId × Nat) → Nat → Z → Bool
  | [], _, .nil => true
  | (t, d) :: fs, o, .cons z zs => Nat.beq d o && (match P.info? t with
    | some i => Nat.beq i.size z.toT.size
    | none => false) && offB P fs (o + z.toT.size) zs
  | _, _, _ => false
def sameFs : List Field → List (TypeId × Nat) → Bool
  | [], [] => true
  | f :: l, (t, d) :: m => Nat.beq f.type t && Nat.beq f.offset d && sameFs l m
  | _, _ => false
def fieldsB (P : Program) : List Field → Bool
  | [] => true
  | f :: l => (f.name != "_") && (match P.info? f.type with
    | some i => !Nat.beq i.size 0
    | none => false) && fieldsB P l
def undB (P : Program) (t : TypeId) (y : TyI) : Bool :=
  match y.k, P.underlying t with
  | .int k, some (.int k') => k == k'
  | .bool, some .bool => true
  | .str, some .string => true
  | .ptr e, some (.pointer e') => Nat.beq e e'
  | .sl e, some (.slice e') => Nat.beq e e'
  | .ar n e, some (.array n' e') => Nat.beq n n' && Nat.beq e e' && (match y.zero with
    | .arr e2 _ => (match P.info? e with
      | some ie => Nat.beq ie.size e2.sz
      | none => false)
    | _ => true)
  | .st fs, some (.struct fields) => sameFs fields.toList fs && fieldsB P fields.toList && !P.stoodInHeld t && offB P fs 0 y.zero
  | .fn, some (.func _ _ _) => true
  | .other, some d => !d.isRow
  | _, _ => false
def tyB (P : Program) (t : TypeId) (y : TyI) : Bool :=
  match P.info? t with
  | none => false
  | some i => Nat.beq i.size y.size && Nat.beq i.bytes y.bytes && (match i.zero with
    | none => false
    | some z => y.zero.isV z && (match y.el with
      | none => true
      | some e => Nat.beq e.sz y.size && Nat.blt 0 y.size && isNil (e.eat z.cells.toList))) && undB P t y && (!y.eqok || !P.eqGuardType P.depth t)
def tysB (P : Program) : List (Nat × TyI) → Bool
  | [] => true
  | (t, y) :: l => tyB P t y && tysB P l

theorem offB_out {P : Program} : ∀ (fs : List (TypeId × Nat)) (o : Nat) (z : Z), offB P fs o z = true → kids z.toT = fs.length ∧ ∀ (i : Nat) (tt : TypeId) (d : Nat), fs[i]? = some (tt, d) → ∃ c inf, o ≤ d ∧ fieldK i (d - o) z.toT (fun u => u = c) ∧ P.info? tt = some inf ∧ inf.size = c.size
  | [], o, z, h => by
    cases z <;> simp [offB] at h
    exact ⟨rfl, fun i tt d hi => by simp at hi⟩
  | (t, d) :: fs, o, z, h => by
    cases z <;> simp only [offB] at h <;> (try cases h)
    rename_i z zs
    simp only [Bool.and_eq_true] at h
    obtain ⟨⟨h1, h2⟩, h3⟩ := h
    obtain rfl := nat_beq_eq h1
    obtain ⟨k1, k2⟩ := offB_out fs _ zs h3
    refine ⟨by simp [Z.toT, kids, k1], fun i tt d' hi => ?_⟩
    cases i with
    | zero =>
      simp at hi
      obtain ⟨rfl, rfl⟩ := hi
      split at h2
      · next inf hinf => exact ⟨z.toT, inf, Nat.le_refl _, by simp [Z.toT, fieldK], hinf, nat_beq_eq h2⟩
      · cases h2
    | succ i =>
      obtain ⟨c, inf, m1, m2, m3, m4⟩ := k2 i tt d' (by simpa using hi)
      refine ⟨c, inf, by omega, ?_, m3, m4⟩
      simp only [Z.toT]
      unfold fieldK
      rw [T.eat_eq, if_pos (by omega)]
      simp only []
      rw [show d' - d - z.toT.size = d' - (d + z.toT.size) by omega]
      exact m2

theorem sameFs_out : ∀ {l : List Field} {m : List (TypeId × Nat)}, sameFs l m = true → l.map (fun f => (f.type, f.offset)) = m
  | [], [], _ => rfl
  | f :: l, (t, d) :: m, h => by
    simp only [sameFs, Bool.and_eq_true] at h
    rw [List.map_cons, sameFs_out h.2, nat_beq_eq h.1.1, nat_beq_eq h.1.2]
  | [], _ :: _, h => by simp [sameFs] at h
  | _ :: _, [], h => by simp [sameFs] at h

theorem fieldsB_out {P : Program} : ∀ {l : List Field}, fieldsB P l = true → ∀ f ∈ l, f.name ≠ "_" ∧ ∃ i, P.info? f.type = some i ∧ i.size ≠ 0
  | [], _, f, hf => by cases hf
  | g :: l, h, f, hf => by
    simp only [fieldsB, Bool.and_eq_true] at h
    rcases List.mem_cons.1 hf with rfl | hf
    · refine ⟨by simpa using h.1.1, ?_⟩
      have h2 := h.1.2
      split at h2
      · next i hi =>
        refine ⟨i, hi, fun e => ?_⟩
        rw [e] at h2
        cases h2
      · cases h2
    · exact fieldsB_out h.2 f hf

theorem tyB_out {P : Program} {t : TypeId} {y : TyI} (h : tyB P t y = true) : TyOk P t y := by
  unfold tyB at h
  split at h
  · cases h
  · next i hi =>
    simp only [Bool.and_eq_true] at h
    obtain ⟨⟨⟨⟨h1, h2⟩, h3⟩, h4⟩, h5⟩ := h
    have hz : ∃ z, i.zero = some z ∧ y.zero.isV z = true ∧ (match y.el with
      | none => true
      | some e => Nat.beq e.sz y.size && Nat.blt 0 y.size && isNil (e.eat z.cells.toList)) = true := by
      split at h3
      · cases h3
      · next z hz => exact ⟨z, hz, by simpa using h3⟩
    obtain ⟨z, hz, hv, hel⟩ := hz
    have hst : ∀ fs, y.k = .st fs → ∃ fields, P.underlying t = some (.struct fields) ∧ sameFs fields.toList fs = true ∧ fieldsB P fields.toList = true ∧ P.stoodInHeld t = false ∧ offB P fs 0 y.zero = true := fun fs hk => by
      unfold undB at h4
      rw [hk] at h4
      split at h4 <;> simp_all
    have har : ∀ n e, y.k = .ar n e → P.underlying t = some (.array n e) ∧ (match y.zero with
      | .arr e2 _ => (match P.info? e with
        | some ie => Nat.beq ie.size e2.sz
        | none => false)
      | _ => true) = true := fun n e hk => by
      unfold undB at h4
      rw [hk] at h4
      cases hu : P.underlying t with
      | none => rw [hu] at h4; cases h4
      | some d =>
        rw [hu] at h4
        cases d <;> (try cases h4)
        simp only [Bool.and_eq_true] at h4
        obtain ⟨⟨e1, e2⟩, e3⟩ := h4
        rw [← nat_beq_eq e1, ← nat_beq_eq e2]
        exact ⟨rfl, e3⟩
    refine ⟨⟨i, hi, nat_beq_eq h1, nat_beq_eq h2, z, hz, fun G => Z.isV_out hv G⟩, ?_, fun fs hk => ?_, fun n e e' m hk hzz => ?_, fun he => ?_, fun e he => ?_⟩
    · cases hk : y.k with
      | st fs =>
        obtain ⟨fields, q1, q2, q3, q4, q5⟩ := hst fs hk
        refine ⟨fields, q1, sameFs_out q2, fieldsB_out q3, q4, fun i tt d hd => ?_⟩
        obtain ⟨c, inf, _, m2, m3, m4⟩ := (offB_out fs 0 y.zero q5).2 i tt d hd
        exact ⟨c, inf, m2, m3, m4⟩
      | ar n e => exact (har n e hk).1
      | _ =>
        unfold undB at h4
        rw [hk] at h4
        split at h4 <;> simp_all
    · obtain ⟨fields, _, _, _, _, q5⟩ := hst fs hk
      exact (offB_out fs 0 y.zero q5).1
    · have := (har n e hk).2
      rw [hzz] at this
      simp only [] at this
      split at this
      · next ie hie => exact ⟨ie, hie, nat_beq_eq this⟩
      · cases this
    · rw [he] at h5
      simpa using h5
    · rw [he] at hel
      simp only [Bool.and_eq_true] at hel
      obtain ⟨⟨m1, m2⟩, m3⟩ := hel
      refine ⟨nat_beq_eq m1, by simpa [Nat.blt_eq] using m2, i, z, hi, hz, fun im w => ?_⟩
      obtain ⟨c, e1, hc⟩ := El.eat_out im w e _ [] (isNil_out m3)
      rw [List.append_nil] at e1
      rw [e1]
      exact hc

theorem tysB_out {P : Program} : ∀ {l : List (Nat × TyI)}, tysB P l = true → ∀ t y, (t, y) ∈ l → TyOk P t y
  | [], _, _, _, h => by cases h
  | (t, y) :: l, h, t', y', hm => by
    simp only [tysB, Bool.and_eq_true] at h
    rcases List.mem_cons.1 hm with hm | hm
    · cases hm; exact tyB_out h.1
    · exact tysB_out h.2 t' y' hm

end Go.J

set_option linter.unusedSimpArgs false
set_option linter.unusedVariables false
set_option linter.unusedSectionVars false

namespace Go.J

/-- A function that may be called, by its contract. -/
def May (P : Program) (p : Nat × (List T → Hp → Nat → (T → Hp → Nat → Prop) → Prop)) : Prop := FnIs P p.1 ∧ CallOk P p.1 p.2
/-- A function of the library's without a text, by what it does. -/
def MayX (P : Program) (p : Nat × (List T → Hp → Nat → (T → Hp → Nat → Prop) → Prop)) : Prop := ExtOk P p.1 p.2
def AllMay (P : Program) : List (Nat × (List T → Hp → Nat → (T → Hp → Nat → Prop) → Prop)) → Prop
  | [] => True
  | p :: l => (May P p ∨ MayX P p) ∧ AllMay P l
theorem allMay_out {P : Program} : ∀ {l : List (Nat × (List T → Hp → Nat → (T → Hp → Nat → Prop) → Prop))}, AllMay P l → ∀ f g, (f, g) ∈ l → May P (f, g) ∨ MayX P (f, g)
  | [], _, _, _, h => by cases h
  | p :: l, h, f, g, hm => by
    rcases List.mem_cons.1 hm with rfl | hm
    · exact h.1
    · exact allMay_out h.2 f g hm
theorem env_of {P : Program} {tys : List (Nat × TyI)} {l : List (Nat × (List T → Hp → Nat → (T → Hp → Nat → Prop) → Prop))} (h1 : tysB P tys = true) (h2 : AllMay P l) : EnvOk P ⟨tys, l⟩ :=
  ⟨tysB_out h1, fun f g h => allMay_out h2 f g h⟩

/-- What a function's text asks for, at given ghosts. -/
noncomputable def denX (E : Env) (S : Spec) (as : Hints) (f : Func) (x : Gh S.cs S.ar) : Prop :=
  match f.body with
  | none => False
  | some c => S.pre x → ghK S.cs S.ar x (CSh.encsK id S.cs x fun hp x' => Sh.encsK id S.ar x' fun args _ => lpadK f.ntmps args fun fr => denC E S.n as c fr hp S.n fun e fr hp _ => match e with
    | .normal => denF.fin E S f x fr hp
    | .ret => denF.fin E S f x fr hp
    | _ => False)

/-- From a function's side conditions to its contract. -/
theorem fn_of {P : Program} {tys : List (Nat × TyI)} {l : List (Nat × (List T → Hp → Nat → (T → Hp → Nat → Prop) → Prop))} {f : FuncId} {S : Spec} {hi : Hints} {fn : Func} {c : Code} (h1 : tysB P tys = true) (hmix : P.follows .mixedOrders = true) (h2 : AllMay P l)
    (hf : P.funcs[f]? = some fn) (hb : fn.body = some c) (hn : (fn.name == "runtime.NumGoroutine") = false) (hc : codeOk hi.plans c = true) (hs : (idsOk S.cs && idsOk S.cs' && Nat.ble S.n S.n') = true) (h : denF ⟨tys, l⟩ S hi fn) : (FnIs P f ∧ FnOk P f S) ∧ (idsOk S.cs && idsOk S.cs' && Nat.ble S.n S.n') = true := by
  have hs' := hs
  simp only [Bool.and_eq_true] at hs'
  exact ⟨⟨⟨fn, hf, hn, by rw [hb]; rfl⟩, fn_ok (env_of h1 h2) hmix hf hb hc (by simp only [Bool.and_eq_true]; exact ⟨hs'.1.2, hs'.2⟩) h⟩, hs⟩
theorem may_call {P : Program} {f : FuncId} {S : Spec} (h : (FnIs P f ∧ FnOk P f S) ∧ (idsOk S.cs && idsOk S.cs' && Nat.ble S.n S.n') = true) : May P (f, S.call) := ⟨h.1.1, call_ok false h.1.2 h.2⟩
theorem may_callN {P : Program} {f : FuncId} {S : Spec} (h : (FnIs P f ∧ FnOk P f S) ∧ (idsOk S.cs && idsOk S.cs' && Nat.ble S.n S.n') = true) : May P (f, S.callN) := ⟨h.1.1, call_ok true h.1.2 h.2⟩

end Go.J

