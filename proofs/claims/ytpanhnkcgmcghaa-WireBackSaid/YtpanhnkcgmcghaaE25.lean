/-
  THE ENGINE, part 25: a state told by its ghosts is that state: the whole.
-/
import Derived.Test.YtpanhnkcgmcghaaE24
set_option linter.unusedSimpArgs false
set_option linter.unusedVariables false
set_option linter.unusedSectionVars false

namespace Go.J

section
variable {w0 : World} {F0 : Base} {G : Cx} {nx : Nat}

theorem frOk_cons {t : T} {ts : List T} {v : Value} {vs : List Value} : frOk G (t :: ts) ⟨v :: vs⟩ ↔ tVal G t v ∧ frOk G ts ⟨vs⟩ := by
  constructor
  · rintro ⟨h1, h2⟩
    refine ⟨?_, by simpa using h1, fun i u hu => ?_⟩
    · obtain ⟨v', e, hv⟩ := h2 0 t rfl
      simp at e
      rw [e]
      exact hv
    · obtain ⟨v', e, hv⟩ := h2 (i + 1) u (by simpa using hu)
      exact ⟨v', by simpa using e, hv⟩
  · rintro ⟨h1, h2, h3⟩
    refine ⟨by simpa using h2, fun i u hu => ?_⟩
    cases i with
    | zero => simp at hu; subst hu; exact ⟨v, by simp, h1⟩
    | succ i => obtain ⟨v', e, hv⟩ := h3 i u (by simpa using hu); exact ⟨v', by simpa using e, hv⟩

theorem tVal_from1 {t : T} {v : Value} (h : tVal1 G t v) : tVal G t v := by
  cases t with
  | tup ts => exact h.elim
  | _ => exact h

theorem dec_tup {s : Sh} {ts : T} {d : D} {k : (∀ R : Type, R → s.add R) → D → Prop} (h : Sh.dec s (.tup ts) d k) : False := by
  cases s with
  | el e => cases e <;> exact h
  | _ => exact h

theorem decs_out : ∀ (ss : List Sh) (ts : List T) (d : D) (k : (∀ R : Type, R → Sh.adds ss R) → D → Prop) (im : Nat → Prop) (taken : Hp), DI w0 F0 G nx im d taken → Sh.decs ss ts d k →
    ∃ f d' im', k f d' ∧ DI w0 F0 G nx im' d' taken ∧ Le im im' d d' ∧ ∃ ts', (∀ (R : Type) (r : R), Sh.encs id ss (f R r) = (ts', r)) ∧ ∀ G', Compat G im' d' G' → ∀ vs : List Value, frOk G ts ⟨vs⟩ → frOk G' ts' ⟨vs⟩
  | [], [], d, k, im, taken, hd, h => ⟨_, d, im, h, hd, Le.refl _ _, [], fun _ _ => rfl, fun G' hG vs ⟨h1, _⟩ => ⟨h1, fun i t ht => by simp at ht⟩⟩
  | [], _ :: _, _, _, _, _, _, h => h.elim
  | _ :: _, [], _, _, _, _, _, h => h.elim
  | s :: ss, t :: ts, d, k, im, taken, hd, h => by
    obtain ⟨f, d1, h1, im1, hd1, hle1, t1, e1, hv1⟩ := dec_out s t d _ im taken hd (show s.dec t d fun f d => Sh.decs ss ts d fun g d => k (fun R r => f _ (g R r)) d by simpa only [Sh.decs, forceD_eq] using h)
    obtain ⟨g, d2, im2, h2, hd2, hle2, ts2, e2, hv2⟩ := decs_out ss ts d1 _ im1 taken hd1 h1
    refine ⟨_, d2, im2, h2, hd2, hle1.trans hle2, t1 :: ts2, fun R r => by simp only [Sh.encs, e1, e2], fun G' hG vs hf => ?_⟩
    cases vs with
    | nil => have := hf.1; simp at this
    | cons v vs =>
      obtain ⟨k1, k2⟩ := frOk_cons.1 hf
      refine frOk_cons.2 ⟨?_, hv2 G' hG vs k2⟩
      refine tVal_from1 ((hv1 G' (hG.le hle2)).2 v ?_)
      cases t with
      | tup us => exact (dec_tup h).elim
      | _ => exact k1

theorem notIn_out {r : Nat} : ∀ {l : List Nat}, notIn r l = true → r ∉ l
  | [], _ => by simp
  | x :: l, h => by
    simp only [notIn, Bool.and_eq_true, Bool.not_eq_true'] at h
    intro hm
    rcases List.mem_cons.1 hm with rfl | hm
    · rw [nat_beq_self] at h; cases h.1
    · exact notIn_out h.2 hm

/-- What telling a block gives. -/
structure COut (w0 : World) (F0 : Base) (G : Cx) (nx : Nat) (c : CSh) (q : Nat) (d : D) (taken : Hp) (im : Nat → Prop) (f : ∀ R : Type, R → c.add R) (d' : D) (im' : Nat → Prop) (c' : Chunk) (src : Option (Nat × Chunk)) : Prop where
  di : DI w0 F0 G nx im' d' (taken ++ src.toList)
  le : Le im im' d d'
  enc : ∀ (R : Type) (r : R), c.enc id (f R r) = (c', r)
  rw : c'.rw = true
  map : mapF d.map q = some (src.map (·.1))
  lent : ∀ p, src = some p → p.2.rw = true ∧ p.1 ∉ d'.lent
  ok : ∀ G' b, Compat G im' d' G' → (∀ p, src = some p → G.rho p.1 = some b) → (src = none → b = nilB) → chunkOk G' c' b

theorem Mdl.swap {hp1 : Hp} {im : Nat → Prop} {l1 l2 : Hp} {r : Nat} {c : Chunk} (h : Mdl w0 F0 ⟨G.rho, im, G.w⟩ ((l1 ++ (r, c) :: l2) ++ hp1) nx) : Mdl w0 F0 ⟨G.rho, im, G.w⟩ ((l1 ++ l2) ++ (hp1 ++ [(r, c)])) nx := by
  refine h.sub (fun p hp => ?_) ?_
  · simp at hp ⊢
    rcases hp with h | h | h | h <;> simp [h]
  · have hn := h.ids
    have hp : (((l1 ++ l2) ++ (hp1 ++ [(r, c)])).map (·.1)).Perm (((l1 ++ (r, c) :: l2) ++ hp1).map (·.1)) := by
      refine List.Perm.map _ ?_
      rw [← List.append_assoc]
      refine (List.perm_append_comm).trans ?_
      simp only [List.nil_append, List.append_assoc, List.cons_append]
      exact (List.perm_middle).symm
    exact hp.nodup_iff.2 hn

theorem chunk_out (c : CSh) (q : Nat) (d : D) (k : (∀ R : Type, R → c.add R) → D → Prop) (im : Nat → Prop) (taken : Hp) (hd : DI w0 F0 G nx im d taken) (h : CSh.dec c q d k) :
    ∃ f d' im' c' src, k f d' ∧ COut w0 F0 G nx c q d taken im f d' im' c' src := by
  unfold CSh.dec at h
  obtain ⟨r, hmap, h⟩ := mapK_out h
  cases r with
  | none =>
    cases c with
    | row ty e =>
      refine ⟨_, d, im, .row ty e [], none, h, by simpa using hd, Le.refl _ _, fun _ _ => rfl, rfl, hmap, fun p hp => (by cases hp), fun G' b hG _ hb => ?_⟩
      rw [hb rfl]
      exact ⟨rfl, by simp [nilB], [], ⟨by simp, .inl ⟨rfl, rfl⟩⟩, rfl⟩
    | own s => exact h.elim
  | some r =>
    dsimp only at h
    cases hni : notIn r d.lent with
    | false => rw [hni] at h; exact h.elim
    | true =>
      rw [hni] at h
      have hni := notIn_out hni
      obtain ⟨ch, hch, h⟩ := lookK_out h
      obtain ⟨l1, c0, l2, hl, h⟩ := delK_out h
      have hc0 := mem_split_upd hch hl (nodup_left hd.mdl.ids)
      subst hc0
      have hmd : Mdl w0 F0 ⟨G.rho, im, G.w⟩ ((l1 ++ l2) ++ (taken ++ [(r, ch)])) nx := by
        have := hd.mdl
        rw [hl] at this
        exact this.swap
      have hdi : DI w0 F0 G nx im ⟨d.n, l1 ++ l2, d.map, d.lent⟩ (taken ++ [(r, ch)]) := ⟨hmd, hd.im, hd.lt, fun r' hr' => by
        obtain ⟨c', hc', hor⟩ := hd.lentIn r' hr'
        rw [hl] at hc'
        rcases List.mem_append.1 hc' with hm | hm
        · exact ⟨c', by simp [hm], hor⟩
        · rcases List.mem_cons.1 hm with hm | hm
          · cases hm; exact (hni hr').elim
          · exact ⟨c', by simp [hm], hor⟩⟩
      have hchunk : ∀ b, G.rho r = some b → chunkOk ⟨G.rho, im, G.w⟩ ch b := fun b hb => by
        obtain ⟨b', hr', hck⟩ := hmd.chunk r ch (by simp)
        have hr' : G.rho r = some b' := hr'
        obtain rfl : b = b' := Option.some.inj (hb.symm.trans hr')
        exact hck
      cases c with
      | row ty e =>
        cases ch with
        | row ty' e' xs =>
          dsimp only at h
          split at h
          · next hty =>
            obtain rfl := nat_beq_eq hty
            obtain rfl := castK_eq h
            have hk := castK_self h
            refine ⟨_, _, im, .row ty' e' xs, some (r, .row ty' e' xs), hk, hdi, ⟨rfl, fun _ h => h, fun _ _ h => h, fun _ h => h⟩, fun _ _ => rfl, rfl, hmap, fun p hp => by cases hp; exact ⟨rfl, hni⟩, fun G' b hG hb _ => ?_⟩
            obtain ⟨q1, q2, css, q3, q4⟩ := hchunk b (hb _ rfl)
            have q3 : G.w.ownsRow 0 ty' e'.sz b.val xs.length css := q3
            exact ⟨q1, q2, css, by rw [hG.w]; exact q3, list_move hG.w hG.im q4⟩
          · exact h.elim
        | _ => exact h.elim
      | own s =>
        cases ch with
        | own t =>
          have hdi' : DI w0 F0 ⟨G.rho, im, G.w⟩ nx im ⟨d.n, l1 ++ l2, d.map, d.lent⟩ (taken ++ [(r, Chunk.own t)]) := ⟨hmd, fun _ h => h, hd.lt, hdi.lentIn⟩
          obtain ⟨f, d', hk, im', hd', hle, t', henc, hv⟩ := dec_out (G := ⟨G.rho, im, G.w⟩) s t _ k im _ hdi' h
          refine ⟨f, d', im', .own t', some (r, .own t), hk, ⟨hd'.mdl, fun b hb => hle.im b (hd.im b hb), hd'.lt, hd'.lentIn⟩, ⟨hle.n, hle.im, hle.map, hle.lent⟩, fun R x => by simp only [CSh.enc, henc], rfl, hmap, fun p hp => ?_, fun G' b hG hb _ => ?_⟩
          · cases hp
            refine ⟨rfl, fun hin => ?_⟩
            obtain ⟨c', hc', _⟩ := hd'.lentIn r hin
            have hnd := hd'.mdl.ids
            rw [List.map_append, List.nodup_append] at hnd
            exact hnd.2.2 r (List.mem_map.2 ⟨_, hc', rfl⟩) r (by simp) rfl
          · obtain ⟨q1, cs, ty, q2, q3⟩ := hchunk b (hb _ rfl)
            have q2 : G.w.heap[b.blk]? = some (.cells ⟨cs⟩ ty (0, 0)) := q2
            exact ⟨q1, cs, ty, by rw [hG.w]; exact q2, (hv G' ⟨hG.w, hG.im, hG.rho, hG.lent⟩).1 cs q3⟩
        | _ => exact h.elim

/-- All blocks: each with what it stands for. -/
structure SOut (w0 : World) (F0 : Base) (G : Cx) (nx : Nat) (cs : List (Nat × CSh)) (d : D) (taken : Hp) (im : Nat → Prop) (f : ∀ R : Type, R → CSh.adds cs R) (d' : D) (im' : Nat → Prop) (L : List (Nat × Chunk × Option (Nat × Chunk))) : Prop where
  di : DI w0 F0 G nx im' d' (taken ++ L.filterMap (·.2.2))
  le : Le im im' d d'
  enc : ∀ (R : Type) (r : R), CSh.encs id cs (f R r) = (L.map fun p => (p.1, p.2.1), r)
  ids : L.map (·.1) = cs.map (·.1)
  each : ∀ p, p ∈ L → p.2.1.rw = true ∧ mapF d'.map p.1 = some (p.2.2.map (·.1)) ∧ (∀ s, p.2.2 = some s → s.2.rw = true ∧ s.1 ∉ d'.lent) ∧
    ∀ G' b, Compat G im' d' G' → (∀ s, p.2.2 = some s → G.rho s.1 = some b) → (p.2.2 = none → b = nilB) → chunkOk G' p.2.1 b

theorem chunks_out : ∀ (cs : List (Nat × CSh)) (d : D) (k : (∀ R : Type, R → CSh.adds cs R) → D → Prop) (im : Nat → Prop) (taken : Hp), DI w0 F0 G nx im d taken → CSh.decs cs d k →
    ∃ f d' im' L, k f d' ∧ SOut w0 F0 G nx cs d taken im f d' im' L
  | [], d, k, im, taken, hd, h => ⟨_, d, im, [], h, by simpa using hd, Le.refl _ _, fun _ _ => rfl, rfl, fun p hp => (by cases hp)⟩
  | (q, c) :: cs, d, k, im, taken, hd, h => by
    obtain ⟨f, d1, im1, c', src, h1, o1⟩ := chunk_out c q d _ im taken hd (show c.dec q d fun f d => CSh.decs cs d fun g d => k (fun R r => f _ (g R r)) d by simpa only [CSh.decs, forceD_eq] using h)
    obtain ⟨g, d2, im2, L, h2, o2⟩ := chunks_out cs d1 _ im1 _ o1.di h1
    refine ⟨_, d2, im2, (q, c', src) :: L, h2, ?_, o1.le.trans o2.le, fun R r => by simp only [CSh.encs, o1.enc, o2.enc]; rfl, by simp [o2.ids], fun p hp => ?_⟩
    · have := o2.di
      cases src with
      | none => simpa using this
      | some s => simpa [List.append_assoc] using this
    · rcases List.mem_cons.1 hp with rfl | hp
      · refine ⟨o1.rw, o2.le.map _ _ (o1.le.map _ _ o1.map), fun s hs => ⟨(o1.lent s hs).1, fun hin => ?_⟩, fun G' b hG hb hn => o1.ok G' b (hG.le o2.le) hb hn⟩
        have hs : src = some s := hs
        subst hs
        obtain ⟨c2, hc2, _⟩ := o2.di.lentIn s.1 hin
        have hnd := o2.di.mdl.ids
        rw [List.map_append, List.nodup_append] at hnd
        exact hnd.2.2 s.1 (List.mem_map.2 ⟨_, hc2, rfl⟩) s.1 (by simp) rfl
      · exact o2.each p hp

theorem idsOk_out : ∀ {cs : List (Nat × CSh)}, idsOk cs = true → (cs.map (·.1)).Nodup
  | [], _ => by simp
  | (q, c) :: cs, h => by
    simp only [idsOk, Bool.and_eq_true] at h
    have fresh : ∀ {cs : List (Nat × CSh)}, idsOk.fresh q cs = true → q ∉ cs.map (·.1) := by
      intro cs
      induction cs with
      | nil => simp
      | cons p cs ih =>
        intro hf
        obtain ⟨q', c'⟩ := p
        simp only [idsOk.fresh, Bool.and_eq_true, Bool.not_eq_true'] at hf
        simp only [List.map_cons, List.mem_cons, not_or]
        refine ⟨?_, ih hf.2⟩
        rintro rfl
        rw [nat_beq_self] at hf
        cases hf.1
    simp only [List.map_cons, List.nodup_cons]
    exact ⟨fresh h.1, idsOk_out h.2⟩

end
end Go.J
