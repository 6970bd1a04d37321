/-
  THE ENGINE, part 23: a state told by its ghosts is that state: values.
-/
import Derived.Test.YtpanhnkcgmcghaaE22
set_option linter.unusedSimpArgs false
set_option linter.unusedVariables false
set_option linter.unusedSectionVars false

namespace Go.J

section
variable {w0 : World} {F0 : Base} {G : Cx} {nx : Nat}

/-- What telling a value gives. -/
def Out (w0 : World) (F0 : Base) (G : Cx) (nx : Nat) (s : Sh) (t : T) (d : D) (taken : Hp) (im : Nat → Prop) (f : ∀ R : Type, R → s.add R) (d' : D) : Prop :=
  ∃ im', DI w0 F0 G nx im' d' taken ∧ Le im im' d d' ∧ ∃ t', (∀ (R : Type) (r : R), s.enc id (f R r) = (t', r)) ∧ ∀ G', Compat G im' d' G' → (∀ cs, tCells G t cs → tCells G' t' cs) ∧ (∀ v, tVal1 G t v → tVal1 G' t' v)

/-- One cell: the value says it all. -/
theorem one_out {G' : Cx} {x y : V} (h : ∀ v, vOk G x v → vOk G' y v) : (∀ cs, tCells G (.v x) cs → tCells G' (.v y) cs) ∧ (∀ v, tVal1 G (.v x) v → tVal1 G' (.v y) v) :=
  ⟨fun cs ⟨c, e1, e2, e3⟩ => ⟨c, e1, e2, h c e3⟩, h⟩

theorem bindD_out {d : D} {q : Nat} {r : Option Nat} {k : D → Prop} {im : Nat → Prop} {taken : Hp} (hd : DI w0 F0 G nx im d taken) (h : bindD d q r k) : ∃ d', k d' ∧ DI w0 F0 G nx im d' taken ∧ Le im im d d' ∧ mapF d'.map q = some r := by
  unfold bindD at h
  split at h
  · next hlt =>
    have hlt : q < d.n := by simpa [Nat.blt_eq] using hlt
    rcases bindK_out h with ⟨h1, h2⟩ | ⟨h1, h2⟩
    · have hne : ∀ q' r', mapF d.map q' = some r' → Nat.beq q q' = false := fun q' r' hq => by
        refine nat_beq_ne ?_
        rintro rfl
        rw [h1] at hq
        cases hq
      refine ⟨_, h2, ⟨hd.mdl, hd.im, fun q' r' hq => ?_, hd.lentIn⟩, ⟨rfl, fun _ h => h, fun q' r' hq => ?_, fun _ h => h⟩, ?_⟩
      · unfold mapF at hq
        split at hq
        · next hb => rw [← nat_beq_eq hb]; exact hlt
        · exact hd.lt q' r' hq
      · unfold mapF
        rw [hne q' r' hq]
        exact hq
      · unfold mapF
        rw [nat_beq_self]
    · exact ⟨d, h2, hd, Le.refl _ _, h1⟩
  · exact h.elim

theorem mem_split_upd {hp : Hp} {r : Nat} {c c0 : Chunk} {l1 l2 : Hp} (h1 : (r, c) ∈ hp) (h2 : hp = l1 ++ (r, c0) :: l2) (hn : (hp.map (·.1)).Nodup) : c = c0 := by
  subst h2
  simp only [List.map_append, List.map_cons] at hn
  rcases List.mem_append.1 h1 with hm | hm
  · exact ((List.nodup_append.1 hn).2.2 r (List.mem_map.2 ⟨(r, c), hm, rfl⟩) r (by simp) rfl).elim
  · rcases List.mem_cons.1 hm with hm | hm
    · cases hm; rfl
    · exact ((List.nodup_cons.1 (List.nodup_append.1 hn).2.1).1 (List.mem_map.2 ⟨(r, c), hm, rfl⟩)).elim

theorem nodup_left {a b : Hp} (h : ((a ++ b).map (·.1)).Nodup) : (a.map (·.1)).Nodup := by
  rw [List.map_append] at h
  exact (List.nodup_append.1 h).1

/-- The cells of what a row of ours holds. -/
theorem fz_value {e : El} {r : Nat} {ty : TypeId} {xs : List e.ty} {hp : Hp} {im : Nat → Prop} (hm : Mdl w0 F0 ⟨G.rho, im, G.w⟩ hp nx) (hc : (r, Chunk.fz ty e xs) ∈ hp) {G' : Cx} (hw : G'.w = G.w) (him : ∀ b, im b → G'.im b) {v : Value} (hv : vOk G (.own r) v) : vOk G' (.rd e xs) v := by
  obtain ⟨b, hr, hck⟩ := hm.chunk r _ hc
  obtain ⟨b', k1, k2⟩ := hv
  have hr : G.rho r = some b := hr
  obtain rfl : b = b' := Option.some.inj (hr.symm.trans k1)
  obtain ⟨q1, q2, q3, q4⟩ := hck
  refine ⟨_, b.cap, by rw [k2, q1], by omega, q3, fun hp => ?_⟩
  obtain ⟨m1, m2, m3, css, m4, m5⟩ := q4 (by omega)
  have m3 : b.blk < G.w.heap.size := m3
  have m4 : cellsAt G.w b.blk 0 css := m4
  have m5 : listOf (cellsOf im G.w e) xs css := m5
  exact ⟨b.blk, 0, css, by simp [m1], him _ m2, by rw [hw]; exact m3, by rw [hw]; exact m4, list_move hw him m5⟩

theorem freezeK_out {e : El} {r : Nat} {d : D} {k : List e.ty → D → Prop} {im : Nat → Prop} {taken : Hp} (hd : DI w0 F0 G nx im d taken) (h : freezeK e r d k) :
    ∃ xs d' im', k xs d' ∧ DI w0 F0 G nx im' d' taken ∧ Le im im' d d' ∧ ∀ G', Compat G im' d' G' → ∀ v, vOk G (.own r) v → vOk G' (.rd e xs) v := by
  unfold freezeK at h
  obtain ⟨c, hc, h⟩ := lookK_out h
  split at h
  · next ty e' xs =>
    obtain ⟨l1, c0, l2, hl, h2⟩ := updK_out h
    obtain rfl := castK_eq h2
    have hk := castK_self h2
    have hc0 := mem_split_upd hc hl (nodup_left hd.mdl.ids)
    subst hc0
    have hmd := hd.mdl
    rw [hl, List.append_assoc, List.cons_append] at hmd
    obtain ⟨b, hr, hck⟩ := hmd.chunk r (.row ty e' xs) (by simp)
    have hf := hmd.freeze hr
    refine ⟨xs, _, fun k => im k ∨ (b.nil = false ∧ k = b.blk), hk, ⟨by rw [List.append_assoc, List.cons_append]; exact hf, fun b hb => Or.inl (hd.im b hb), hd.lt, fun r' hr' => ?_⟩, ⟨rfl, fun b hb => Or.inl hb, fun _ _ h => h, fun _ h => h⟩, fun G' hG v hv => ?_⟩
    · obtain ⟨c, hc', hor⟩ := hd.lentIn r' hr'
      rw [hl] at hc'
      rcases List.mem_append.1 hc' with hm | hm
      · exact ⟨c, by simp [hm], hor.imp id fun h b hb hn => Or.inl (h b hb hn)⟩
      · rcases List.mem_cons.1 hm with hm | hm
        · cases hm
          refine ⟨.fz ty e' xs, by simp, .inr fun b' hb' hn => ?_⟩
          have hr : G.rho r = some b := hr
          rw [hr] at hb'
          cases hb'
          exact Or.inr ⟨hn, rfl⟩
        · exact ⟨c, by simp [hm], hor.imp id fun h b hb hn => Or.inl (h b hb hn)⟩
    · exact fz_value (G := G) (ty := ty) hf (by simp) hG.w hG.im hv
  · next ty e' xs =>
    obtain rfl := castK_eq h
    have hk := castK_self h
    exact ⟨xs, d, im, hk, hd, Le.refl _ _, fun G' hG v hv => fz_value (G := G) (ty := ty) hd.mdl (by simp [hc]) hG.w hG.im hv⟩
  · exact h.elim

theorem frzK_out {r : Nat} {d : D} {k : D → Prop} {im : Nat → Prop} {taken : Hp} (hd : DI w0 F0 G nx im d taken) (h : frzK r d k) :
    ∃ d' im', k d' ∧ DI w0 F0 G nx im' d' taken ∧ Le im im' d d' := by
  unfold frzK at h
  obtain ⟨c, hc, h⟩ := lookK_out h
  split at h
  · next ty e' xs =>
    obtain ⟨l1, c0, l2, hl, h2⟩ := updK_out h
    have hc0 := mem_split_upd hc hl (nodup_left hd.mdl.ids)
    subst hc0
    have hmd := hd.mdl
    rw [hl, List.append_assoc, List.cons_append] at hmd
    obtain ⟨b, hr, hck⟩ := hmd.chunk r (.row ty e' xs) (by simp)
    have hf := hmd.freeze hr
    refine ⟨_, fun k => im k ∨ (b.nil = false ∧ k = b.blk), h2, ⟨by rw [List.append_assoc, List.cons_append]; exact hf, fun b hb => Or.inl (hd.im b hb), hd.lt, fun r' hr' => ?_⟩, ⟨rfl, fun b hb => Or.inl hb, fun _ _ h => h, fun _ h => h⟩⟩
    obtain ⟨c, hc', hor⟩ := hd.lentIn r' hr'
    rw [hl] at hc'
    rcases List.mem_append.1 hc' with hm | hm
    · exact ⟨c, by simp [hm], hor.imp id fun h b hb hn => Or.inl (h b hb hn)⟩
    · rcases List.mem_cons.1 hm with hm | hm
      · cases hm
        refine ⟨.fz ty e' xs, by simp, .inr fun b' hb' hn => ?_⟩
        have hr : G.rho r = some b := hr
        rw [hr] at hb'
        cases hb'
        exact Or.inr ⟨hn, rfl⟩
      · exact ⟨c, by simp [hm], hor.imp id fun h b hb hn => Or.inl (h b hb hn)⟩
  · exact ⟨d, im, h, hd, Le.refl _ _⟩
  · exact h.elim

/-- A slice that is looked at. -/
theorem lend_out {e : El} {x : V} {d : D} {k : List e.ty → List Nat → Prop} {im : Nat → Prop} {taken : Hp} (hd : DI w0 F0 G nx im d taken) (h : rdK e d.hp x fun xs => lentK d.hp x fun l => k xs l) :
    ∃ xs l, k xs l ∧ (∀ r, r ∈ l → ∃ c, (r, c) ∈ d.hp ∧ c.rw = true) ∧ ∀ G', Compat G im ⟨d.n, d.hp, d.map, l ++ d.lent⟩ G' → ∀ v, vOk G x v → vOk G' (.rd e xs) v := by
  have hx0 : Ext G ⟨G.rho, im, G.w⟩ := ⟨fun _ _ h => h, hd.im, fun _ _ => rfl, Nat.le_refl _⟩
  have hmd : Mdl w0 F0 ⟨G.rho, im, G.w⟩ d.hp nx := hd.mdl.sub (fun p hp => by simp [hp]) (nodup_left hd.mdl.ids)
  obtain ⟨xs, hk, hkk⟩ := rdK_det e d.hp x _ h
  have hk2 : ∃ l, k xs l ∧ (∀ r, r ∈ l → ∃ c, (r, c) ∈ d.hp ∧ c.rw = true) ∧ ∀ r, (x = .own r ∨ ∃ p off len sz, x = .sl r p off len sz) → ∀ c, (r, c) ∈ d.hp → c.rw = true → r ∈ l := by
    have look : ∀ r, (lookK d.hp r fun c => match c.rw with
        | true => k xs [r]
        | false => k xs []) → ∃ l, k xs l ∧ (∀ r, r ∈ l → ∃ c, (r, c) ∈ d.hp ∧ c.rw = true) ∧ ∀ c, (r, c) ∈ d.hp → c.rw = true → r ∈ l := by
      intro r h
      obtain ⟨c, hc, h2⟩ := lookK_out h
      cases hrw : c.rw with
      | true =>
        rw [hrw] at h2
        exact ⟨[r], h2, fun r' hr' => by simp at hr'; subst hr'; exact ⟨c, hc, hrw⟩, fun _ _ _ => by simp⟩
      | false =>
        rw [hrw] at h2
        refine ⟨[], h2, fun r' hr' => (by cases hr'), fun c' hc' hrw' => ?_⟩
        obtain ⟨l1, l2, hl⟩ := List.append_of_mem hc
        have := mem_split_upd hc' hl (nodup_left hd.mdl.ids)
        subst this
        rw [hrw] at hrw'
        cases hrw'
    cases x with
    | own r =>
      obtain ⟨l, h1, h2, h3⟩ := look r hk
      exact ⟨l, h1, h2, fun r' hr' c hc hrw => by
        rcases hr' with hr' | ⟨_, _, _, _, hr'⟩ <;> cases hr'
        exact h3 c hc hrw⟩
    | sl r p off len sz =>
      obtain ⟨l, h1, h2, h3⟩ := look r hk
      exact ⟨l, h1, h2, fun r' hr' c hc hrw => by
        rcases hr' with hr' | ⟨_, _, _, _, hr'⟩ <;> cases hr'
        exact h3 c hc hrw⟩
    | _ => exact ⟨[], hk, fun r hr => (by cases hr), fun r hr => by rcases hr with hr | ⟨_, _, _, _, hr⟩ <;> cases hr⟩
  obtain ⟨l, hkl, hin, hall⟩ := hk2
  refine ⟨xs, l, hkl, hin, fun G' hG v hv => ?_⟩
  obtain ⟨ys, e1, hold⟩ := rdK_out hmd (hx0.vOk hv) (hkk (fun ys => ys = xs) rfl)
  subst e1
  obtain ⟨A, c, rfl, q2, q3, q4⟩ := hold
  refine ⟨A, c, rfl, q2, q3, fun hp => ?_⟩
  obtain ⟨b, oo, css, rfl, m1, m2⟩ := q4 hp
  have m1 : cellsAt G.w b oo css := m1
  have m2 : listOf (cellsOf im G.w e) ys css := m2
  have hfin : G'.im b → b < G.w.heap.size → ∃ b' o' css', (some (⟨b, oo, none⟩ : Addr)) = some ⟨b', o', none⟩ ∧ G'.im b' ∧ b' < G'.w.heap.size ∧ cellsAt G'.w b' o' css' ∧ listOf (cellsOf G'.im G'.w e) ys css' := fun h1 h2 =>
    ⟨b, oo, css, rfl, h1, by rw [hG.w]; exact h2, by rw [hG.w]; exact m1, list_move hG.w hG.im m2⟩
  -- a block that is one of ours
  have ours : ∀ (r : Nat) (ch : Chunk) (bb : B), (x = .own r ∨ ∃ p off len sz, x = .sl r p off len sz) → (r, ch) ∈ d.hp → G.rho r = some bb → bb.nil = false → (ch.rw = false → 0 < bb.len) → G'.im bb.blk ∧ bb.blk < G.w.heap.size := by
    intro r ch bb hx hch hr hn hlen
    obtain ⟨b', hr', hck⟩ := hmd.chunk r ch hch
    have hr' : G.rho r = some b' := hr'
    obtain rfl : bb = b' := Option.some.inj (hr.symm.trans hr')
    cases ch with
    | own t => exact ⟨hG.lent r bb (by simp [hall r hx _ hch rfl]) hr hn, (hmd.mine r _ bb hch rfl hr hn).2.1⟩
    | row ty e' xs => exact ⟨hG.lent r bb (by simp [hall r hx _ hch rfl]) hr hn, (hmd.mine r _ bb hch rfl hr hn).2.1⟩
    | fz ty e' xs =>
      obtain ⟨q1, _, _, q4⟩ := hck
      obtain ⟨_, z2, z3, _⟩ := q4 (hlen rfl)
      exact ⟨hG.im _ z2, z3⟩
  unfold rdK at h
  split at h
  · obtain ⟨A', c', e1, _, _, e4⟩ := hv
    simp at e1
    obtain rfl := castK_eq h
    have hxs := castK_self (show castK _ _ _ (fun ys' => ys' = ys) from (hkk (fun ys' => ys' = ys) rfl))
    subst hxs
    obtain ⟨b', o', css', k1, k2, k3, _⟩ := e4 hp
    rw [← e1.1] at k1
    simp at k1
    obtain ⟨rfl, rfl⟩ := k1
    exact hfin (hG.im _ (hd.im _ k2)) k3
  · cases hv
  · next r =>
    obtain ⟨ch, hch, h2⟩ := lookK_out h
    obtain ⟨bb, hr, hck⟩ := hmd.chunk r ch hch
    have hr : G.rho r = some bb := hr
    obtain ⟨b', k1, k2⟩ := hv
    obtain rfl : bb = b' := Option.some.inj (hr.symm.trans k1)
    have hn : bb.nil = false := by
      cases hb : bb.nil with
      | false => rfl
      | true => rw [hb] at k2; simp at k2
    rw [hn] at k2
    simp at k2
    obtain ⟨z1, z2⟩ := ours r ch bb (.inl rfl) hch hr hn (fun _ => by omega)
    obtain ⟨⟨rfl, rfl⟩, _⟩ := k2
    exact hfin z1 z2
  · next r p off len sz =>
    obtain ⟨ch, hch, h2⟩ := lookK_out h
    obtain ⟨bb, hr, hck⟩ := hmd.chunk r ch hch
    have hr : G.rho r = some bb := hr
    obtain ⟨b', c', A', k1, _, _, k4, k5⟩ := hv
    obtain rfl : bb = b' := Option.some.inj (hr.symm.trans k1)
    simp at k4
    obtain ⟨rfl, hlen, rfl⟩ := k4
    obtain ⟨hn, hA⟩ := k5 (by omega)
    simp at hA
    obtain ⟨z1, z2⟩ := ours r ch bb (.inr ⟨p, off, len, sz, rfl⟩) hch hr hn (fun hrw => by
      cases ch with
      | own t => cases hrw
      | row ty e' xs => cases hrw
      | fz ty e' xs =>
        obtain ⟨q1, _, _, q4⟩ := hck
        by_cases h0 : 0 < bb.len
        · exact h0
        · have hxs : xs = [] := List.eq_nil_of_length_eq_zero (by omega)
          subst hxs
          exfalso
          cases p with
          | nil =>
            simp only [tgetK, Chunk.tree] at h2
            split at h2
            · have := h2.1
              simp at this
              omega
            · exact h2
          | cons st p =>
            cases st with
            | f i o => simp only [tgetK, Chunk.tree] at h2; cases i <;> simp [fieldK] at h2
            | x i sz' =>
              simp only [tgetK, Chunk.tree] at h2
              split at h2
              · exact absurd h2.1 (by simp)
              · exact h2)
    obtain ⟨rfl, rfl⟩ := hA
    exact hfin z1 z2
  · exact h.elim

end
end Go.J
