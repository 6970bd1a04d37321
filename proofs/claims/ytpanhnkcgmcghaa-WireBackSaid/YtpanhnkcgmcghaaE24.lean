/-
  THE ENGINE, part 24: a state told by its ghosts is that state: shapes, blocks.
-/
import Derived.Test.YtpanhnkcgmcghaaE23
set_option linter.unusedSimpArgs false
set_option linter.unusedVariables false
set_option linter.unusedSectionVars false

namespace Go.J

section
variable {w0 : World} {F0 : Base} {G : Cx} {nx : Nat}

/-- A pointer whose content is looked at. -/
theorem rp_value {e : El} {x : e.ty} {G' : Cx} {b o : Nat} {cs : List Value} (hc : cellsOf G'.im G'.w e x cs) (hat : cellsAt G'.w b o cs) (him : G'.im b) (hlt : b < G'.w.heap.size) : vOk G' (.rp e [x] 0 []) (.pointer (some ⟨b, o, none⟩)) :=
  ⟨by simp, b, o, cs, by simp [poff], him, hlt, hat, cs, [], by simp, hc, rfl⟩

theorem dec_out : ∀ (s : Sh) (t : T) (d : D) (k : (∀ R : Type, R → s.add R) → D → Prop) (im : Nat → Prop) (taken : Hp), DI w0 F0 G nx im d taken → Sh.dec s t d k → ∃ f d', k f d' ∧ Out w0 F0 G nx s t d taken im f d' := by
  intro s
  induction s with
  | el e =>
    intro t d k im taken hd h
    have plain : (decK e t [] fun x => k (fun _ r => (x, r)) d) → ∃ f d', k f d' ∧ Out w0 F0 G nx (.el e) t d taken im f d' := fun h => by
      obtain ⟨x, hk, hx⟩ := dec_el (G := G) h
      exact ⟨_, d, hk, im, hd, Le.refl _ _, e.enc x, fun _ _ => rfl, fun G' hG => hx im G' hG.w hd.im hG.im⟩
    cases e with
    | rd e =>
      cases t with
      | v y =>
        cases y with
        | own r =>
          obtain ⟨xs, d', im', hk, hd', hle, hv⟩ := freezeK_out hd (show freezeK e r d fun xs d => k (fun _ r => (xs, r)) d from h)
          exact ⟨_, d', hk, im', hd', hle, .v (.rd e xs), fun _ _ => rfl, fun G' hG => one_out (hv G' hG)⟩
        | sl r p off len sz =>
          obtain ⟨d', im', h1, hd', hle⟩ := frzK_out hd (show frzK r d fun d => rdK e d.hp (.sl r p off len sz) fun xs => lentK d.hp (.sl r p off len sz) fun l => match l with
            | [] => k (fun _ r => (xs, r)) d
            | _ => False from h)
          obtain ⟨xs, l, hk, hin, hv⟩ := lend_out (k := fun xs l => match l with
            | [] => k (fun _ r => (xs, r)) d'
            | _ => False) hd' h1
          cases l with
          | nil => exact ⟨_, d', hk, im', hd', hle, .v (.rd e xs), fun _ _ => rfl, fun G' hG => one_out (hv G' hG)⟩
          | cons _ _ => exact hk.elim
        | _ => exact plain h
      | _ => exact plain h
    | _ => exact plain (by simpa only [Sh.dec] using h)
  | lend e =>
    intro t d k im taken hd h
    cases t with
    | v x =>
      obtain ⟨xs, l, hk, hin, hv⟩ := lend_out hd (show rdK e d.hp x fun xs => lentK d.hp x fun l => k (fun _ r => (xs, r)) ⟨d.n, d.hp, d.map, l ++ d.lent⟩ from h)
      exact ⟨_, _, hk, im, ⟨hd.mdl, hd.im, hd.lt, fun r hr => (List.mem_append.1 hr).elim (fun h => (hin r h).imp fun c h => ⟨h.1, .inl h.2⟩) (hd.lentIn r)⟩, ⟨rfl, fun _ h => h, fun _ _ h => h, fun r hr => by simp [hr]⟩, .v (.rd e xs), fun _ _ => rfl, fun G' hG => one_out (hv G' hG)⟩
    | _ => exact h.elim
  | rp e =>
    intro t d k im taken hd h
    cases t with
    | v x =>
      cases x with
      | rp e' xs i p =>
        obtain ⟨t2, h2, hx2⟩ := tgetK_out (show tgetK p (e'.enc (xs.getD i e'.dflt)) fun t => decK e t [] fun x => k (fun _ r => (x, r)) d from h)
        obtain ⟨x, hk, hx⟩ := decK_out h2
        refine ⟨_, d, hk, im, hd, Le.refl _ _, .v (.rp e [x] 0 []), fun _ _ => rfl, fun G' hG => one_out fun v hv => ?_⟩
        obtain ⟨h0, b, oo, css, rfl, k2, k3, k4, k5⟩ := hv
        obtain ⟨m1, m2⟩ := enc_getD k5 h0
        obtain ⟨m3, m4⟩ := hx2 G _ m1
        have hcs := cells_move hG.w (fun b hb => hG.im b (hd.im b hb)) (hx G _ m3)
        exact rp_value hcs (by rw [hG.w]; exact (k4.drop (i * e'.sz) e'.sz).drop (poff p) t2.size) (hG.im b (hd.im b k2)) (by rw [hG.w]; exact k3)
      | ptr r p =>
        simp only [Sh.dec] at h
        obtain ⟨c, hc, h0⟩ := lookK_out h
        have go : ∀ d' : D, d'.n = d.n → d'.hp = d.hp → d'.map = d.map → (∀ r', r' ∈ d'.lent → r' ∈ d.lent ∨ (r' = r ∧ c.rw = true)) → (∀ r', r' ∈ d.lent → r' ∈ d'.lent) → (c.rw = true → r ∈ d'.lent) → (c.rw = false → p ≠ []) →
            (tgetK p c.tree fun t => decK e t [] fun x => k (fun _ r => (x, r)) d') → ∃ f d', k f d' ∧ Out w0 F0 G nx (.rp e) (.v (.ptr r p)) d taken im f d' := by
          intro d' en ehp emap hl1 hl2 hl3 hpc h1
          obtain ⟨t2, h2, hx2⟩ := tgetK_out h1
          obtain ⟨x, hk, hx⟩ := decK_out h2
          refine ⟨_, d', hk, im, ⟨by rw [ehp]; exact hd.mdl, hd.im, fun q r hq => by rw [en]; rw [emap] at hq; exact hd.lt q r hq, fun r' hr' => ?_⟩, ⟨en, fun _ h => h, fun _ _ h => by rw [emap]; exact h, hl2⟩, .v (.rp e [x] 0 []), fun _ _ => rfl, fun G' hG => one_out fun v hv => ?_⟩
          · rw [ehp]
            rcases hl1 r' hr' with h | ⟨rfl, hrw⟩
            · exact hd.lentIn r' h
            · exact ⟨c, hc, .inl hrw⟩
          obtain ⟨b, k1, k2, rfl⟩ := hv
          obtain ⟨b', hr, hck⟩ := hd.mdl.chunk r c (by simp [hc])
          have hr : G.rho r = some b' := hr
          obtain rfl : b = b' := Option.some.inj (k1.symm.trans hr)
          obtain ⟨cs, q1, q2⟩ := tree_cells hck
          obtain ⟨m3, m4⟩ := hx2 _ _ q1
          have hcells := hx _ _ m3
          have hcs := cells_move (G := G) hG.w hG.im hcells
          have hboth : G'.im b.blk ∧ b.blk < G.w.heap.size := by
            cases c with
            | own t => exact ⟨hG.lent r b (hl3 rfl) hr k2, (hd.mdl.mine r (.own t) b (by simp [hc]) rfl hr k2).2.1⟩
            | row ty e' xs => exact ⟨hG.lent r b (hl3 rfl) hr k2, (hd.mdl.mine r (.row ty e' xs) b (by simp [hc]) rfl hr k2).2.1⟩
            | fz ty e' xs =>
              obtain ⟨z1, z2, z3, z4⟩ := hck
              by_cases h0 : 0 < b.len
              · exact ⟨hG.im _ (z4 h0).2.1, (z4 h0).2.2.1⟩
              · exfalso
                have hxs : xs = [] := List.eq_nil_of_length_eq_zero (by omega)
                subst hxs
                cases p with
                | nil => exact hpc rfl rfl
                | cons st p =>
                  cases st with
                  | f i o => simp only [tgetK, Chunk.tree] at h1; cases i <;> simp [fieldK] at h1
                  | x i sz' =>
                    simp only [tgetK, Chunk.tree] at h1
                    split at h1
                    · exact absurd h1.1 (by simp)
                    · exact h1
          obtain ⟨hlent, hlt⟩ := hboth
          by_cases hne : cs = []
          · subst hne
            simp only [List.drop_nil, List.take_nil] at hcs
            exact rp_value hcs (fun j v hv => by simp at hv) hlent (by rw [hG.w]; exact hlt)
          · have h5 := (q2 hne).2.drop (poff p) t2.size
            rw [Nat.zero_add] at h5
            exact rp_value hcs (by rw [hG.w]; exact h5) hlent (by rw [hG.w]; exact hlt)
        cases hrw : c.rw with
        | true =>
          rw [hrw] at h0
          exact go ⟨d.n, d.hp, d.map, r :: d.lent⟩ rfl rfl rfl (fun r' hr' => (List.mem_cons.1 hr').elim (fun e => .inr ⟨e, hrw⟩) .inl) (fun r' hr' => by simp [hr']) (fun _ => by simp) (fun h => by rw [hrw] at h; cases h) h0
        | false =>
          rw [hrw] at h0
          cases p with
          | nil => exact h0.elim
          | cons st p => exact go d rfl rfl rfl (fun _ h => .inl h) (fun _ h => h) (fun h => by rw [hrw] at h; cases h) (fun _ => by simp) h0
      | _ => exact h.elim
    | _ => exact h.elim
  | own q =>
    intro t d k im taken hd h
    cases t with
    | v x =>
      cases x with
      | own r =>
        obtain ⟨d', hk, hd', hle, hmap⟩ := bindD_out hd (show bindD d q (some r) fun d => k (fun _ r => r) d from h)
        refine ⟨_, d', hk, im, hd', hle, .v (.own q), fun _ _ => rfl, fun G' hG => one_out fun v hv => ?_⟩
        obtain ⟨b, k1, k2⟩ := hv
        exact ⟨b, (hG.rho q _ hmap).trans k1, k2⟩
      | nils =>
        obtain ⟨d', hk, hd', hle, hmap⟩ := bindD_out hd (show bindD d q none fun d => k (fun _ r => r) d from h)
        refine ⟨_, d', hk, im, hd', hle, .v (.own q), fun _ _ => rfl, fun G' hG => one_out fun v hv => ?_⟩
        exact ⟨nilB, hG.rho q _ hmap, hv⟩
      | _ => exact h.elim
    | _ => exact h.elim
  | ref q =>
    intro t d k im taken hd h
    cases t with
    | v x =>
      cases x with
      | ptr r p =>
        cases p with
        | nil =>
          obtain ⟨d', hk, hd', hle, hmap⟩ := bindD_out hd (show bindD d q (some r) fun d => k (fun _ r => r) d from h)
          refine ⟨_, d', hk, im, hd', hle, .v (.ptr q []), fun _ _ => rfl, fun G' hG => one_out fun v hv => ?_⟩
          obtain ⟨b, k1, k2, k3⟩ := hv
          exact ⟨b, (hG.rho q _ hmap).trans k1, k2, k3⟩
        | cons _ _ => exact h.elim
      | _ => exact h.elim
    | _ => exact h.elim
  | any =>
    intro t d k im taken hd h
    cases t with
    | v x => exact ⟨_, d, h, im, hd, Le.refl _ _, .v .any, fun _ _ => rfl, fun G' hG => one_out fun _ _ => trivial⟩
    | _ => exact h.elim
  | nil =>
    intro t d k im taken hd h
    cases t with
    | nil => exact ⟨_, d, h, im, hd, Le.refl _ _, .nil, fun _ _ => rfl, fun G' hG => ⟨fun _ h => h, fun _ h => h⟩⟩
    | _ => exact h.elim
  | cons s ss ih1 ih2 =>
    intro t d k im taken hd h
    cases t with
    | cons t ts =>
      obtain ⟨f, d1, h1, im1, hd1, hle1, t1, e1, hv1⟩ := ih1 t d _ im taken hd (show s.dec t d fun f d => ss.dec ts d fun g d => k (fun R r => f _ (g R r)) d by simpa only [Sh.dec, forceD_eq] using h)
      obtain ⟨g, d2, h2, im2, hd2, hle2, t2, e2, hv2⟩ := ih2 ts d1 _ im1 taken hd1 h1
      refine ⟨_, d2, h2, im2, hd2, hle1.trans hle2, .cons t1 t2, fun R r => ?_, fun G' hG => ?_⟩
      · simp only [Sh.enc, e1, e2]
      · have hc : ∀ cs, tCells G (.cons t ts) cs → tCells G' (.cons t1 t2) cs := fun cs ⟨c1, c2, e, k1, k2⟩ => ⟨c1, c2, e, (hv1 G' (hG.le hle2)).1 _ k1, (hv2 G' hG).1 _ k2⟩
        exact ⟨hc, fun v ⟨cs, e, hcs⟩ => ⟨cs, e, hc cs hcs⟩⟩
    | _ => exact h.elim

end
end Go.J
