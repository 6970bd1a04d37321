/-
  THE ENGINE, part 7: what slices hold; appending; the other operations.
-/
import Derived.Test.YtpanhnkcgmcghaaE6
import Derived.Maps.AppendAt
import Derived.Lib.AppendStr
set_option linter.unusedSimpArgs false
set_option linter.unusedVariables false
set_option linter.unusedSectionVars false

namespace Go.J
open Go.RowKit

section
variable {P : Program} {E : Env} {w0 : World} {F0 : Base} {G : Cx} {hp : Hp} {nx : Nat} {o : Oper} {a : Act} {fr : List T} {k : T → Hp → Nat → Prop}

/-- A slice that holds these elements. -/
def Holds (G : Cx) (e : El) (xs : List e.ty) (v : Value) : Prop :=
  ∃ A c, v = .slice A xs.length c ∧ xs.length ≤ c ∧ c ≤ maxLen ∧ (0 < xs.length → ∃ b oo css, A = some ⟨b, oo, none⟩ ∧ cellsAt G.w b oo css ∧ listOf (cellsOf G.im G.w e) xs css)

theorem own_row {ty : TypeId} {e : El} {xs : List e.ty} {b : B} (h : chunkOk G (.row ty e xs) b) : Holds G e xs b.val := by
  obtain ⟨h1, h0, css, h2, h3⟩ := id h
  have hc : xs.length ≤ b.cap := by
    rcases h2.2 with ⟨_, h4⟩ | ⟨g, cap, cur, e1, _, _, e3, e4, _⟩
    · omega
    · simp [B.val] at e1
      omega
  refine ⟨_, b.cap, by rw [← h1]; rfl, hc, h0, fun hp => ?_⟩
  obtain ⟨cs, hcs, hat⟩ := tree_cells h
  have hne : cs ≠ [] ∨ e.sz = 0 := by
    have := tCells.length hcs
    by_cases h0 : e.sz = 0
    · exact .inr h0
    · refine .inl fun he => ?_
      rw [he] at this
      simp only [Chunk.tree, T.size, List.length_nil] at this
      have := Nat.mul_pos hp (Nat.pos_of_ne_zero h0)
      omega
  rcases h2.2 with ⟨_, h4⟩ | ⟨g, cap, cur, e1, _, e2, e3, e4, e5, e6⟩
  · omega
  · have hn : b.nil = false := by
      cases hb : b.nil with
      | false => rfl
      | true => simp [B.val, hb] at e1
    have hg : b.blk = g := by simp [B.val, hn] at e1; exact e1.1
    refine ⟨b.blk, 0, css, by simp [hn], fun j v hv => ?_, h3⟩
    rw [Nat.zero_add, hg, cell_of_row G.w g j _ ty (0, 0) e2]
    rw [← e6, List.getElem?_take] at hv
    split at hv
    · simpa using hv
    · cases hv

theorem rdK_out {e : El} {x : V} {v : Value} {kk : List e.ty → Prop} (hm : Mdl w0 F0 G hp nx) (hv : vOk G x v) (h : rdK e hp x kk) : ∃ xs, kk xs ∧ Holds G e xs v := by
  unfold rdK at h
  split at h
  · obtain rfl := castK_eq h
    have hk := castK_self h
    obtain ⟨A, c, e1, e2, e3, e4⟩ := hv
    simp at e1
    exact ⟨_, hk, A, c, e1, e2, e3, fun hp => by
      obtain ⟨b, oo, css, k1, _, _, k4, k5⟩ := e4 hp
      exact ⟨b, oo, css, k1, k4, k5⟩⟩
  · exact ⟨[], h, none, 0, hv, by simp, by simp, fun hh => by simp at hh⟩
  · next r =>
    obtain ⟨c, hc, h2⟩ := lookK_out h
    obtain ⟨b, hr, hck⟩ := hm.chunk r c hc
    obtain ⟨b', k1, k2⟩ := hv
    obtain rfl : b = b' := Option.some.inj (hr.symm.trans k1)
    split at h2
    · obtain rfl := castK_eq h2
      have hk := castK_self h2
      refine ⟨_, hk, ?_⟩
      have := own_row hck
      rw [B.val, ← k2] at this
      exact this
    · obtain rfl := castK_eq h2
      have hk := castK_self h2
      obtain ⟨q1, q2, q3, q4⟩ := hck
      exact ⟨_, hk, _, b.cap, by rw [k2, q1], by omega, q3, fun hp => by
        obtain ⟨m1, m2, m3, css, m4, m5⟩ := q4 (by omega)
        exact ⟨b.blk, 0, css, by simp [m1], m4, m5⟩⟩
    · exact h2.elim
  · next r p off len sz =>
    obtain ⟨c, hc, h2⟩ := lookK_out h
    obtain ⟨t', h3, ht'⟩ := tgetK_out h2
    obtain ⟨b, hr, hck⟩ := hm.chunk r c hc
    obtain ⟨b', c', A, k1, k3, k4, k5, k6⟩ := hv
    obtain rfl : b = b' := Option.some.inj (hr.symm.trans k1)
    split at h3
    · next e' xs' n' =>
      split at h3
      · next hb =>
        obtain rfl := nat_beq_eq hb
        obtain ⟨hle, h4⟩ := h3
        obtain rfl := castK_eq h4
        have hk := castK_self h4
        refine ⟨_, hk, ?_⟩
        have hlen : ((xs'.drop off).take len).length = len := by simp; omega
        refine ⟨A, c', by rw [hlen]; exact k5, by omega, k4, fun hp => ?_⟩
        rw [hlen] at hp
        obtain ⟨cs, hcs, hat⟩ := tree_cells hck
        obtain ⟨m1, m2⟩ := ht' G cs hcs
        have m3 := listOf_take (fun x cs => cellsOf.length e' x cs) len (listOf_drop (fun x cs => cellsOf.length e' x cs) off m1.2)
        refine ⟨b.blk, poff p + off * e'.sz, _, (k6 hp).2, ?_, m3⟩
        by_cases hne : cs = []
        · subst hne
          intro j v hv
          simp at hv
        · have h5 := ((hat hne).2.drop (poff p) (T.arr e' xs' n').size)
          rw [Nat.zero_add] at h5
          exact h5.drop (off * e'.sz) (len * e'.sz)
      · exact h3.elim
    · exact h3.elim
  · exact h.elim

/-- The cells of what a slice holds. -/
theorem Holds.first {e : El} {xs : List e.ty} {v : Value} (h : Holds G e xs v) (hpos : 0 < xs.length) : ∃ b oo c css, v = .slice (some ⟨b, oo, none⟩) xs.length c ∧ css.length = xs.length * e.sz ∧ (∀ (j : Nat) (u : Value), css[j]? = some u → G.w.cell? ((⟨b, oo, none⟩ : Addr).add j) = some u) ∧ (∀ u ∈ css, u.oneCell' = true) ∧ listOf (cellsOf G.im G.w e) xs css := by
  obtain ⟨A, c, e1, _, _, e3⟩ := h
  obtain ⟨b, oo, css, rfl, k1, k2⟩ := e3 hpos
  refine ⟨b, oo, c, css, e1, listOf.length (fun x cs => cellsOf.length e x cs) _ _ k2, fun j u hu => ?_, listOf.one (fun x cs => cellsOf.one e x cs) _ _ k2, k2⟩
  rw [Addr.add_mid]
  exact k1 j u hu

/-- Appending to a row of the call's own. -/
theorem run_append_t {tx ty et : TypeId} {z : TyI} {e : El} {xs ys : List e.ty} {v u : Value} {css : List Value} (hu0 : P.underlying tx = some (.slice et)) (hz : TyOk P et z) (he : z.el = some e)
    (hown : G.w.ownsRow 0 et e.sz v xs.length css) (hx : listOf (cellsOf G.im G.w e) xs css) (hy : Holds G e ys u) (h1 : (xs.length + ys.length) * z.bytes ≤ 140737488355328) (h2 : xs.length + ys.length ≤ maxLen) :
    ∃ v' w' css', (Builtin.append_ #[tx, tx] ty #[v, u]).run P G.w = .ok v' w' ∧ w'.ownsRow 0 et e.sz v' (xs.length + ys.length) css' ∧ listOf (cellsOf G.im G.w e) (xs ++ ys) css' ∧ G.w.grownBy w' v.ownBlock ∧ (v'.ownBlock = v.ownBlock ∨ ∀ g, v'.ownBlock = some g → G.w.heap.size ≤ g) := by
  obtain ⟨i, hi, hi1, hi2, zz, hz1, hz2⟩ := hz.info
  obtain ⟨hsz, hpos, i', z', hi', hz', hzc⟩ := hz.el e he
  obtain rfl : i = i' := Option.some.inj (hi.symm.trans hi')
  obtain rfl : zz = z' := Option.some.inj (hz1.symm.trans hz')
  have hzs : zz.cells.size = e.sz := by
    have := cellsOf.length e e.dflt zz.cells.toList (hzc G.im G.w)
    simpa using this
  by_cases hpy : 0 < ys.length
  · obtain ⟨b, oo, c, cs2, rfl, l2, hat, h1c, hl⟩ := hy.first hpy
    obtain ⟨v', w', hr, ho, hg, _, hat2⟩ := run_append_own_at (P := P) G.w 0 tx ty et i zz e.sz z.bytes hu0 hi hz1 (by rw [hi1, hsz]) hi2 hzs (by rw [hsz]; exact hpos) v xs.length css hown
      ⟨b, oo, none⟩ ys.length c cs2 l2 hat h1c h2 h1 (Nat.zero_le _)
    exact ⟨v', w', _, hr, ho, listOf_append hx hl, hg, hat2.imp id fun h g hg => by rw [h] at hg; cases hg; exact Nat.le_refl _⟩
  · obtain rfl : ys = [] := List.eq_nil_of_length_eq_zero (by omega)
    obtain ⟨A, c, rfl, _⟩ := hy
    refine ⟨v, G.w, css, ?_, by simpa using hown, by simpa using hx, World.grownBy.refl _ _, .inl rfl⟩
    rcases hown.2 with ⟨rfl, h0⟩ | ⟨g, cap, cur, rfl, _, _, hnc, _⟩
    · cases A <;> simp [Builtin.append_, run_underlying hu0, sizeOf, typeInfo, hi, Builtin.lenOf, Builtin.firstCells, loadCells, loadCellsFrom]
    · cases A <;> simp [Builtin.append_, run_underlying hu0, sizeOf, typeInfo, hi, Builtin.lenOf, Builtin.firstCells, hnc, storeCells, loadCells, loadCellsFrom]


theorem owns_b {et : TypeId} {e : El} {v : Value} {n : Nat} {css : List Value} {w : World} (h : w.ownsRow 0 et e.sz v n css) : ∃ b : B, b.val = v ∧ b.len = n ∧ b.cap ≤ maxLen ∧ (b.nil = false → v.ownBlock = some b.blk ∧ b.blk < w.heap.size) := by
  rcases h.2 with ⟨rfl, h0⟩ | ⟨g, cap, cur, rfl, _, h1, h2, h3, _⟩
  · exact ⟨⟨0, true, 0, 0⟩, rfl, h0.symm, by simp, fun hh => by simp at hh⟩
  · refine ⟨⟨g, false, n, cap⟩, rfl, rfl, h3, fun _ => ⟨rfl, ?_⟩⟩
    rcases Nat.lt_or_ge g w.heap.size with hlt | hge
    · exact hlt
    · rw [Array.getElem?_eq_none hge] at h1; cases h1

theorem B.val_block {b : B} : b.val.ownBlock = if b.nil then none else some b.blk := by
  unfold B.val
  cases b.nil <;> rfl

theorem append_string_at (w : World) {t u ty e : TypeId} {i : TypeInfo} (ht : P.underlying t = some (.slice e)) (hu : P.underlying u = some .string) (hi : P.info? e = some i) (hz : i.zero = some (.int .u8 0))
    (hsize : i.size = 1) (hby : i.bytes = 1) {v : Value} {n : Nat} {xs : List Value} (hown : w.ownsRow 0 e 1 v n xs) (s : ByteArray) (h63 : n + s.size ≤ maxLen) (hbytes : n + s.size ≤ 140737488355328) :
    ∃ v' w', (Builtin.append_ #[t, u] ty #[v, .string s]).run P w = .ok v' w' ∧ w'.ownsRow 0 e 1 v' (n + s.size) (xs ++ Lib.strCells s) ∧ w.grownBy w' v.ownBlock ∧ (v'.ownBlock = v.ownBlock ∨ ∀ g, v'.ownBlock = some g → w.heap.size ≤ g) := by
  have hsm : n + s.size ≤ 9223372036854775807 := by simp only [maxLen] at h63; omega
  rcases hown.2 with ⟨hv, h0⟩ | ⟨g, cap, cur, hv, hbg, hg, hnc, hcm, hcs, htake⟩
  · have hown' : w.ownsRow w.heap.size e 1 v n xs := ⟨hown.1, .inl ⟨hv, h0⟩⟩
    obtain ⟨v', w', hr, ho, hgr, _⟩ := Lib.run_append_own_string (P := P) w w.heap.size t u ty e i ht hu hi hz hsize hby v n xs hown' s h63 hbytes (Nat.le_refl _)
    refine ⟨v', w', hr, ⟨ho.1, ho.2.imp id fun ⟨g, cap, cur, e1, e2, e3⟩ => ⟨g, cap, cur, e1, Nat.zero_le _, e3⟩⟩, hgr, .inr fun g hg => ?_⟩
    exact (ho.lt g hg).1
  · obtain ⟨v', w', hr, ho, hgr, _⟩ := Lib.run_append_own_string (P := P) w 0 t u ty e i ht hu hi hz hsize hby v n xs hown s h63 hbytes (Nat.zero_le _)
    refine ⟨v', w', hr, ho, hgr, ?_⟩
    subst hv
    by_cases hroom : n + s.size ≤ cap
    · have h1 := Lib.run_append_room_string (P := P) w t u ty e i ht hu hi hsize g n cap cur hg s hroom (by omega)
      rw [h1] at hr
      injection hr with hr _
      exact .inl (by rw [← hr]; rfl)
    · have holds : ∀ j u, xs[j]? = some u → w.cell? ((⟨g, 0, none⟩ : Addr).add j) = some u := hown.cells (g := g) rfl
      have h1 := Lib.run_append_grow_string (P := P) w t u ty e i _ ht hu hi hz ⟨g, 0, none⟩ n cap xs (by rw [hsize]; exact hown.1) holds s (by omega) (by omega) (growslice_fits (by omega) (by rw [hby]; omega))
      rw [h1] at hr
      injection hr with hr _
      exact .inr fun g' hg' => by rw [← hr] at hg'; simp [Value.ownBlock] at hg'; omega

/-- What is appended: a slice's elements, or a string's bytes. -/
theorem run_append_src {tx ty' ty et : TypeId} {z t2 : TyI} {e : El} {u : Value} {y : V} {kk : List e.ty → Prop} (hm : Mdl w0 F0 G hp nx) (hu0 : P.underlying tx = some (.slice et)) (hz : TyOk P et z) (he : z.el = some e) (h2 : TyOk P ty' t2)
    (hu : vOk G y u) (hk : denOp.srcTyK z tx ty' t2 y fun _ => denOp.srcK e hp y kk) :
    ∃ ys, kk ys ∧ ∀ {xs : List e.ty} {v : Value} {css : List Value}, G.w.ownsRow 0 et e.sz v xs.length css → listOf (cellsOf G.im G.w e) xs css → (xs.length + ys.length) * z.bytes ≤ 140737488355328 → xs.length + ys.length ≤ maxLen →
      ∃ v' w' css', (Builtin.append_ #[tx, ty'] ty #[v, u]).run P G.w = .ok v' w' ∧ w'.ownsRow 0 et e.sz v' (xs.length + ys.length) css' ∧ listOf (cellsOf G.im G.w e) (xs ++ ys) css' ∧ G.w.grownBy w' v.ownBlock ∧ (v'.ownBlock = v.ownBlock ∨ ∀ g, v'.ownBlock = some g → G.w.heap.size ≤ g) := by
  unfold denOp.srcTyK at hk
  split at hk
  · next s =>
    split at hk
    · next ik hzz hk2 hb hs =>
      split at hk
      · next hik =>
        obtain rfl := eq_of_beq hik
        have hb := nat_beq_eq hb
        have hs := nat_beq_eq hs
        unfold denOp.srcK at hk
        obtain rfl := castK_eq hk
        have hk := castK_self hk
        refine ⟨s, hk, @fun xs v css hown hx b1 b2 => ?_⟩
        obtain ⟨i, hi, hi1, hi2, zz, hz1, hz2⟩ := hz.info
        have hz3 : zz = .int .u8 0 := by
          have := (hz2 G).1
          rw [hzz] at this
          exact this
        have hund := h2.und
        rw [hk2] at hund
        have hu : u = .string ⟨⟨s⟩⟩ := hu
        subst hu
        obtain ⟨v', w', hr, ho, hg, hwh⟩ := append_string_at (P := P) G.w (ty := ty) hu0 hund hi (by rw [hz1, hz3]) (by rw [hi1, hs]) (by rw [hi2, hb]) hown ⟨⟨s⟩⟩ b2 (by rw [hb, Nat.mul_one] at b1; exact b1)
        refine ⟨v', w', _, hr, ho, listOf_append hx ?_, hg, hwh⟩
        have : ∀ l : List UInt8, listOf (cellsOf G.im G.w .u8) l (l.map fun b => Value.int .u8 b.toNat) := by
          intro l
          induction l with
          | nil => rfl
          | cons x l ih => exact ⟨[_], _, rfl, rfl, ih⟩
        exact this s
      · exact hk.elim
    · exact hk.elim
  · next hns =>
    split at hk
    · next hb =>
      obtain rfl := nat_beq_eq hb
      have hk2 : rdK e hp y kk := by
        unfold denOp.srcK at hk
        split at hk
        · exact (hns _ rfl).elim
        · exact hk
      obtain ⟨ys, hk3, hh⟩ := rdK_out hm hu hk2
      exact ⟨ys, hk3, fun hown hx b1 b2 => run_append_t hu0 hz he hown hx hh b1 b2⟩
    · exact hk.elim

theorem ok_append (hE : EnvOk P E) {c : Call} (ho : o.op = .call c) (hc : c.callee = .builtin .append) (hm : Mdl w0 F0 G hp nx) (hf : frOk G fr a.tmps) (h0 : denOp E (.call c) fr hp nx k) : Goes P w0 F0 G o a k := by
  obtain ⟨callee, args, argTypes⟩ := c
  simp only at hc
  subst hc
  obtain ⟨ts, h1, hts⟩ := evalsK_out hf (show evalsK fr args.toList _ from h0)
  split at h1
  · next x y =>
    obtain ⟨va, vb, hargs, hx, hy⟩ : ∃ va vb, args.toList.map a.eval = [va, vb] ∧ vOk G x va ∧ vOk G y vb := by
      obtain ⟨hl, ht⟩ := hts
      obtain ⟨va, h2, h3⟩ := ht 0 _ rfl
      obtain ⟨vb, h4, h5⟩ := ht 1 _ rfl
      refine ⟨va, vb, ?_, h3, h5⟩
      generalize args.toList.map a.eval = L at *
      match L, hl, h2, h4 with
      | [p, q], _, h2, h4 => simp at h2 h4; rw [h2, h4]
    have hargs' : args.map a.eval = #[va, vb] := by
      apply Array.ext'
      simpa using hargs
    split at h1
    · next tx ty' hat =>
      obtain ⟨ti, hti, h2⟩ := tyK_out h1
      have hat' : argTypes = #[tx, ty'] := Array.ext' (by simpa using hat)
      split at h2
      · next et hk =>
        have hu0 := (hE.ty tx ti hti).und
        rw [hk] at hu0
        obtain ⟨z, hz, h3⟩ := tyK_out h2
        have hzo := hE.ty et z hz
        split at h3
        · next e he =>
          obtain ⟨t2, ht2, h4⟩ := tyK_out h3
          have ht2o := hE.ty ty' t2 ht2
          have hexec : ∀ v' w', (Builtin.append_ #[tx, ty'] o.type #[va, vb]).run P G.w = .ok v' w' → (execOp a.eval o).run P G.w = .ok (.value v') w' := fun v' w' hr => by
            simp [execOp, ho, resolve, invoke, builtin, hargs', hat', hr]
          have fin : ∀ {l1 l2 : Hp} {xs : List e.ty} {ys : List e.ty} (tch : Nat → Prop), Mdl w0 F0 G (l1 ++ l2) nx → (∀ k, tch k → (w0.heap.size ≤ k ∨ F0 k) ∧ k < G.w.heap.size ∧ ¬ G.im k) →
              (∀ s c b, (s, c) ∈ l1 ++ l2 → c.rw = true → G.rho s = some b → b.nil = false → ¬ tch b.blk) → (∀ k, va.ownBlock = some k → tch k) →
              (∃ v' w' css', (Builtin.append_ #[tx, ty'] o.type #[va, vb]).run P G.w = .ok v' w' ∧ w'.ownsRow 0 et e.sz v' (xs.length + ys.length) css' ∧ listOf (cellsOf G.im G.w e) (xs ++ ys) css' ∧ G.w.grownBy w' va.ownBlock ∧ (v'.ownBlock = va.ownBlock ∨ ∀ g, v'.ownBlock = some g → G.w.heap.size ≤ g)) →
              k (.v (.own nx)) (l1 ++ l2 ++ [(nx, .row et e (xs ++ ys))]) (nx + 1) → Goes P w0 F0 G o a k := by
            intro l1 l2 xs ys tch hmm t1 t2 t3 ⟨v', w', css', hr, ho', hl, hg, hwh⟩ hk
            obtain ⟨b, e1, e2, e3, e4⟩ := owns_b ho'
            obtain ⟨G', hx', hw, hr', hm'⟩ := hmm.new2 tch t1 t2 hg.os hg.tape hg.output hg.size (fun k hk hnt => hg.block k hk (fun hh => hnt (t3 k hh.symm))) (.row et e (xs ++ ys)) b
              (fun hn => by
                rcases hwh with h | h
                · exact .inr (t3 _ (h ▸ (e4 hn).1))
                · exact .inl ⟨h _ (e4 hn).1, (e4 hn).2⟩)
              (fun G' hx' hw => ⟨by rw [e2]; simp, e3, css', by rw [hw, e1, List.length_append]; exact ho', hx'.listOf hl⟩) rfl
            exact goes_world (v := v') (x := .v (.own nx)) (by rw [hw]; exact hexec _ _ hr) hx' hm' ⟨b, hr', e1.symm⟩ hk
          obtain ⟨ys, h5, hrun⟩ := run_append_src (ty := o.type) hm hu0 hzo he ht2o hy h4
          cases x with
          | nils =>
            obtain ⟨⟨b1, b2⟩, h6⟩ := h5
            have h7 := lappK_out h6
            have hva : va = .slice none 0 0 := hx
            subst hva
            exact fin (l1 := hp) (l2 := []) (xs := []) (ys := ys) (fun _ => False) (by simpa using hm) (fun _ h => h.elim) (fun _ _ _ _ _ _ _ h => h) (fun k hk => by simp [Value.ownBlock] at hk)
              (hrun (xs := []) (World.ownsRow_nil _ _ _ _) rfl (by simpa using b1) (by simpa using b2)) (by simpa using h7)
          | own r =>
            obtain ⟨b0, hr0, hv0⟩ := hx
            obtain ⟨c, hcm, h6⟩ := lookK_out h5
            split at h6
            · next et' e' xs =>
              split at h6
              · next hb =>
                obtain rfl := nat_beq_eq hb
                obtain rfl := castK_eq h6
                obtain ⟨⟨b1, b2⟩, h7⟩ := castK_self h6
                obtain ⟨l1, c0, l2, rfl, h8⟩ := delK_out h7
                have h9 := lappK_out h8
                obtain rfl : c0 = .row et' e' xs := same_chunk hm mem_mid hcm
                obtain ⟨b, hrb, hck⟩ := hm.chunk r _ hcm
                obtain rfl : b = b0 := Option.some.inj (hrb.symm.trans hr0)
                obtain ⟨q1, q2, css, hown, hl⟩ := hck
                obtain ⟨t1, t2⟩ := hm.gone hr0 rfl
                have hv1 : va = b.val := hv0
                refine fin (xs := xs) (ys := ys) (fun k => b.nil = false ∧ k = b.blk) hm.drop t1 t2 (fun k hk => ?_) (by rw [hv1]; exact hrun hown hl b1 b2) h9
                rw [hv1, B.val_block] at hk
                split at hk
                · cases hk
                · next hn => exact ⟨by simpa using hn, (Option.some.inj hk).symm⟩
              · exact h6.elim
            · exact h6.elim
          | _ => exact h5.elim
        · exact h3.elim
      · exact h2.elim
    · exact h1.elim
  · exact h1.elim

end
end Go.J
