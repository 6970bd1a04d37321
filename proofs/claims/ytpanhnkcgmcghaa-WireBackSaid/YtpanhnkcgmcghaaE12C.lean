/-
  THE ENGINE, part 12, the copying: the elements of a slice into a row, or into an array, of ours.
-/
import Derived.Test.YtpanhnkcgmcghaaE12
import Derived.Laws.IdiomCopy
set_option linter.unusedSimpArgs false
set_option linter.unusedVariables false
set_option linter.unusedSectionVars false

namespace Go.J
open Go.RowKit

section
variable {P : Program} {E : Env} {w0 : World} {F0 : Base} {G : Cx} {hp : Hp} {nx : Nat} {o : Oper} {a : Act} {fr : List T} {k : T → Hp → Nat → Prop}

/-- The first cells of what a slice holds. -/
theorem holds_take {e : El} {ys : List e.ty} {v : Value} (h : Holds G e ys v) (h1 : e.sz = 1) (n : Nat) : ∃ A c css, v = .slice A ys.length c ∧ css.length = min ys.length n ∧ listOf (cellsOf G.im G.w e) (ys.take n) css ∧
    (0 < css.length → ∃ ad, A = some ad ∧ ∀ j u, css[j]? = some u → G.w.cell? (ad.add j) = some u) := by
  obtain ⟨A, c, rfl, h2, h3, h4⟩ := h
  by_cases h0 : 0 < ys.length
  · obtain ⟨b, oo, css, rfl, k1, k2⟩ := h4 h0
    have hl := listOf.length (fun x cs => cellsOf.length e x cs) _ _ k2
    rw [h1, Nat.mul_one] at hl
    have ht := listOf_take (fun x cs => cellsOf.length e x cs) n k2
    rw [h1, Nat.mul_one] at ht
    refine ⟨_, c, css.take n, rfl, by rw [List.length_take, hl, Nat.min_comm], ht, fun _ => ⟨_, rfl, fun j u hu => ?_⟩⟩
    rw [List.getElem?_take] at hu
    split at hu
    · have := k1 j u hu
      simpa [Addr.add_mid] using this
    · cases hu
  · have : ys = [] := List.eq_nil_of_length_eq_zero (by omega)
    subst this
    exact ⟨A, c, [], rfl, by simp, by simp [listOf], fun h => by simp at h⟩

/-- What the copying does to the destination's block. -/
theorem run_copy_t {tx ty' et : TypeId} {z : TyI} {e : El} {ys : List e.ty} {v : Value} {g oo n cc : Nat} {A : Option Addr} {cur : List Value} {rty : TypeId} (hu : P.underlying tx = some (.slice et)) (hz : TyOk P et z) (hz1 : z.size = 1) (he : e.sz = 1) (hv : Holds G e ys v)
    (hA : 0 < n → A = some ⟨g, oo, none⟩ ∧ G.w.heap[g]? = some (.cells ⟨cur⟩ rty (0, 0)) ∧ oo + n ≤ cur.length) (ty : TypeId) :
    ∃ css, css.length = min ys.length n ∧ listOf (cellsOf G.im G.w e) (ys.take n) css ∧ (Builtin.copy_ #[tx, ty'] ty #[.slice A n cc, v]).run P G.w = .ok (.int .i64 (min ys.length n : Nat)) (G.w.setCells g oo css) := by
  obtain ⟨A', c', css, rfl, h1, h2, h3⟩ := holds_take hv he n
  refine ⟨css, h1, h2, ?_⟩
  have hs : (P.info? et).map (·.size) = some 1 := by rw [ty_size hz, hz1]
  by_cases h0 : 0 < css.length
  · obtain ⟨ad, rfl, h4⟩ := h3 h0
    obtain ⟨rfl, hb, hl⟩ := hA (by omega)
    have hone : ∀ u ∈ css, u.oneCell' = true := listOf.one (fun x cs h => cellsOf.one e x cs h) _ _ h2
    rw [run_copy_cells (P := P) G.w tx ty' ty et g oo n cc ad ys.length c' css hu hs (by rw [h1]) h4 (fun j hj => by
      rw [cell_of_row G.w g _ _ rty (0, 0) hb]
      simp
      omega) (fun j _ => by simp [World.frozen?, hb]) hone, h1]
    rfl
  · have hcss : css = [] := List.eq_nil_of_length_eq_zero (by omega)
    subst hcss
    have hmin : Nat.min ys.length n = 0 := by have := h1; simp at this; exact this.symm
    rw [run_copy_none (P := P) G.w tx ty' ty et A A' n cc ys.length c' hu hs hmin]
    have : min ys.length n = 0 := hmin
    rw [this]
    rfl


theorem splice_set {cs : List Value} {css : List Value} (off : Nat) (h : off + css.length ≤ cs.length) : (cs.take off ++ css ++ cs.drop (off + css.length)).length = cs.length := by
  simp only [List.length_append, List.length_take, List.length_drop]
  omega

/-- Elements laid over others. -/
theorem listOf_splice {α : Type} {R : α → List Value → Prop} (hn : ∀ x cs, R x cs → cs.length = 1) {xs ys : List α} {cs ds : List Value} {off : Nat} (hx : listOf R xs cs) (hy : listOf R ys ds) (h : off + ys.length ≤ xs.length) :
    listOf R (xs.take off ++ ys ++ xs.drop (off + ys.length)) (cs.take off ++ ds ++ cs.drop (off + ds.length)) := by
  have h1 := listOf_take hn off hx
  have h2 := listOf_drop hn (off + ys.length) hx
  have h3 := listOf.length hn _ _ hy
  rw [Nat.mul_one] at h1 h2 h3
  rw [h3]
  exact listOf_append (listOf_append h1 hy) h2

theorem ok_copy (hE : EnvOk P E) {c : Call} (ho : o.op = .call c) (hc : c.callee = .builtin .copy) (hm : Mdl w0 F0 G hp nx) (hf : frOk G fr a.tmps) (h0 : denOp E (.call c) fr hp nx k) : Goes P w0 F0 G o a k := by
  simp only [denOp, hc] at h0
  split at h0
  · next tx ty' hat =>
    have hat' : c.argTypes = #[tx, ty'] := by apply Array.ext'; simpa using hat
    obtain ⟨ti, hti, h1⟩ := tyK_out h0
    have hund := (hE.ty tx ti hti).und
    split at h1
    · next et hk =>
      rw [hk] at hund
      obtain ⟨z, hz, h2⟩ := tyK_out h1
      have hzo := hE.ty et z hz
      split at h2
      · next hz1 =>
        have hz1 := nat_beq_eq hz1
        obtain ⟨ts, h3, hts⟩ := evalsK_out hf h2
        have fin : ∀ (v u : Value) (w' : World) (n : Nat), c.args.toList.map a.eval = [v, u] → (Builtin.copy_ #[tx, ty'] o.type #[v, u]).run P G.w = .ok (.int .i64 n) w' → (execOp a.eval o).run P G.w = .ok (.value (.int .i64 n)) w' := by
          intro v u w' n e1 e2
          have hv' : c.args.map a.eval = #[v, u] := by apply Array.ext'; simpa using e1
          simp only [execOp, ho, resolve, hc, Sem.run_bind, Sem.run_pure, Result.andThen_ok, invoke, builtin, hat', hv', e2]
        split at h3
        · next r y =>
          obtain ⟨v, u, e1, hv, hu⟩ := frOk_two hts rfl
          obtain ⟨ch, hch, h4⟩ := lookK_out h3
          obtain ⟨b, k1, k2⟩ := tVal_of_v hv
          obtain ⟨b', hr, hck⟩ := hm.chunk r ch hch
          obtain rfl : b = b' := Option.some.inj (k1.symm.trans hr)
          split at h4
          · next rty e xs =>
            split at h4
            · next he =>
              have he := nat_beq_eq he
              obtain ⟨ys, h5, hold⟩ := rdK_out hm hu h4
              obtain ⟨l1, c0, l2, rfl, h6⟩ := updK_out h5
              obtain rfl : c0 = .row rty e xs := same_chunk hm mem_mid hch
              obtain ⟨q1, q2, css, hown, hlist⟩ := id hck
              have hlen := listOf.length (fun x cs => cellsOf.length e x cs) xs css hlist
              rw [he, Nat.mul_one] at hlen
              by_cases hx0 : xs = []
              · subst hx0
                obtain ⟨ds, m1, m2, m3⟩ := run_copy_t (P := P) (g := 0) (oo := 0) (n := 0) (cc := b.cap) (A := if b.nil then none else some ⟨b.blk, 0, none⟩) (cur := []) (rty := 0) (ty' := ty') hund hzo hz1 he hold (fun h => by omega) o.type
                have hds : ds = [] := List.eq_nil_of_length_eq_zero (by omega)
                subst hds
                have hb0 : b.len = 0 := by simpa using q1
                rw [hb0] at k2
                have hrun := fin v u G.w (min ys.length 0) e1 (by rw [k2]; exact m3)
                refine goes_v (x := .int .i64 (min ys.length 0 : Nat)) ?_ hm rfl hrun
                have : (List.take ([] : List e.ty).length ys ++ List.drop ys.length ([] : List e.ty)) = [] := by simp
                rw [this] at h6
                simpa using h6
              · have hpos : 0 < xs.length := List.length_pos_iff.2 hx0
                rcases hown.2 with ⟨_, hz0⟩ | ⟨g, cap, cur, f1, _, f2, f3, f4, f5, f6⟩
                · omega
                · have hn : b.nil = false := by
                    cases hb : b.nil with
                    | false => rfl
                    | true => simp [B.val, hb] at f1
                  have hg : b.blk = g := by simp [B.val, hn] at f1; exact f1.1
                  subst hg
                  have f5' : cur.toList.length = cap := by rw [he, Nat.mul_one] at f5; simpa using f5
                  obtain ⟨ds, m1, m2, m3⟩ := run_copy_t (P := P) (g := b.blk) (oo := 0) (n := b.len) (cc := b.cap) (A := if b.nil then none else some ⟨b.blk, 0, none⟩) (cur := cur.toList) (rty := rty) (ty' := ty') hund hzo hz1 he hold (fun _ => ⟨by simp [hn], by simpa using f2, by omega⟩) o.type
                  have hrun := fin v u _ (min ys.length b.len) e1 (by rw [k2]; exact m3)
                  obtain ⟨r1, r2, r3⟩ := setCells_rest (g := b.blk) ds (o := 0) (w := G.w)
                  have hfit : 0 + ds.length ≤ cur.toList.length := by omega
                  have hnew := setCells_heap (ty := rty) ds (cs := cur.toList) (o := 0) (w := G.w) (g := b.blk) (by simpa using f2) hfit
                  have hsp := listOf_splice (off := 0) (fun x cs h => by rw [cellsOf.length e x cs h, he]) hlist m2 (by rw [List.length_take]; omega)
                  have hdl : (ys.take b.len).length = ds.length := by rw [List.length_take, m1, Nat.min_comm]
                  have hxs : xs.take 0 ++ ys.take b.len ++ xs.drop (0 + (ys.take b.len).length) = ys.take xs.length ++ xs.drop ys.length := by
                    rw [q1]
                    simp only [List.take_zero, List.nil_append, Nat.zero_add, List.length_take]
                    congr 1
                    by_cases hyl : xs.length ≤ ys.length
                    · rw [Nat.min_eq_left hyl, List.drop_eq_nil_of_le (Nat.le_refl _), List.drop_eq_nil_of_le hyl]
                    · rw [Nat.min_eq_right (by omega)]
                  rw [hxs] at hsp
                  obtain ⟨hx, hm'⟩ := hm.write (c := .row rty e (ys.take xs.length ++ xs.drop ys.length)) hr rfl hn r1 r2 r3 (setCells_size _) (fun k hk => setCells_other (g := b.blk) _ hk) (fun hx => by
                    have hl2 : (ys.take xs.length ++ xs.drop ys.length).length = xs.length := by simp; omega
                    refine ⟨by rw [hl2]; exact q1, q2, css.take 0 ++ ds ++ css.drop (0 + ds.length), ⟨?_, .inr ⟨b.blk, cap, _, by rw [hl2]; exact f1, Nat.zero_le _, hnew, by rw [hl2]; exact f3, f4, ?_, ?_⟩⟩, hx.listOf hsp⟩
                    · rw [hl2, he, Nat.mul_one, splice_set 0 (by omega)]
                      exact hlen
                    · rw [he, Nat.mul_one]
                      show (cur.toList.take 0 ++ ds ++ cur.toList.drop (0 + ds.length)).length = cap
                      rw [splice_set 0 hfit]
                      exact f5'
                    · rw [hl2]
                      rw [he, Nat.mul_one] at f6 ⊢
                      show (cur.toList.take 0 ++ ds ++ cur.toList.drop (0 + ds.length)).take xs.length = _
                      rw [← f6]
                      simp only [List.take_zero, List.nil_append, Nat.zero_add]
                      rw [List.take_append, List.take_of_length_le (by omega), List.drop_take]) rfl
                  refine goes_world (G' := ⟨G.rho, G.im, _⟩) (x := .v (.int .i64 (min ys.length xs.length : Nat))) (v := .int .i64 (min ys.length b.len : Nat)) hrun hx hm' ?_ h6
                  rw [q1]
                  rfl
            · exact h4.elim
          · exact h4.elim
        · next r p off len sz y =>
          obtain ⟨v, u, e1, hv, hu⟩ := frOk_two hts rfl
          obtain ⟨ch, hch, h4⟩ := lookK_out h3
          obtain ⟨b, cc, A, k1, k2, k3, k4, k5⟩ := tVal_of_v hv
          obtain ⟨b', hr, hck⟩ := hm.chunk r ch hch
          obtain rfl : b = b' := Option.some.inj (k1.symm.trans hr)
          split at h4
          · next t0 =>
            obtain ⟨t1, h5, ht1⟩ := tgetK_out h4
            split at h5
            · next e xs n =>
              split at h5
              · next hb =>
                simp only [Bool.and_eq_true] at hb
                have he := nat_beq_eq hb.1
                obtain rfl := nat_beq_eq hb.2
                obtain ⟨ys, h6, hold⟩ := rdK_out hm hu h5
                obtain ⟨hol, h7⟩ := h6
                obtain ⟨t', h8, hs', hset⟩ := tsetK_out h7
                obtain ⟨l1, c0, l2, rfl, h9⟩ := updK_out h8
                obtain rfl : c0 = .own t0 := same_chunk hm mem_mid hch
                obtain ⟨hnil, cs, rty, hb, hcs⟩ := hck
                obtain ⟨m1, m2⟩ := ht1 G cs hcs
                obtain ⟨n1, n2⟩ := m1
                have hlen := listOf.length (fun x cs => cellsOf.length e x cs) _ _ n2
                simp only [T.size] at n2 hlen m2
                rw [he, Nat.mul_one] at hlen n2 m2
                obtain ⟨ds, d1, d2, d3⟩ := run_copy_t (P := P) (g := b.blk) (oo := poff p + off * 1) (n := len) (cc := cc) (A := A) (cur := cs) (rty := rty) (ty' := ty') hund hzo hz1 he hold (fun hp => ⟨(k5 hp).2, hb, by omega⟩) o.type
                have hrun := fin v u _ (min ys.length len) e1 (by rw [k4]; exact d3)
                obtain ⟨r1, r2, r3⟩ := setCells_rest (g := b.blk) ds (o := poff p + off * 1) (w := G.w)
                have hsp := listOf_splice (off := off) (fun x cs h => by rw [cellsOf.length e x cs h, he]) n2 d2 (by rw [List.length_take]; omega)
                have hdl : (ys.take len).length = min ys.length len := by rw [List.length_take, Nat.min_comm]
                rw [hdl] at hsp
                have hnl : (xs.take off ++ ys.take len ++ xs.drop (off + min ys.length len)).length = n := by
                  simp only [List.length_append, List.length_take, List.length_drop]
                  omega
                obtain ⟨m3, m4⟩ := hset G cs _ hcs ⟨hnl, hsp⟩
                have hfit : poff p + off * 1 + ds.length ≤ cs.length := by omega
                have hnew := setCells_heap (ty := rty) ds (cs := cs) (o := poff p + off * 1) (w := G.w) (g := b.blk) hb hfit
                have hnd : n = ((cs.drop (poff p)).take n).length := by rw [List.length_take, List.length_drop]; omega
                have heq : cs.take (poff p) ++ (((cs.drop (poff p)).take n).take off ++ ds ++ ((cs.drop (poff p)).take n).drop (off + ds.length)) ++ cs.drop (poff p + (((cs.drop (poff p)).take n).take off ++ ds ++ ((cs.drop (poff p)).take n).drop (off + ds.length)).length) = cs.take (poff p + off * 1) ++ ds ++ cs.drop (poff p + off * 1 + ds.length) := by
                  have hl1 : (((cs.drop (poff p)).take n).take off ++ ds ++ ((cs.drop (poff p)).take n).drop (off + ds.length)).length = n := by
                    simp only [List.length_append, List.length_take, List.length_drop]
                    omega
                  rw [hl1, Nat.mul_one]
                  exact splice_in cs ds (by omega) (by omega)
                rw [heq] at m4
                obtain ⟨hx, hm'⟩ := hm.write (c := .own t') hr rfl hnil r1 r2 r3 (setCells_size _) (fun k hk => setCells_other _ hk)
                  (fun hx => ⟨hnil, _, rty, hnew, hx.tCells m4⟩) rfl
                exact goes_world (G' := ⟨G.rho, G.im, _⟩) (x := .v (.int .i64 (min ys.length len : Nat))) hrun hx hm' rfl h9
              · exact h5.elim
            · exact h5.elim
          · exact h4.elim
        · exact h3.elim
      · exact h2.elim
    · exact h1.elim
  · exact h0.elim

end
end Go.J
