/-
  THE ENGINE, part 9: cutting slices, addresses of elements, the length, the least.
-/
import Derived.Test.YtpanhnkcgmcghaaE8
import Derived.Lib.Strings
set_option linter.unusedSimpArgs false
set_option linter.unusedVariables false
set_option linter.unusedSectionVars false

namespace Go.J
open Go.RowKit

section
variable {P : Program} {E : Env} {w0 : World} {F0 : Base} {G : Cx} {hp : Hp} {nx : Nat} {o : Oper} {a : Act} {fr : List T} {k : T → Hp → Nat → Prop}

theorem loK_out {lo : Option Operand} {d : Int} {kk : Int → Prop} (hf : frOk G fr a.tmps) (h : loK fr lo d kk) : ∃ n, kk n ∧ ((lo = none ∧ n = d) ∨ ∃ x ik, lo = some x ∧ a.eval x = .int ik n) := by
  cases lo with
  | none => exact ⟨d, h, .inl ⟨rfl, rfl⟩⟩
  | some x =>
    obtain ⟨t, h1, ht⟩ := evalK_out hf h
    split at h1
    · next ik n => exact ⟨n, h1, .inr ⟨x, ik, rfl, ht⟩⟩
    · exact h1.elim

theorem run_bounds {isS : Bool} {len cap : Nat} {lo hi : Option Operand} {x y : Int} (h1 : (lo = none ∧ x = 0) ∨ ∃ o ik, lo = some o ∧ a.eval o = .int ik x) (h2 : (hi = none ∧ y = (len : Int)) ∨ ∃ o ik, hi = some o ∧ a.eval o = .int ik y)
    (hx : 0 ≤ x) (hxy : x ≤ y) (hy : y ≤ cap) : (Instr.sliceBounds isS len cap (lo.map a.eval) (hi.map a.eval) none).run P G.w = .ok (x.toNat, y.toNat, cap) G.w := by
  have hy0 : 0 ≤ y := by omega
  have e1 : ∀ code, ((y.toNat : Nat) : Int) = y := fun _ => by omega
  rcases h1 with ⟨rfl, rfl⟩ | ⟨o1, ik1, rfl, he1⟩ <;> rcases h2 with ⟨rfl, rfl⟩ | ⟨o2, ik2, rfl, he2⟩
  · simp [Instr.sliceBounds]
  · simp [Instr.sliceBounds, he2, run_sliceBound (P := P) G.w ik2 y cap _ hy0 hy]
  · simp [Instr.sliceBounds, he1, run_sliceBound (P := P) G.w ik1 x len _ hx hxy]
  · simp [Instr.sliceBounds, he1, he2, run_sliceBound (P := P) G.w ik2 y cap _ hy0 hy, run_sliceBound (P := P) G.w ik1 x y.toNat _ hx (by omega)]

theorem run_slice_t {t et : TypeId} {z : TyI} {A : Option Addr} {len cap : Nat} {lo hi : Option Operand} {x y : Int} (hu : P.underlying t = some (.slice et)) (hz : TyOk P et z) (h1 : (lo = none ∧ x = 0) ∨ ∃ o ik, lo = some o ∧ a.eval o = .int ik x)
    (h2 : (hi = none ∧ y = (len : Int)) ∨ ∃ o ik, hi = some o ∧ a.eval o = .int ik y) (hx : 0 ≤ x) (hxy : x ≤ y) (hy : y ≤ cap) :
    (Instr.sliceAt t (.slice A len cap) (lo.map a.eval) (hi.map a.eval) none).run P G.w = .ok (.slice (if cap = x.toNat then A else A.map (·.add (x.toNat * z.size))) (y.toNat - x.toNat) (cap - x.toNat)) G.w := by
  obtain ⟨i, hi1, hi2, _⟩ := hz.info
  simp only [Instr.sliceAt, Sem.run_bind, run_underlying hu, Result.andThen_ok, Instr.slice, run_bounds (isS := true) h1 h2 hx hxy hy, sizeOf, typeInfo, run_program, hi1, hi2, Sem.run_pure]

theorem exec_slice {t : TypeId} {x : Operand} {lo hi : Option Operand} {v : Value} (ho : o.op = .slice t x lo hi none) (h : (Instr.sliceAt t (a.eval x) (lo.map a.eval) (hi.map a.eval) none).run P G.w = .ok v G.w) : (execOp a.eval o).run P G.w = .ok (.value v) G.w := by
  simp [execOp, ho, h]

/-- A part of what a slice holds. -/
theorem Holds.cut {e : El} {xs : List e.ty} {A : Option Addr} {c : Nat} {x y : Nat} (h : Holds G e xs (.slice A xs.length c)) (hxy : x ≤ y) (hy : y ≤ xs.length) : Holds G e ((xs.drop x).take (y - x)) (.slice (if c = x then A else A.map (·.add (x * e.sz))) (y - x) (c - x)) := by
  obtain ⟨A', c', e1, e2, e3, e4⟩ := h
  simp at e1
  obtain ⟨rfl, rfl⟩ := e1
  have hl : ((xs.drop x).take (y - x)).length = y - x := by simp; omega
  refine ⟨_, c - x, by rw [hl], by omega, by omega, fun hp => ?_⟩
  rw [hl] at hp
  obtain ⟨b, oo, css, rfl, k1, k2⟩ := e4 (by omega)
  rw [if_neg (by omega)]
  refine ⟨b, oo + x * e.sz, _, by simp [Addr.add_mid], k1.drop (x * e.sz) ((y - x) * e.sz), listOf_take (fun x cs => cellsOf.length e x cs) _ (listOf_drop (fun x cs => cellsOf.length e x cs) _ k2)⟩

theorem rd_of_im {e : El} {xs : List e.ty} {v : Value} (h : Holds G e xs v) (him : 0 < xs.length → ∀ b oo, (∃ c, v = .slice (some ⟨b, oo, none⟩) xs.length c) → G.im b ∧ b < G.w.heap.size) : vOk G (.rd e xs) v := by
  obtain ⟨A, c, rfl, e2, e3, e4⟩ := h
  exact ⟨A, c, rfl, e2, e3, fun hp => by
    obtain ⟨b, oo, css, rfl, k1, k2⟩ := e4 hp
    obtain ⟨m1, m2⟩ := him hp b oo ⟨c, rfl⟩
    exact ⟨b, oo, css, rfl, m1, m2, k1, k2⟩⟩

theorem holds_of_rd {e : El} {xs : List e.ty} {v : Value} (h : vOk G (.rd e xs) v) : Holds G e xs v ∧ (0 < xs.length → ∀ b oo, (∃ c, v = .slice (some ⟨b, oo, none⟩) xs.length c) → G.im b ∧ b < G.w.heap.size) := by
  obtain ⟨A, c, e1, e2, e3, e4⟩ := h
  simp at e1
  subst e1
  refine ⟨⟨A, c, rfl, e2, e3, fun hp => ?_⟩, fun hp b oo ⟨c', hc'⟩ => ?_⟩
  · obtain ⟨b, oo, css, rfl, _, _, k1, k2⟩ := e4 hp
    exact ⟨b, oo, css, rfl, k1, k2⟩
  · obtain ⟨b', oo', css, rfl, m1, m2, _, _⟩ := e4 hp
    simp at hc'
    rw [← hc'.1.1]
    exact ⟨m1, m2⟩

theorem ok_slice (hE : EnvOk P E) {t : TypeId} {x : Operand} {lo hi mx : Option Operand} (ho : o.op = .slice t x lo hi mx) (hm : Mdl w0 F0 G hp nx) (hf : frOk G fr a.tmps) (h0 : denOp E (.slice t x lo hi mx) fr hp nx k) : Goes P w0 F0 G o a k := by
  cases mx with
  | some m => exact h0.elim
  | none =>
  obtain ⟨tx, h1, ht⟩ := evalK_out hf h0
  obtain ⟨n, h2, hlo⟩ := loK_out hf h1
  obtain ⟨y, hy, h3⟩ := tyK_out h2
  have hund := (hE.ty t y hy).und
  split at h3
  · next hk =>
    rw [hk] at hund
    split at h3
    · next s =>
      obtain ⟨m, h4, hhi⟩ := loK_out hf h3
      obtain ⟨⟨b1, b2, b3⟩, h5⟩ := h4
      have hv : a.eval x = .string ⟨⟨s⟩⟩ := ht
      refine goes_value (v := .string ⟨⟨(s.drop n.toNat).take (m - n).toNat⟩⟩) (x := .v (.str ((s.drop n.toNat).take (m - n).toNat))) (exec_slice ho ?_) hm rfl h5
      have hb := run_bounds (P := P) (G := G) (isS := false) (cap := s.length) (len := s.length) hlo hhi b1 b2 b3
      have hsz : (⟨⟨s⟩⟩ : ByteArray).size = s.length := rfl
      simp only [hv, Instr.sliceAt, Sem.run_bind, run_underlying hund, Result.andThen_ok, Instr.slice, hsz, hb, Sem.run_pure, Option.isSome_none, Bool.false_eq_true, if_false]
      congr 2
      have := Lib.extract_data ⟨⟨s⟩⟩ n.toNat m.toNat
      apply ByteArray.ext
      apply Array.ext'
      rw [this]
      simp [List.extract_eq_take_drop, show (m - n).toNat = m.toNat - n.toNat by omega]
    · exact h3.elim
  · next et hk =>
    rw [hk] at hund
    obtain ⟨z, hz, h4⟩ := tyK_out h3
    have hzo := hE.ty et z hz
    split at h4
    · next e xs =>
      split at h4
      · next hb =>
        have hsz := nat_beq_eq hb
        obtain ⟨m, h5, hhi⟩ := loK_out hf h4
        obtain ⟨⟨b1, b2, b3⟩, h6⟩ := h5
        obtain ⟨hh, him⟩ := holds_of_rd ht
        obtain ⟨A, c, hv, c1, _⟩ := id hh
        have hrun := run_slice_t (P := P) (G := G) (A := A) (cap := c) hund hzo hlo hhi b1 b2 (by omega)
        rw [hv] at hh him
        have hcut := hh.cut (x := n.toNat) (y := m.toNat) (by omega) (by omega)
        rw [hsz] at hrun
        rw [show (m - n).toNat = m.toNat - n.toNat by omega] at h6
        refine goes_value (exec_slice ho (by rw [hv]; exact hrun)) hm (x := .v (.rd e ((xs.drop n.toNat).take (m.toNat - n.toNat)))) (rd_of_im hcut fun hp b oo ⟨c', hc'⟩ => ?_) h6
        have hl : ((xs.drop n.toNat).take (m.toNat - n.toNat)).length = m.toNat - n.toNat := by simp; omega
        rw [hl] at hp hc'
        obtain ⟨_, _, q1, _, _, q4⟩ := id hh
        obtain ⟨b', oo', css, q5, _⟩ := q4 (by omega)
        simp at q1
        obtain ⟨rfl, rfl⟩ := q1
        subst q5
        simp [Addr.add_mid, show ¬ c = n.toNat by omega] at hc'
        rw [← hc'.1.1]
        exact him (by omega) b' oo' ⟨c, rfl⟩
      · exact h4.elim
    · obtain ⟨m, h5, hhi⟩ := loK_out hf h4
      obtain ⟨⟨rfl, rfl⟩, h6⟩ := h5
      have hv : a.eval x = .slice none 0 0 := ht
      have hrun := run_slice_t (P := P) (G := G) (A := none) (len := 0) (cap := 0) hund hzo hlo hhi (by omega) (by omega) (by omega)
      exact goes_value (exec_slice ho (by rw [hv]; exact hrun)) hm (x := .v .nils) (by simp; rfl) h6
    · next r =>
      obtain ⟨c, hc, h5⟩ := lookK_out h4
      obtain ⟨b, hr, hck⟩ := hm.chunk r c hc
      obtain ⟨b', k1, k2⟩ := tVal_of_v ht
      obtain rfl : b = b' := Option.some.inj (hr.symm.trans k1)
      split at h5
      · next ty e xs =>
        split at h5
        · next hb =>
          have hsz := nat_beq_eq hb
          obtain ⟨m, h6, hhi⟩ := loK_out hf h5
          obtain ⟨⟨b1, b2, b3⟩, h7⟩ := h6
          have hh := own_row hck
          obtain ⟨A, cc, hv, c1, c2, c3⟩ := id hh
          have hvx : a.eval x = .slice A xs.length cc := by rw [k2]; exact hv
          have hrun := run_slice_t (P := P) (G := G) (A := A) (len := xs.length) (cap := cc) hund hzo hlo hhi b1 b2 (by omega)
          rw [hsz] at hrun
          refine goes_value (exec_slice ho (by rw [hvx]; exact hrun)) hm (x := .v (.sl r [] n.toNat (m - n).toNat e.sz)) ⟨b, cc - n.toNat, _, hr, by omega, by omega, by rw [show (m - n).toNat = m.toNat - n.toNat by omega], fun hp => ?_⟩ h7
          have hne : 0 < xs.length := by omega
          have hnn : b.nil = false := by
            cases hq : b.nil with
            | false => rfl
            | true =>
              obtain ⟨bb, oo, css, e9, _⟩ := c3 hne
              simp [B.val, hq, e9] at hv
          simp [B.val, hnn] at hv
          refine ⟨hnn, ?_⟩
          rw [if_neg (by omega), ← hv.1]
          simp [Addr.add_mid, poff]
        · exact h5.elim
      · next ty e xs =>
        split at h5
        · next hb =>
          have hsz := nat_beq_eq hb
          obtain ⟨m, h6, hhi⟩ := loK_out hf h5
          obtain ⟨⟨b1, b2, b3⟩, h7⟩ := h6
          obtain ⟨q1, q2, q3, q4⟩ := hck
          have hrd : vOk G (.rd e xs) (.slice (if b.nil then none else some ⟨b.blk, 0, none⟩) xs.length b.cap) :=
            ⟨_, b.cap, rfl, by omega, q3, fun hp => by
              obtain ⟨m1, m2, m3, css, m4, m5⟩ := q4 (by omega)
              exact ⟨b.blk, 0, css, by simp [m1], m2, m3, m4, m5⟩⟩
          obtain ⟨hh, him⟩ := holds_of_rd hrd
          have hvx : a.eval x = .slice (if b.nil then none else some ⟨b.blk, 0, none⟩) xs.length b.cap := by rw [k2, q1]
          have hrun := run_slice_t (P := P) (G := G) (A := if b.nil then none else some ⟨b.blk, 0, none⟩) (len := xs.length) (cap := b.cap) hund hzo hlo hhi b1 b2 (by omega)
          have hcut := hh.cut (x := n.toNat) (y := m.toNat) (by omega) (by omega)
          rw [hsz] at hrun
          rw [show (m - n).toNat = m.toNat - n.toNat by omega] at h7
          refine goes_value (exec_slice ho (by rw [hvx]; exact hrun)) hm (x := .v (.rd e ((xs.drop n.toNat).take (m.toNat - n.toNat)))) (rd_of_im hcut fun hp b3 oo ⟨c', hc'⟩ => ?_) h7
          have hl : ((xs.drop n.toNat).take (m.toNat - n.toNat)).length = m.toNat - n.toNat := by simp; omega
          rw [hl] at hp hc'
          obtain ⟨m1, m2, m3, css, m4, m5⟩ := q4 (by omega)
          simp [m1, Addr.add_mid, show ¬ b.cap = n.toNat by omega] at hc'
          rw [← hc'.1.1]
          exact ⟨m2, m3⟩
        · exact h5.elim
      · exact h5.elim
    · next r p off len sz =>
      split at h4
      · next hb =>
        have hsz := nat_beq_eq hb
        obtain ⟨m, h5, hhi⟩ := loK_out hf h4
        obtain ⟨⟨b1, b2, b3⟩, h6⟩ := h5
        obtain ⟨b, c, A, q1, q2, q3, q4, q5⟩ := tVal_of_v ht
        have hrun := run_slice_t (P := P) (G := G) (A := A) (len := len) (cap := c) hund hzo hlo hhi b1 b2 (by omega)
        rw [hsz] at hrun
        refine goes_value (exec_slice ho (by rw [q4]; exact hrun)) hm (x := .v (.sl r p (off + n.toNat) (m - n).toNat sz)) ⟨b, c - n.toNat, _, q1, by omega, by omega, by rw [show (m - n).toNat = m.toNat - n.toNat by omega], fun hp => ?_⟩ h6
        obtain ⟨q6, q7⟩ := q5 (by omega)
        refine ⟨q6, ?_⟩
        rw [if_neg (by omega), q7]
        simp [Addr.add_mid, Nat.add_mul, Nat.add_assoc]
      · exact h4.elim
    · exact h4.elim
  · next len et hk =>
    rw [hk] at hund
    obtain ⟨z, hz, h4⟩ := tyK_out h3
    have hzo := hE.ty et z hz
    split at h4
    · next r p =>
      split at h4
      · next hbl =>
        have hlen := Nat.le_of_ble_eq_true hbl
        obtain ⟨m, h5, hhi⟩ := loK_out hf h4
        obtain ⟨⟨b1, b2, b3⟩, h6⟩ := h5
        obtain ⟨b, q1, q2, q3⟩ := tVal_of_v ht
        obtain ⟨i, hi1, hi2, _⟩ := hzo.info
        have hb := run_bounds (P := P) (G := G) (isS := false) (cap := len) (len := len) hlo hhi b1 b2 b3
        have hrun : (Instr.sliceAt t (a.eval x) (lo.map a.eval) (hi.map a.eval) none).run P G.w = .ok (.slice (some (if len = n.toNat then ⟨b.blk, poff p, none⟩ else (⟨b.blk, poff p, none⟩ : Addr).add (n.toNat * z.size))) (m.toNat - n.toNat) (len - n.toNat)) G.w := by
          simp only [q3, Instr.sliceAt, Sem.run_bind, run_underlying hund, Result.andThen_ok, Instr.sureAddr, Sem.run_pure, hb, sizeOf, typeInfo, run_program, hi1, hi2]
        refine goes_value (exec_slice ho hrun) hm (x := .v (.sl r p n.toNat (m - n).toNat z.size)) ⟨b, len - n.toNat, _, q1, by omega, by simp only [maxLen]; omega, by rw [show (m - n).toNat = m.toNat - n.toNat by omega], fun hp => ?_⟩ h6
        refine ⟨q2, ?_⟩
        rw [if_neg (by omega)]
        simp [Addr.add_mid]
      · exact h4.elim
    · exact h4.elim
  · exact h3.elim

theorem ok_indexAddr (hE : EnvOk P E) {t : TypeId} {x i : Operand} (ho : o.op = .indexAddr t x i) (hm : Mdl w0 F0 G hp nx) (hf : frOk G fr a.tmps) (h0 : denOp E (.indexAddr t x i) fr hp nx k) : Goes P w0 F0 G o a k := by
  obtain ⟨tx, h1, ht⟩ := evalK_out hf h0
  obtain ⟨ti, h2, hti⟩ := evalK_out hf h1
  split at h2
  · next ik n =>
    have hi : a.eval i = .int ik n := hti
    obtain ⟨y, hy, h3⟩ := tyK_out h2
    have hund := (hE.ty t y hy).und
    split at h3
    · next et hk =>
      rw [hk] at hund
      obtain ⟨z, hz, h4⟩ := tyK_out h3
      obtain ⟨inf, hi1, hi2, _⟩ := (hE.ty et z hz).info
      have run : ∀ b oo len cap, a.eval x = .slice (some ⟨b, oo, none⟩) len cap → 0 ≤ n → n < len → (execOp a.eval o).run P G.w = .ok (.value (.pointer (some ⟨b, oo + n.toNat * z.size, none⟩))) G.w := by
        intro b oo len cap hv hn1 hn2
        simp [execOp, ho, hv, hi, Instr.indexAt, asIntOf, run_underlying hund, hn1, hn2, sizeOf, typeInfo, hi1, hi2, Addr.add_mid]
      split at h4
      · next e xs =>
        split at h4
        · next hb =>
          have hsz := nat_beq_eq hb
          obtain ⟨⟨b1, b2⟩, h5⟩ := h4
          obtain ⟨A, c, e1, e2, e3, e4⟩ := tVal_of_v ht
          simp at e1
          obtain ⟨b, oo, css, rfl, k1, k2, k3, k4⟩ := e4 (by omega)
          refine goes_value (run _ _ _ _ e1 b1 (by omega)) hm (x := .v (.rp e xs n.toNat [])) ⟨by omega, b, oo, css, by simp [hsz, poff], k1, k2, k3, k4⟩ h5
        · exact h4.elim
      · next r =>
        obtain ⟨c, hc, h5⟩ := lookK_out h4
        obtain ⟨b, hr, hck⟩ := hm.chunk r c hc
        obtain ⟨b', k1, k2⟩ := tVal_of_v ht
        obtain rfl : b = b' := Option.some.inj (hr.symm.trans k1)
        split at h5
        · next ty e xs =>
          split at h5
          · next hb =>
            have hsz := nat_beq_eq hb
            obtain ⟨⟨b1, b2⟩, h6⟩ := h5
            obtain ⟨A, cc, hv, c1, c2, c3⟩ := own_row hck
            have hn : b.nil = false := by
              cases hq : b.nil with
              | false => rfl
              | true =>
                obtain ⟨bb, oo, css, e9, _⟩ := c3 (by omega)
                simp [B.val, hq, e9] at hv
            simp [B.val, hn] at hv
            refine goes_value (run b.blk 0 b.len b.cap (by rw [k2]; simp [hn]) b1 (by omega)) hm (x := .v (.ptr r [.x n.toNat e.sz])) ⟨b, hr, hn, by simp [hsz, poff]⟩ h6
          · exact h5.elim
        · next ty e xs =>
          split at h5
          · next hb =>
            have hsz := nat_beq_eq hb
            obtain ⟨⟨b1, b2⟩, h6⟩ := h5
            obtain ⟨q1, q2, q3, q4⟩ := hck
            obtain ⟨hn, _⟩ := q4 (by omega)
            refine goes_value (run b.blk 0 b.len b.cap (by rw [k2]; simp [hn]) b1 (by omega)) hm (x := .v (.ptr r [.x n.toNat e.sz])) ⟨b, hr, hn, by simp [hsz, poff]⟩ h6
          · exact h5.elim
        · exact h5.elim
      · next r p off len sz =>
        split at h4
        · next hb =>
          have hsz := nat_beq_eq hb
          obtain ⟨⟨b1, b2⟩, h5⟩ := h4
          obtain ⟨b, c, A, q1, q2, q3, q4, q5⟩ := tVal_of_v ht
          obtain ⟨q6, q7⟩ := q5 (by omega)
          subst q7
          refine goes_value (run _ _ _ _ q4 b1 b2) hm (x := .v (.ptr r (appPath p (.x (off + n.toNat) sz)))) ⟨b, q1, q6, ?_⟩ h5
          rw [appPath_eq, poff_app, hsz]
          simp [poff, Nat.add_mul, Nat.add_assoc]
        · exact h4.elim
      · exact h4.elim
    · next len et hk =>
      rw [hk] at hund
      obtain ⟨z, hz, h4⟩ := tyK_out h3
      obtain ⟨inf, hi1, hi2, _⟩ := (hE.ty et z hz).info
      have run : ∀ b oo, a.eval x = .pointer (some ⟨b, oo, none⟩) → 0 ≤ n → n < len → (execOp a.eval o).run P G.w = .ok (.value (.pointer (some ⟨b, oo + n.toNat * z.size, none⟩))) G.w := by
        intro b oo hv hn1 hn2
        simp [execOp, ho, hv, hi, Instr.indexAt, asIntOf, run_underlying hund, hn1, hn2, sizeOf, typeInfo, hi1, hi2, Addr.add_mid, Instr.sureAddr]
      split at h4
      · next r p =>
        obtain ⟨⟨b1, b2⟩, h5⟩ := h4
        obtain ⟨b, q1, q2, q3⟩ := tVal_of_v ht
        refine goes_value (run _ _ q3 b1 b2) hm (x := .v (.ptr r (appPath p (.x n.toNat z.size)))) ⟨b, q1, q2, ?_⟩ h5
        rw [appPath_eq, poff_app]
        simp [poff]
      · next e xs j p =>
        obtain ⟨⟨b1, b2⟩, h5⟩ := h4
        obtain ⟨q0, b, oo, css, q1, q2⟩ := tVal_of_v ht
        refine goes_value (run _ _ q1 b1 b2) hm (x := .v (.rp e xs j (appPath p (.x n.toNat z.size)))) ⟨q0, b, oo, css, ?_, q2⟩ h5
        rw [appPath_eq, poff_app]
        simp [poff, Nat.add_assoc]
      · exact h4.elim
    · exact h3.elim
  · exact h2.elim

end
end Go.J
