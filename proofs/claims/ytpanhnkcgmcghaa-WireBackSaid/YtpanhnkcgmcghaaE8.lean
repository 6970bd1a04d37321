/-
  THE ENGINE, part 8: fields and elements of values; slices; the other builtins; numbers; calls.
-/
import Derived.Test.YtpanhnkcgmcghaaE7
import Derived.DeepKeys
set_option linter.unusedSimpArgs false
set_option linter.unusedVariables false
set_option linter.unusedSectionVars false

namespace Go.J
open Go.RowKit

section
variable {P : Program} {E : Env} {w0 : World} {F0 : Base} {G : Cx} {hp : Hp} {nx : Nat} {o : Oper} {a : Act} {fr : List T} {k : T → Hp → Nat → Prop}

/-- A part of a value of many cells. -/
theorem run_part_t {t : TypeId} {y : TyI} {x : T} {d : Nat} {cs : List Value} {kk : T → Prop} (ht : TyOk P t y) (hs : Nat.beq x.size y.size = true) (hsh : shapeK y.k x kk) (hc : tCells G x ((cs.drop d).take x.size)) (hl : d + x.size ≤ cs.length) :
    ∃ v, (part t ⟨cs⟩ d).run P G.w = .ok v G.w ∧ tVal G x v ∧ kk x := by
  obtain ⟨i, hi, hi1, _⟩ := ht.info
  have hsz := nat_beq_eq hs
  have hund := ht.und
  have go : ∀ u, P.underlying t = some u → (u.isRow = true ↔ ∀ y, x ≠ .v y) → (∀ y, x ≠ .tup y) → kk x → ∃ v, (part t ⟨cs⟩ d).run P G.w = .ok v G.w ∧ tVal G x v ∧ kk x := by
    intro u hu h1 h2 h3
    obtain ⟨v, h4, h5⟩ := run_part (P := P) hi ⟨u, hu⟩ hc hl (by rw [hi1, hsz]) (fun u' hu' => by obtain rfl : u = u' := Option.some.inj (hu.symm.trans hu'); exact h1) h2
    exact ⟨v, h4, h5, h3⟩
  unfold shapeK at hsh
  cases hk : y.k <;> rw [hk] at hund hsh <;> simp only at hund hsh
  case st fs =>
    obtain ⟨fields, hu, _⟩ := hund
    cases x <;> simp only at hsh
    all_goals exact go _ hu (by simp [TypeDesc.isRow]) (by simp) hsh
  case ar n e =>
    cases x <;> simp only at hsh
    all_goals exact go _ hund (by simp [TypeDesc.isRow]) (by simp) hsh
  case fn =>
    obtain ⟨_, _, _, hu⟩ := hund
    cases x <;> simp only at hsh
    exact go _ hu (by simp [TypeDesc.isRow]) (by simp) hsh
  case other =>
    obtain ⟨d, hu, hd⟩ := hund
    cases x <;> simp only at hsh
    exact go _ hu (by simp [hd]) (by simp) hsh
  all_goals
    cases x <;> simp only at hsh
    exact go _ hund (by simp [TypeDesc.isRow]) (by simp) hsh

theorem agg_of {x : T} {v : Value} (hv : tVal G x v) (h1 : ∀ y, x ≠ .v y) (h2 : ∀ y, x ≠ .tup y) : ∃ cs : List Value, v = .agg ⟨cs⟩ ∧ tCells G x cs := by
  cases x with
  | v y => exact (h1 y rfl).elim
  | tup y => exact (h2 y rfl).elim
  | _ => exact hv

theorem fieldK_row {i d : Nat} {x : T} {kk : T → Prop} (h : fieldK i d x kk) : (∀ y, x ≠ .v y) ∧ (∀ y, x ≠ .tup y) := by
  cases x <;> first | (cases i <;> simp [fieldK] at h; done) | exact ⟨by simp, by simp⟩

theorem ok_field (hE : EnvOk P E) {t : TypeId} {x : Operand} {f : Nat} (ho : o.op = .field t x f) (hm : Mdl w0 F0 G hp nx) (hf : frOk G fr a.tmps) (h0 : denOp E (.field t x f) fr hp nx k) : Goes P w0 F0 G o a k := by
  obtain ⟨tx, h1, ht⟩ := evalK_out hf h0
  obtain ⟨y, hy, h2⟩ := tyK_out h1
  have hund := (hE.ty t y hy).und
  split at h2
  · next fs hk =>
    rw [hk] at hund
    obtain ⟨fields, hu, hfs, hne, _⟩ := hund
    obtain ⟨ft, d, hd, h3⟩ := placeK_out h2
    have hfield : ∃ fd, fields[f]? = some fd ∧ fd.type = ft ∧ fd.offset = d := by
      rw [← hfs, List.getElem?_map] at hd
      cases hq : fields.toList[f]? with
      | none => simp [hq] at hd
      | some fd => simp [hq] at hd; exact ⟨fd, by simpa using hq, hd.1, hd.2⟩
    obtain ⟨fd, hfd, rfl, rfl⟩ := hfield
    obtain ⟨z, hz, h4⟩ := tyK_out h3
    obtain ⟨r1, r2⟩ := fieldK_row h4
    obtain ⟨cs, hv, hcs⟩ := agg_of ht r1 r2
    obtain ⟨x', h5, hx⟩ := fieldK_out h4
    obtain ⟨m1, m2⟩ := hx G cs hcs
    split at h5
    · next hs =>
      obtain ⟨v, e1, e2, e3⟩ := run_part_t (hE.ty _ z hz) hs h5 m1 m2
      exact goes_value (v := v) (by simp [execOp, ho, hv, Instr.field, run_underlying hu, hfd, asAgg, e1]) hm e2 e3
    · exact h5.elim
  · exact h2.elim

theorem ok_index (hE : EnvOk P E) {t : TypeId} {x i : Operand} (ho : o.op = .index t x i) (hm : Mdl w0 F0 G hp nx) (hf : frOk G fr a.tmps) (h0 : denOp E (.index t x i) fr hp nx k) : Goes P w0 F0 G o a k := by
  obtain ⟨tx, h1, ht⟩ := evalK_out hf h0
  obtain ⟨ti, h2, hti⟩ := evalK_out hf h1
  split at h2
  · next ik n =>
    have hi : a.eval i = .int ik n := hti
    split at h2
    · next e xs m =>
      obtain ⟨y, hy, h3⟩ := tyK_out h2
      have hund := (hE.ty t y hy).und
      split at h3
      · next m' et hk =>
        rw [hk] at hund
        obtain ⟨z, hz, h4⟩ := tyK_out h3
        split at h4
        · next hb1 hb2 =>
          obtain rfl := nat_beq_eq hb1
          obtain ⟨hr, h5⟩ := h4
          obtain ⟨cs, hv, hl, hc⟩ := ht
          have hlt : n.toNat < xs.length := by rw [hl]; have := hr.1; have := hr.2; omega
          obtain ⟨m1, m2⟩ := enc_getD hc hlt
          have hzo := hE.ty et z hz
          obtain ⟨inf, hinf, hinf1, _⟩ := hzo.info
          have hse : (e.enc (xs.getD n.toNat e.dflt)).size = e.sz := El.size_enc _ _
          obtain ⟨v, e1, e2, e3⟩ := run_part_t (d := n.toNat * e.sz) hzo (by rw [hse]; exact hb2) h5 (by rw [hse]; exact m1) (by rw [hse]; exact m2)
          have hsz := nat_beq_eq hb2
          refine goes_value (v := v) ?_ hm e2 e3
          have hr1 := hr.1
          have hr2 := hr.2
          simp [execOp, ho, hv, hi, Instr.index, asIntOf, run_underlying hund, hr1, hr2, sizeOf, typeInfo, hinf, hinf1, ← hsz, e1]
        · exact h4.elim
      · exact h3.elim
    · next s =>
      obtain ⟨y, hy, h3⟩ := tyK_out h2
      have hund := (hE.ty t y hy).und
      split at h3
      · next hk =>
        rw [hk] at hund
        obtain ⟨hr, h4⟩ := h3
        have hv : a.eval x = .string ⟨⟨s⟩⟩ := ht
        have hr1 := hr.1
        have hlt : n.toNat < s.length := by have := hr.2; omega
        refine goes_value (v := .int .u8 (s.getD n.toNat 0).toNat) (x := .v (.int .u8 (s.getD n.toNat 0).toNat)) ?_ hm rfl h4
        have hb : (⟨⟨s⟩⟩ : ByteArray)[n.toNat]? = some (s.getD n.toNat 0) := by
          rw [getElem?_pos (⟨⟨s⟩⟩ : ByteArray) n.toNat hlt]
          have : (⟨⟨s⟩⟩ : ByteArray)[n.toNat] = s[n.toNat] := rfl
          rw [this]
          simp [List.getD, hlt]
        simp only [execOp, ho, hv, hi, Instr.index, asIntOf, Sem.run_bind, Sem.run_pure, Result.andThen_ok, run_underlying hund, hr1, if_true, hb]
      · exact h3.elim
    · exact h2.elim
  · exact h2.elim

theorem tupGetK_out {kk : T → Prop} : ∀ {i : Nat} {t : T} {vs : List Value}, denOp.tupGetK i t kk → tTup G t vs → ∃ t' v, kk t' ∧ vs[i]? = some v ∧ tVal1 G t' v
  | 0, .cons t ts, _, h, ⟨v, vs, e, h1, _⟩ => ⟨t, v, h, by simp [e], h1⟩
  | i + 1, .cons t ts, _, h, ⟨v, vs, e, _, h2⟩ => by
    obtain ⟨t', v', k1, k2, k3⟩ := tupGetK_out (i := i) (t := ts) h h2
    exact ⟨t', v', k1, by simpa [e] using k2, k3⟩
  | 0, .v _, _, h, _ => by simp [denOp.tupGetK] at h
  | 0, .nil, _, h, _ => by simp [denOp.tupGetK] at h
  | 0, .arr _ _ _, _, h, _ => by simp [denOp.tupGetK] at h
  | 0, .tup _, _, h, _ => by simp [denOp.tupGetK] at h
  | _ + 1, .v _, _, h, _ => by simp [denOp.tupGetK] at h
  | _ + 1, .nil, _, h, _ => by simp [denOp.tupGetK] at h
  | _ + 1, .arr _ _ _, _, h, _ => by simp [denOp.tupGetK] at h
  | _ + 1, .tup _, _, h, _ => by simp [denOp.tupGetK] at h

theorem tVal_of1 {t : T} {v : Value} (h : tVal1 G t v) : tVal G t v := by
  cases t <;> first | exact h | exact h.elim

theorem ok_extract {x : Operand} {i : Nat} (ho : o.op = .extract x i) (hm : Mdl w0 F0 G hp nx) (hf : frOk G fr a.tmps) (h0 : denOp E (.extract x i) fr hp nx k) : Goes P w0 F0 G o a k := by
  obtain ⟨tx, h1, ht⟩ := evalK_out hf h0
  split at h1
  · next ts =>
    obtain ⟨vs, hv, hts⟩ := ht
    obtain ⟨t', v, k1, k2, k3⟩ := tupGetK_out h1 hts
    refine goes_value (v := v) ?_ hm (tVal_of1 k3) k1
    have : (⟨vs⟩ : Array Value)[i]? = some v := by simpa using k2
    simp [execOp, ho, hv, Instr.extract, this]
  · exact h1.elim

end
end Go.J
