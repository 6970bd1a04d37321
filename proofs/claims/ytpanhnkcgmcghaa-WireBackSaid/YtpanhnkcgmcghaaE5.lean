/-
  THE ENGINE, part 5: the operations, one by one: values and addresses.
-/
import Derived.Test.YtpanhnkcgmcghaaE4
import Derived.Laws.BitsAllLaws
set_option linter.unusedSimpArgs false
set_option linter.unusedVariables false
set_option linter.unusedSectionVars false

namespace Go.J

section
variable {P : Program} {E : Env} {w0 : World} {F0 : Base} {G : Cx} {hp : Hp} {nx : Nat} {o : Oper} {a : Act} {fr : List T} {k : T → Hp → Nat → Prop}

theorem appPath_eq : ∀ (p : List Stp) (s : Stp), appPath p s = p ++ [s]
  | [], _ => rfl
  | t :: p, s => by simp [appPath, appPath_eq p s]

theorem poff_app (p : List Stp) (s : Stp) : poff (p ++ [s]) = poff p + poff [s] := by
  induction p with
  | nil => simp [poff]
  | cons t p ih => cases t <;> simp [poff, ih, Nat.add_assoc]

theorem ok_move {x : Operand} (ho : o.op = .move x ∨ o.op = .assign x) (hm : Mdl w0 F0 G hp nx) (hf : frOk G fr a.tmps) (h : evalK fr x fun x => k x hp nx) : Goes P w0 F0 G o a k := by
  obtain ⟨t, hk, ht⟩ := evalK_out hf h
  refine goes_value (v := a.eval x) ?_ hm ht hk
  rcases ho with ho | ho <;> simp [execOp, ho]

theorem ok_pick {c x y : Operand} (ho : o.op = .pick c x y) (hm : Mdl w0 F0 G hp nx) (hf : frOk G fr a.tmps) (h : denOp E (.pick c x y) fr hp nx k) : Goes P w0 F0 G o a k := by
  obtain ⟨t, h, ht⟩ := evalK_out hf h
  have yes : a.eval c = .bool true → (evalK fr x fun x => k x hp nx) → Goes P w0 F0 G o a k := fun hc h => by
    obtain ⟨t, hk, ht⟩ := evalK_out hf h
    exact goes_value (v := a.eval x) (by simp [execOp, ho, hc, asBool]) hm ht hk
  have no : a.eval c = .bool false → (evalK fr y fun x => k x hp nx) → Goes P w0 F0 G o a k := fun hc h => by
    obtain ⟨t, hk, ht⟩ := evalK_out hf h
    exact goes_value (v := a.eval y) (by simp [execOp, ho, hc, asBool]) hm ht hk
  split at h
  · exact yes ht h
  · exact no ht h
  · rename_i b
    cases b with
    | true => exact yes ht (h.1 rfl)
    | false => exact no ht (h.2 rfl)
  · exact h.elim

theorem ok_nilCheck {x : Operand} (ho : o.op = .nilCheck x) (hm : Mdl w0 F0 G hp nx) (hf : frOk G fr a.tmps) (h : denOp E (.nilCheck x) fr hp nx k) : Goes P w0 F0 G o a k := by
  obtain ⟨t, h, ht⟩ := evalK_out hf h
  split at h
  · obtain ⟨b, h1, h2, h3⟩ := id ht
    exact goes_value (v := a.eval x) (by simp [execOp, ho, h3]) hm ht h
  · obtain ⟨h0, b, oo, css, h1, _⟩ := id ht
    exact goes_value (v := a.eval x) (by simp [execOp, ho, h1]) hm ht h
  · exact h.elim

theorem placeK_out {kk : TypeId → Nat → Prop} : ∀ {fs : List (TypeId × Nat)} {f : Nat}, placeK fs f kk → ∃ t d, fs[f]? = some (t, d) ∧ kk t d
  | [], _, h => by simp [placeK] at h
  | (t, d) :: _, 0, h => ⟨t, d, rfl, h⟩
  | _ :: fs, f + 1, h => by simpa using placeK_out (fs := fs) (f := f) h

theorem ok_fieldAddr (hE : EnvOk P E) {t : TypeId} {x : Operand} {f : Nat} (ho : o.op = .fieldAddr t x f) (hm : Mdl w0 F0 G hp nx) (hf : frOk G fr a.tmps) (h0 : denOp E (.fieldAddr t x f) fr hp nx k) : Goes P w0 F0 G o a k := by
  obtain ⟨tx, h1, ht⟩ := evalK_out hf h0
  obtain ⟨y, hy, h2⟩ := tyK_out h1
  have hty := hE.ty t y hy
  have hund := hty.und
  split at h2
  · next fs hk =>
    rw [hk] at hund
    obtain ⟨fields, hu, hfs, hne, _⟩ := hund
    obtain ⟨ft, d, hd, h3⟩ := placeK_out h2
    have hfield : ∃ fd, fields[f]? = some fd ∧ fd.type = ft ∧ fd.offset = d := by
      rw [← hfs, List.getElem?_map] at hd
      cases hq : fields.toList[f]? with
      | none => simp [hq] at hd
      | some fd => simp [hq] at hd; exact ⟨fd, by simpa using hq, hd.1, hd.2⟩
    obtain ⟨fd, hfd, rfl, rfl⟩ := hfield
    obtain ⟨_, i, hi, hi0⟩ := hne fd (by simpa using Array.mem_of_getElem? hfd)
    have run : ∀ b oo, a.eval x = .pointer (some ⟨b, oo, none⟩) → (execOp a.eval o).run P G.w = .ok (.value (.pointer (some ⟨b, oo + fd.offset, none⟩))) G.w := fun b oo he => by
      simp [execOp, ho, he, Instr.fieldAt, run_underlying hu, hfd, Instr.sureAddr, fieldPlace, sizeOf, typeInfo, hi, hi0, Addr.add_mid]
    split at h3
    · next r p =>
      obtain ⟨b, k1, k2, k3⟩ := tVal_of_v ht
      refine goes_value (run _ _ k3) hm (x := .v (.ptr r (appPath p (.f f fd.offset)))) ⟨b, k1, k2, ?_⟩ h3
      rw [appPath_eq, poff_app]
      simp [poff]
    · next e xs i p =>
      obtain ⟨k0, b, oo, css, k1, k2⟩ := tVal_of_v ht
      refine goes_value (run _ _ k1) hm (x := .v (.rp e xs i (appPath p (.f f fd.offset)))) ⟨k0, b, oo, css, ?_, k2⟩ h3
      rw [appPath_eq, poff_app]
      simp [poff, Nat.add_assoc]
    · exact h3.elim
  · exact h2.elim

theorem run_part {t : TypeId} {d : Nat} {i : TypeInfo} {cs : List Value} {x : T} (hi : P.info? t = some i) (hu : ∃ u, P.underlying t = some u) (hc : tCells G x ((cs.drop d).take x.size)) (hl : d + x.size ≤ cs.length) (hs : i.size = x.size)
    (hsh : ∀ u, P.underlying t = some u → (u.isRow = true ↔ ∀ y, x ≠ .v y)) (hnt : ∀ y, x ≠ .tup y) : ∃ v, (part t ⟨cs⟩ d).run P G.w = .ok v G.w ∧ tVal G x v := by
  obtain ⟨u, hu⟩ := hu
  have hsh := hsh u hu
  by_cases hr : u.isRow = true
  · have hagg : (isAgg t).run P G.w = .ok true G.w := by
      unfold isAgg
      rw [Sem.run_bind, run_underlying hu G.w]
      cases u <;> simp_all
    have hx := hsh.1 hr
    refine ⟨.agg ⟨(cs.drop d).take x.size⟩, ?_, ?_⟩
    · simp only [part, Sem.run_bind, hagg, Result.andThen_ok, sizeOf, typeInfo, run_program, hi, hs, if_true, Sem.run_pure]
      congr 2
      apply Array.ext'
      simp [List.extract_eq_take_drop]
    · cases x with
      | v y => exact (hx y rfl).elim
      | tup y => exact (hnt y rfl).elim
      | nil => exact ⟨_, rfl, hc⟩
      | cons _ _ => exact ⟨_, rfl, hc⟩
      | arr _ _ _ => exact ⟨_, rfl, hc⟩
  · have hagg : (isAgg t).run P G.w = .ok false G.w := by
      unfold isAgg
      rw [Sem.run_bind, run_underlying hu G.w]
      cases u <;> simp_all
    have hx : ∃ y, x = .v y := by
      cases x with
      | v y => exact ⟨y, rfl⟩
      | _ => exact (hr (hsh.2 (by simp))).elim
    obtain ⟨y, rfl⟩ := hx
    obtain ⟨c, he, _, hv⟩ := hc
    refine ⟨c, ?_, hv⟩
    have : cs[d]? = some c := by
      have h1 := congrArg (fun l => l[0]?) he
      simp only [T.size, List.getElem?_take, List.getElem?_drop] at h1
      simpa using h1
    simp [part, hagg, this]

theorem ok_load (hE : EnvOk P E) {t : TypeId} {x : Operand} (ho : o.op = .load t x) (hm : Mdl w0 F0 G hp nx) (hf : frOk G fr a.tmps) (h0 : denOp E (.load t x) fr hp nx k) : Goes P w0 F0 G o a k := by
  obtain ⟨tx, h1, ht⟩ := evalK_out hf h0
  obtain ⟨y, hy, h2⟩ := tyK_out h1
  have hty := hE.ty t y hy
  split at h2
  · next r p =>
    obtain ⟨c, hc, h3⟩ := lookK_out h2
    obtain ⟨x', h4, hx⟩ := tgetK_out h3
    obtain ⟨b, hr, hck⟩ := hm.chunk r c hc
    obtain ⟨b', k1, k2, k3⟩ := tVal_of_v ht
    obtain rfl : b = b' := Option.some.inj (hr.symm.trans k1)
    obtain ⟨cs, hcs, hat⟩ := tree_cells hck
    obtain ⟨m1, m2⟩ := hx G cs hcs
    split at h4
    · next hs =>
      by_cases hne : cs = []
      · subst hne
        simp only [List.length_nil] at m2
        obtain ⟨v, hv1, hv2, hv3⟩ := run_load_t (b := b.blk) (o := poff p) hty hs h4 (cs := []) (by simpa using m1) (fun j v hv => by simp at hv)
        exact goes_value (v := v) (by simp [execOp, ho, k3, hv1]) hm hv2 hv3
      · have h5 := ((hat hne).2.drop (poff p) x'.size)
        rw [Nat.zero_add] at h5
        obtain ⟨v, hv1, hv2, hv3⟩ := run_load_t hty hs h4 m1 h5
        exact goes_value (v := v) (by simp [execOp, ho, k3, hv1]) hm hv2 hv3
    · exact h4.elim
  · next e xs i p =>
    obtain ⟨x', h4, hx⟩ := tgetK_out h2
    obtain ⟨k0, b, oo, css, k1, _, _, hat, hl⟩ := tVal_of_v ht
    obtain ⟨m1, m2⟩ := enc_getD hl k0
    obtain ⟨m3, m4⟩ := hx G _ m1
    split at h4
    · next hs =>
      have h5 := ((hat.drop (i * e.sz) e.sz).drop (poff p) x'.size)
      obtain ⟨v, hv1, hv2, hv3⟩ := run_load_t hty hs h4 m3 h5
      exact goes_value (v := v) (by simp [execOp, ho, k1, hv1]) hm hv2 hv3
    · exact h4.elim
  · exact h2.elim

/-! Numbers. -/
theorem run_cmp {op : BinOp} {t : TypeId} {ik : IntKind} {x y : Int} {kk : V → Prop} (h : cmpI op x y kk) : ∃ v r, (binOp op t (.int ik x) (.int ik y)).run P G.w = .ok v G.w ∧ vOk G r v ∧ kk r := by
  cases op <;> simp only [cmpI] at h
  case eql => exact ⟨.bool (x == y), .bool (decide (x = y)), by simp [binOp, Op.intCmp], by simp [vOk]; rfl, h⟩
  case neq => exact ⟨.bool (x != y), .bool (!decide (x = y)), by simp [binOp, Op.intCmp], by simp [vOk]; rfl, h⟩
  case lss => exact ⟨.bool (decide (x < y)), .bool (decide (x < y)), by simp [binOp, Op.intCmp], rfl, h⟩
  case leq => exact ⟨.bool (decide (x ≤ y)), .bool (decide (x ≤ y)), by simp [binOp, Op.intCmp], rfl, h⟩
  case gtr => exact ⟨.bool (decide (y < x)), .bool (decide (y < x)), by simp [binOp, Op.intCmp], rfl, h⟩
  case geq => exact ⟨.bool (decide (y ≤ x)), .bool (decide (y ≤ x)), by simp [binOp, Op.intCmp], rfl, h⟩

theorem run_binI {op : BinOp} {t : TypeId} {ik : IntKind} {x y : Int} {kk : V → Prop} (h : binI op ik x y kk) : ∃ v r, (binOp op t (.int ik x) (.int ik y)).run P G.w = .ok v G.w ∧ vOk G r v ∧ kk r := by
  have one : ∀ n, kk (.int ik n) → (binOp op t (.int ik x) (.int ik y)).run P G.w = .ok (.int ik n) G.w → ∃ v r, (binOp op t (.int ik x) (.int ik y)).run P G.w = .ok v G.w ∧ vOk G r v ∧ kk r :=
    fun n hk hr => ⟨_, .int ik n, hr, rfl, hk⟩
  cases op <;> simp only [binI] at h
  case quo => exact one _ h.2 (by simp [binOp, Op.intDiv, h.1])
  case rem => exact one _ h.2 (by simp [binOp, Op.intDiv, h.1])
  case shl => simp [cmpI] at h
  case shr => simp [cmpI] at h
  case add => exact one _ h (by simp [binOp, Op.intArith])
  case sub => exact one _ h (by simp [binOp, Op.intArith])
  case mul => exact one _ h (by simp [binOp, Op.intArith])
  case and => exact one _ h (by simp [binOp, Op.intBits, bits])
  case or => exact one _ h (by simp [binOp, Op.intBits, bits])
  case xor => exact one _ h (by simp [binOp, Op.intBits, bits])
  case andNot => exact one _ h (by simp [binOp, Op.intBits, bits])
  all_goals exact run_cmp (P := P) (G := G) h

theorem run_shI {op : BinOp} {t : TypeId} {ik jk : IntKind} {x y : Int} {kk : V → Prop} (h : shI op ik x y kk) : ∃ v r, (binOp op t (.int ik x) (.int jk y)).run P G.w = .ok v G.w ∧ vOk G r v ∧ kk r := by
  have one : ∀ n, kk (.int ik n) → (binOp op t (.int ik x) (.int jk y)).run P G.w = .ok (.int ik n) G.w → ∃ v r, (binOp op t (.int ik x) (.int jk y)).run P G.w = .ok v G.w ∧ vOk G r v ∧ kk r :=
    fun n hk hr => ⟨_, .int ik n, hr, rfl, hk⟩
  cases op <;> simp only [shI] at h
  · exact one _ h.2 (by simp [binOp, Op.shift, show ¬ y < 0 by omega])
  · exact one _ h.2 (by simp [binOp, Op.shift, show ¬ y < 0 by omega])


/-! Comparisons. -/
theorem boolV_ok {x : V} {b : Bool} {v : Value} (h : boolV x = some b) (hv : vOk G x v) : v = .bool b := by
  cases x <;> simp only [boolV, Option.some.injEq] at h <;> first | (cases h; done) | (subst h; exact hv)

theorem notV_ok {x : V} {b : Bool} (h : vOk G x (.bool b)) (hx : x ≠ .any) : vOk G (notV x) (.bool (!b)) := by
  cases x <;> simp_all [vOk, notV, cellsOf]

theorem eqBool_ok {x y : V} {b c : Bool} (hx : boolV x = some b) (hy : boolV y = some c) : vOk G (eqBool x y) (.bool (b == c)) ∧ eqBool x y ≠ .any := by
  cases x <;> simp only [boolV, Option.some.injEq] at hx <;> (try cases hx) <;> cases y <;> simp only [boolV, Option.some.injEq] at hy <;> (try cases hy) <;> simp [eqBool, vOk]
  case bool.refl.bool.refl => cases b <;> cases c <;> rfl

theorem andV_ok {x y : V} {b c : Bool} (hx : vOk G x (.bool b)) (hx' : x ≠ .any) (hy : vOk G y (.bool c)) (hy' : y ≠ .any) : vOk G (andV x y) (.bool (b && c)) ∧ andV x y ≠ .any := by
  cases x <;> cases y <;> simp_all [vOk, andV, cellsOf]

end
end Go.J
