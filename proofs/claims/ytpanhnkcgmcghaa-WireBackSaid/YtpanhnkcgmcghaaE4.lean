/-
  THE ENGINE, part 4: what one operation does (values, addresses, loads, stores, new blocks).
-/
import Derived.Test.YtpanhnkcgmcghaaE3
import Derived.Great.BuildSlice
set_option linter.unusedSimpArgs false
set_option linter.unusedVariables false
set_option linter.unusedSectionVars false

namespace Go.J

/-! What is asked of the tables. -/
structure TyOk (P : Program) (t : TypeId) (y : TyI) : Prop where
  info : ∃ i, P.info? t = some i ∧ i.size = y.size ∧ i.bytes = y.bytes ∧ ∃ z, i.zero = some z ∧ ∀ G, tVal G y.zero.toT z ∧ tCells G y.zero.toT z.cells.toList
  und : match y.k with
    | .int k => P.underlying t = some (.int k)
    | .bool => P.underlying t = some .bool
    | .str => P.underlying t = some .string
    | .ptr e => P.underlying t = some (.pointer e)
    | .sl e => P.underlying t = some (.slice e)
    | .ar n e => P.underlying t = some (.array n e)
    | .st fs => ∃ fields : Array Field, P.underlying t = some (.struct fields) ∧ fields.toList.map (fun f => (f.type, f.offset)) = fs ∧ (∀ f ∈ fields.toList, f.name ≠ "_" ∧ ∃ i, P.info? f.type = some i ∧ i.size ≠ 0) ∧ P.stoodInHeld t = false ∧
        (∀ (i : Nat) (tt : TypeId) (d : Nat), fs[i]? = some (tt, d) → ∃ c inf, fieldK i d y.zero.toT (fun u => u = c) ∧ P.info? tt = some inf ∧ inf.size = c.size)
    | .fn => ∃ a b c, P.underlying t = some (.func a b c)
    | .other => ∃ d, P.underlying t = some d ∧ d.isRow = false
  kid : ∀ fs, y.k = .st fs → kids y.zero.toT = fs.length
  arr : ∀ n e e' m, y.k = .ar n e → y.zero = .arr e' m → ∃ ie, P.info? e = some ie ∧ ie.size = e'.sz
  eqg : y.eqok = true → P.eqGuardType P.depth t = false
  el : ∀ e, y.el = some e → e.sz = y.size ∧ 0 < y.size ∧ ∃ i z, P.info? t = some i ∧ i.zero = some z ∧ ∀ im w, cellsOf im w e e.dflt z.cells.toList

/-- A call's contract, as the engine wants it. -/
def CallOk (P : Program) (f : FuncId) (g : List T → Hp → Nat → (T → Hp → Nat → Prop) → Prop) : Prop :=
  ∀ (w0 : World) (F0 : Base) (G : Cx) (hp : Hp) (nx : Nat) (args : List T) (vs : List Value) (k : T → Hp → Nat → Prop), Mdl w0 F0 G hp nx → frOk G args ⟨vs⟩ → g args hp nx k →
    Calls P f ⟨vs⟩ G.w fun e w' => ∃ G' x v hp' nx', e = .returned v ∧ G'.w = w' ∧ Ext G G' ∧ Mdl w0 F0 G' hp' nx' ∧ tVal G' x v ∧ k x hp' nx'

/-- A function with a text of its own. -/
def FnIs (P : Program) (f : FuncId) : Prop := ∃ fn, P.funcs[f]? = some fn ∧ (fn.name == "runtime.NumGoroutine") = false ∧ fn.body.isNone = false

structure EnvOk (P : Program) (E : Env) : Prop where
  fn : ∀ f g, (f, g) ∈ E.call → FnIs P f
  ty : ∀ t i, (t, i) ∈ E.ty → TyOk P t i
  call : ∀ f g, (f, g) ∈ E.call → CallOk P f g

/-- Whatever the operation leaves, the rest is met. -/
def Goes (P : Program) (w0 : World) (F0 : Base) (G : Cx) (o : Oper) (a : Act) (k : T → Hp → Nat → Prop) : Prop :=
  ∀ (next : Act → World → Prop) (Q : Exit → Act → World → Prop),
    (∀ G' x v hp' nx', Ext G G' → Mdl w0 F0 G' hp' nx' → tVal G' x v → k x hp' nx' → next (a.put o.dst v) G'.w) → o.wp P a G.w next Q

section
variable {P : Program} {E : Env} {w0 : World} {F0 : Base} {G : Cx} {hp : Hp} {nx : Nat} {o : Oper} {a : Act} {fr : List T} {k : T → Hp → Nat → Prop}

theorem goes_value {v : Value} {x : T} (h : (execOp a.eval o).run P G.w = .ok (.value v) G.w) (hm : Mdl w0 F0 G hp nx) (hv : tVal G x v) (hk : k x hp nx) : Goes P w0 F0 G o a k := by
  intro next Q hn
  unfold Oper.wp
  rw [h]
  exact hn G x v hp nx (Ext.refl G) hm hv hk

theorem goes_world {v : Value} {x : T} {G' : Cx} {hp' : Hp} {nx' : Nat} (h : (execOp a.eval o).run P G.w = .ok (.value v) G'.w) (he : Ext G G') (hm : Mdl w0 F0 G' hp' nx') (hv : tVal G' x v) (hk : k x hp' nx') : Goes P w0 F0 G o a k := by
  intro next Q hn
  unfold Oper.wp
  rw [h]
  exact hn G' x v hp' nx' he hm hv hk

theorem goes_skip {G' : Cx} {hp' : Hp} {nx' : Nat} (h : (execOp a.eval o).run P G.w = .ok .skip G'.w) (he : Ext G G') (hm : Mdl w0 F0 G' hp' nx') (hk : k (.v .any) hp' nx') : Goes P w0 F0 G o a k := by
  intro next Q hn
  unfold Oper.wp
  rw [h]
  exact hn G' (.v .any) undef hp' nx' he hm trivial hk

theorem constT_ok (c : Value) : tVal G (constT c) c := by
  unfold constT
  split <;> first | rfl | trivial

theorem evalK_out {x : Operand} {k : T → Prop} (hf : frOk G fr a.tmps) (h : evalK fr x k) : ∃ t, k t ∧ tVal G t (a.eval x) := by
  cases x with
  | tmp i =>
    obtain ⟨t, ht, hk⟩ := lgetK_out h
    obtain ⟨v, hv, hvt⟩ := hf.2 i t ht
    refine ⟨t, hk, ?_⟩
    have : a.eval (.tmp i) = v := by simp [Act.eval, hv]
    rw [this]
    exact hvt
  | const c => exact ⟨_, h, constT_ok c⟩
  | global g => exact h.elim
  | func f => exact ⟨_, h, rfl, rfl⟩

theorem evalsK_out (hf : frOk G fr a.tmps) : ∀ {xs : List Operand} {k : List T → Prop}, evalsK fr xs k → ∃ ts, k ts ∧ frOk G ts ⟨xs.map a.eval⟩
  | [], k, h => ⟨[], h, by simp, fun i t ht => by simp at ht⟩
  | x :: xs, k, h => by
    obtain ⟨t, h1, ht⟩ := evalK_out hf h
    obtain ⟨ts, h2, hts⟩ := evalsK_out hf (k := fun xs => k (t :: xs)) h1
    refine ⟨t :: ts, h2, by simpa using hts.1, fun i u hu => ?_⟩
    cases i with
    | zero => simp at hu; subst hu; exact ⟨_, by simp, ht⟩
    | succ i => obtain ⟨v, e, hv⟩ := hts.2 i u (by simpa using hu); exact ⟨v, by simpa using e, hv⟩

/-! Inside a value. -/
theorem fieldK_out {k : T → Prop} : ∀ {i o : Nat} {t : T}, fieldK i o t k → ∃ t', k t' ∧ (∀ G cs, tCells G t cs → tCells G t' ((cs.drop o).take t'.size) ∧ o + t'.size ≤ cs.length)
  | 0, 0, .cons t ts, h => ⟨t, h, fun G cs ⟨c1, c2, e, h1, _⟩ => by
      subst e
      have := tCells.length h1
      simp only [List.drop_zero]
      rw [← this, List.take_left]
      exact ⟨h1, by simp⟩⟩
  | 0, _ + 1, .cons _ _, h => by simp [fieldK] at h
  | i + 1, o, .cons t ts, h => by
    unfold fieldK at h
    split at h
    · rename_i hb
      have hle := Nat.le_of_ble_eq_true hb
      obtain ⟨t', hk, h2⟩ := fieldK_out h
      refine ⟨t', hk, fun G cs ⟨c1, c2, e, h1, h3⟩ => ?_⟩
      subst e
      have hl := tCells.length h1
      obtain ⟨k1, k2⟩ := h2 G c2 h3
      have : (c1 ++ c2).drop o = c2.drop (o - t.size) := by
        rw [List.drop_append, List.drop_eq_nil_of_le (by omega), hl]
        simp
      rw [this]
      exact ⟨k1, by simp; omega⟩
    · exact h.elim
  | 0, _, .v _, h => by simp [fieldK] at h
  | 0, _, .nil, h => by simp [fieldK] at h
  | 0, _, .arr _ _ _, h => by simp [fieldK] at h
  | 0, _, .tup _, h => by simp [fieldK] at h
  | _ + 1, _, .v _, h => by simp [fieldK] at h
  | _ + 1, _, .nil, h => by simp [fieldK] at h
  | _ + 1, _, .arr _ _ _, h => by simp [fieldK] at h
  | _ + 1, _, .tup _, h => by simp [fieldK] at h

theorem enc_getD {G : Cx} {e : El} {xs : List e.ty} {cs : List Value} {i : Nat} (h : listOf (cellsOf G.im G.w e) xs cs) (hi : i < xs.length) :
    tCells G (e.enc (xs.getD i e.dflt)) ((cs.drop (i * e.sz)).take e.sz) ∧ i * e.sz + e.sz ≤ cs.length := by
  have hx : xs[i]? = some (xs.getD i e.dflt) := by simp [List.getD, hi]
  refine ⟨(tCells_enc _ _ _).2 (listOf_get (fun x cs => cellsOf.length e x cs) h hx), ?_⟩
  rw [listOf.length (fun x cs => cellsOf.length e x cs) xs cs h, ← Nat.succ_mul]
  exact Nat.mul_le_mul_right _ hi

theorem tgetK_out {k : T → Prop} : ∀ {p : List Stp} {t : T}, tgetK p t k → ∃ t', k t' ∧ (∀ G cs, tCells G t cs → tCells G t' ((cs.drop (poff p)).take t'.size) ∧ poff p + t'.size ≤ cs.length)
  | [], t, h => ⟨t, h, fun G cs hc => by
      have := tCells.length hc
      simp only [poff, List.drop_zero]
      rw [← this, List.take_length]
      exact ⟨hc, by simp⟩⟩
  | .f i o :: p, t, h => by
    obtain ⟨t1, h1, k1⟩ := fieldK_out (show fieldK i o t fun t => tgetK p t k from h)
    obtain ⟨t2, h2, k2⟩ := tgetK_out h1
    refine ⟨t2, h2, fun G cs hc => ?_⟩
    obtain ⟨m1, m2⟩ := k1 G cs hc
    obtain ⟨m3, m4⟩ := k2 G _ m1
    rw [List.drop_take, List.drop_drop, List.take_take, List.length_take, List.length_drop] at *
    simp only [poff]
    rw [Nat.min_eq_left (by omega)] at m3
    exact ⟨m3, by omega⟩
  | .x i sz :: p, .arr e xs n, h => by
    unfold tgetK at h
    split at h
    · rename_i hb
      have hsz := nat_beq_eq hb
      obtain ⟨hi, h1⟩ := h
      obtain ⟨t2, h2, k2⟩ := tgetK_out h1
      refine ⟨t2, h2, fun G cs hc => ?_⟩
      obtain ⟨m1, m2⟩ := enc_getD hc.2 hi
      obtain ⟨m3, m4⟩ := k2 G _ m1
      rw [List.drop_take, List.drop_drop, List.take_take, List.length_take, List.length_drop] at *
      simp only [poff, hsz]
      rw [Nat.min_eq_left (by omega)] at m3
      exact ⟨m3, by omega⟩
    · exact h.elim
  | .x i sz :: p, .cons t ts, h => by
    obtain ⟨t1, h1, k1⟩ := fieldK_out (show fieldK i (i * sz) (.cons t ts) fun t => tgetK p t k from h)
    obtain ⟨t2, h2, k2⟩ := tgetK_out h1
    refine ⟨t2, h2, fun G cs hc => ?_⟩
    obtain ⟨m1, m2⟩ := k1 G cs hc
    obtain ⟨m3, m4⟩ := k2 G _ m1
    rw [List.drop_take, List.drop_drop, List.take_take, List.length_take, List.length_drop] at *
    simp only [poff]
    rw [Nat.min_eq_left (by omega)] at m3
    exact ⟨m3, by omega⟩
  | .x _ _ :: _, .v _, h => by simp [tgetK] at h
  | .x _ _ :: _, .nil, h => by simp [tgetK] at h
  | .x _ _ :: _, .tup _, h => by simp [tgetK] at h

/-- Where a chunk's tree lies. -/
theorem tree_cells {c : Chunk} {b : B} (h : chunkOk G c b) : ∃ cs, tCells G c.tree cs ∧ (cs ≠ [] → b.nil = false ∧ cellsAt G.w b.blk 0 cs) := by
  cases c with
  | own t =>
    obtain ⟨h1, cs, ty, h2, h3⟩ := h
    refine ⟨cs, h3, fun _ => ⟨h1, fun j v hv => ?_⟩⟩
    rw [Nat.zero_add, cell_of_row G.w b.blk j _ ty (0, 0) h2]
    simpa using hv
  | row ty e xs =>
    obtain ⟨h1, h0, css, h2, h3⟩ := h
    refine ⟨css, ⟨rfl, h3⟩, fun hne => ?_⟩
    have hl := listOf.length (fun x cs => cellsOf.length e x cs) xs css h3
    rcases h2.2 with ⟨_, h4⟩ | ⟨g, cap, cur, e1, _, e2, e3, e4, e5, e6⟩
    · rw [h4] at hl
      exact (hne (List.eq_nil_of_length_eq_zero (by simpa using hl))).elim
    · have hn : b.nil = false := by
        cases hb : b.nil with
        | false => rfl
        | true => simp [B.val, hb] at e1
      have hg : b.blk = g := by simp [B.val, hn] at e1; exact e1.1
      refine ⟨hn, fun j v hv => ?_⟩
      rw [Nat.zero_add, hg, cell_of_row G.w g j _ ty (0, 0) e2]
      rw [← e6, List.getElem?_take] at hv
      split at hv
      · simpa using hv
      · cases hv
  | fz ty e xs =>
    obtain ⟨h1, h2, h3, h4⟩ := h
    by_cases h0 : 0 < b.len
    · obtain ⟨k1, k2, k3, css, k4, k5⟩ := h4 h0
      exact ⟨css, ⟨rfl, k5⟩, fun _ => ⟨k1, k4⟩⟩
    · have : xs = [] := List.eq_nil_of_length_eq_zero (by omega)
      subst this
      exact ⟨[], ⟨rfl, rfl⟩, fun hne => (hne rfl).elim⟩

theorem cellsAt.drop {w : World} {b o : Nat} {cs : List Value} (h : cellsAt w b o cs) (n m : Nat) : cellsAt w b (o + n) ((cs.drop n).take m) := by
  intro j v hv
  rw [List.getElem?_take] at hv
  split at hv
  · rw [List.getElem?_drop] at hv
    have := h _ _ hv
    rwa [← Nat.add_assoc] at this
  · cases hv

theorem tVal_of_v {x : V} {v : Value} (h : tVal G (.v x) v) : vOk G x v := h

theorem ty_size {t : TypeId} {y : TyI} (h : TyOk P t y) : (P.info? t).map (·.size) = some y.size := by
  obtain ⟨i, h1, h2, _⟩ := h.info
  simp [h1, h2]

/-- A part of memory that holds a value is read as it. -/
theorem run_load_t {t : TypeId} {y : TyI} {x : T} {b o : Nat} {cs : List Value} {kk : T → Prop} (ht : TyOk P t y) (hs : Nat.beq x.size y.size = true) (hsh : shapeK y.k x kk) (hc : tCells G x cs) (hat : cellsAt G.w b o cs) :
    ∃ v, (Instr.loadAt t (.pointer (some ⟨b, o, none⟩))).run P G.w = .ok v G.w ∧ tVal G x v ∧ kk x := by
  have hsz := nat_beq_eq hs
  have hlen := tCells.length hc
  have hagg : ∀ (d : TypeDesc), P.underlying t = some d → d.isRow = true → (∀ v, tVal G x v ↔ ∃ cs : List Value, v = .agg ⟨cs⟩ ∧ tCells G x cs) →
      ∃ v, (Instr.loadAt t (.pointer (some ⟨b, o, none⟩))).run P G.w = .ok v G.w ∧ tVal G x v := by
    intro d hu hd hx
    exact ⟨_, run_loadAt_mid G.w b o t cs d hat hu hd (by rw [ty_size ht, hlen, hsz]), (hx _).2 ⟨cs, rfl, hc⟩⟩
  have hone : ∀ (d : TypeDesc), P.underlying t = some d → d.isRow = false → ∀ y', x = .v y' →
      ∃ v, (Instr.loadAt t (.pointer (some ⟨b, o, none⟩))).run P G.w = .ok v G.w ∧ tVal G x v := by
    intro d hu hd y' hx
    subst hx
    obtain ⟨c, rfl, _, hv⟩ := hc
    have h0 := hat 0 c rfl
    have hi : (isAgg t).run P G.w = .ok false G.w := by
      unfold isAgg
      rw [Sem.run_bind, run_underlying hu G.w]
      cases d <;> simp_all
    refine ⟨c, ?_, hv⟩
    simp only [Nat.add_zero] at h0
    simp [Instr.loadAt, Instr.sureAddr, loadVar, hi, h0]
  have hund := ht.und
  unfold shapeK at hsh
  cases hk : y.k <;> rw [hk] at hund hsh <;> simp only at hund hsh
  case st fs =>
    obtain ⟨fields, hu, _⟩ := hund
    cases x <;> simp only at hsh
    case nil => obtain ⟨v, h1, h2⟩ := hagg _ hu rfl (fun v => Iff.rfl); exact ⟨v, h1, h2, hsh⟩
    case cons => obtain ⟨v, h1, h2⟩ := hagg _ hu rfl (fun v => Iff.rfl); exact ⟨v, h1, h2, hsh⟩
  case ar n e =>
    cases x <;> simp only at hsh
    case nil => obtain ⟨v, h1, h2⟩ := hagg _ hund rfl (fun v => Iff.rfl); exact ⟨v, h1, h2, hsh⟩
    case cons => obtain ⟨v, h1, h2⟩ := hagg _ hund rfl (fun v => Iff.rfl); exact ⟨v, h1, h2, hsh⟩
    case arr => obtain ⟨v, h1, h2⟩ := hagg _ hund rfl (fun v => Iff.rfl); exact ⟨v, h1, h2, hsh⟩
  case fn =>
    obtain ⟨_, _, _, hu⟩ := hund
    cases x <;> simp only at hsh
    case v y' => obtain ⟨v, h1, h2⟩ := hone _ hu rfl _ rfl; exact ⟨v, h1, h2, hsh⟩
  case other =>
    obtain ⟨d, hu, hd⟩ := hund
    cases x <;> simp only at hsh
    case v y' => obtain ⟨v, h1, h2⟩ := hone _ hu hd _ rfl; exact ⟨v, h1, h2, hsh⟩
  all_goals
    cases x <;> simp only at hsh
    case v y' => obtain ⟨v, h1, h2⟩ := hone _ hund rfl _ rfl; exact ⟨v, h1, h2, hsh⟩

end
end Go.J
