/-
  THE ENGINE, part 11: structs and arrays that are written out; made slices; the length, the least, the greatest; conversions; calls.
-/
import Derived.Test.YtpanhnkcgmcghaaE10
import Derived.Laws.BytesString
set_option linter.unusedSimpArgs false
set_option linter.unusedVariables false
set_option linter.unusedSectionVars false

namespace Go.J
open Go.RowKit

section
variable {P : Program} {E : Env} {w0 : World} {F0 : Base} {G : Cx} {hp : Hp} {nx : Nat} {o : Oper} {a : Act} {fr : List T} {k : T → Hp → Nat → Prop}

theorem goes_v {v : Value} {x : V} (hk : k (.v x) hp nx) (hm : Mdl w0 F0 G hp nx) (hv : vOk G x v) (h : (execOp a.eval o).run P G.w = .ok (.value v) G.w) : Goes P w0 F0 G o a k := goes_value h hm (x := .v x) hv hk

/-- A part of another size is none. -/
theorem setChk_out {new : T} : ∀ {i : Nat} {t : T} {kk : T → Prop}, setFieldChkK i t new kk → ∃ t', kk t' ∧ kids t' = kids t ∧ i < kids t ∧ (∃ u us, t' = .cons u us) ∧
    (∀ j d c, fieldK j d t (fun u => u = c) → ∃ c', fieldK j d t' (fun u => u = c') ∧ c'.size = c.size) ∧
    (∀ d c, fieldK i d t (fun u => u = c) → c.size = new.size ∧ ∀ G cs ds, tCells G t cs → tCells G new ds → tCells G t' (cs.take d ++ ds ++ cs.drop (d + ds.length)))
  | 0, .cons t ts, kk, h => by
    unfold setFieldChkK at h
    split at h
    · next hs =>
      have hs := nat_beq_eq hs
      refine ⟨_, h, rfl, by simp [kids], ⟨_, _, rfl⟩, ?_, ?_⟩
      · intro j d c hc
        cases j with
        | zero =>
          cases d with
          | zero => exact ⟨new, rfl, by have : t = c := hc; rw [← this, hs]⟩
          | succ d => simp [fieldK] at hc
        | succ j =>
          unfold fieldK at hc ⊢
          rw [← hs]
          split at hc
          · next hb => exact ⟨c, hc, rfl⟩
          · exact hc.elim
      · intro d c hc
        cases d with
        | zero =>
          have hc : t = c := hc
          subst hc
          obtain ⟨t', e1, _, e2⟩ := setFieldK_out (i := 0) (o := 0) (t := .cons t ts) (kk := fun u => u = .cons new ts) (t1 := t) rfl hs (show T.cons new ts = T.cons new ts from rfl)
          subst e1
          exact ⟨hs, e2⟩
        | succ d => simp [fieldK] at hc
    · exact h.elim
  | i + 1, .cons t ts, kk, h => by
    obtain ⟨t', hk, h1, h2, _, h3, h4⟩ := setChk_out (i := i) (t := ts) (kk := fun ts => kk (.cons t ts)) h
    refine ⟨_, hk, by simp [kids, h1], by simp only [kids]; omega, ⟨_, _, rfl⟩, ?_, ?_⟩
    · intro j d c hc
      cases j with
      | zero =>
        cases d with
        | zero => exact ⟨t, rfl, by have : t = c := hc; rw [this]⟩
        | succ d => simp [fieldK] at hc
      | succ j =>
        unfold fieldK at hc
        split at hc
        · next hb =>
          obtain ⟨c', e1, e2⟩ := h3 _ _ _ hc
          refine ⟨c', ?_, e2⟩
          unfold fieldK
          rw [hb]
          exact e1
        · exact hc.elim
    · intro d c hc
      unfold fieldK at hc
      split at hc
      · next hb =>
        have hle := Nat.le_of_ble_eq_true hb
        obtain ⟨e1, e2⟩ := h4 _ _ hc
        refine ⟨e1, fun G cs ds ⟨c1, c2, e, k1, k2⟩ hd => ?_⟩
        subst e
        have l1 := tCells.length k1
        refine ⟨c1, _, ?_, k1, e2 G c2 ds k2 hd⟩
        rw [List.take_append, List.take_of_length_le (by omega), List.drop_append, List.drop_eq_nil_of_le (by omega), l1, show d + ds.length - t.size = d - t.size + ds.length by omega]
        simp
      · exact hc.elim
  | 0, .v _, _, h => by simp [setFieldChkK] at h
  | 0, .nil, _, h => by simp [setFieldChkK] at h
  | 0, .arr _ _ _, _, h => by simp [setFieldChkK] at h
  | 0, .tup _, _, h => by simp [setFieldChkK] at h
  | _ + 1, .v _, _, h => by simp [setFieldChkK] at h
  | _ + 1, .nil, _, h => by simp [setFieldChkK] at h
  | _ + 1, .arr _ _ _, _, h => by simp [setFieldChkK] at h
  | _ + 1, .tup _, _, h => by simp [setFieldChkK] at h

theorem fill_struct {places : Nat → Option (Nat × Nat)} : ∀ {ps : List (Nat × T)} {vs : List (Nat × Value)} {t : T} {cells : Array Value} {kk : T → Prop}, fillSK t ps kk → partsOk G ps vs → tCells G t cells.toList → (t = .nil ∨ ∃ u us, t = .cons u us) →
    (∀ i, i < kids t → ∃ d s c, places i = some (d, s) ∧ fieldK i d t (fun u => u = c) ∧ c.size = s) → ∃ t' cells', Instr.fill places cells vs = some cells' ∧ tCells G t' cells'.toList ∧ kk t' ∧ (t' = .nil ∨ ∃ u us, t' = .cons u us)
  | [], vs, t, cells, kk, h, hv, hc, ht, _ => by
    simp [partsOk] at hv
    subst hv
    exact ⟨t, cells, rfl, hc, h, ht⟩
  | (i, x) :: ps, vs, t, cells, kk, h, ⟨v, vs', e1, k1, k2⟩, hc, ht, hp => by
    subst e1
    obtain ⟨t', hk, h1, h2, h3, h4, h5⟩ := setChk_out (show setFieldChkK i t x fun t => fillSK t ps kk from h)
    obtain ⟨d, s, c, p1, p2, p3⟩ := hp i h2
    obtain ⟨e1, e2⟩ := h5 d c p2
    have hl := tCells.length k1
    simp only [Array.length_toList] at hl
    obtain ⟨c1, hc1, hlen⟩ := fieldK_out p2
    subst hc1
    have hle := (hlen G _ hc).2
    simp only [Array.length_toList] at hle
    have hsp := splice_cells cells v.cells d (by omega)
    have hc' := e2 G _ _ hc k1
    rw [Array.length_toList, ← hsp] at hc'
    obtain ⟨t2, cells2, q1, q2, q3, q4⟩ := fill_struct (places := places) hk k2 hc' (.inr h3) (fun j hj => by
      obtain ⟨d', s', c', r1, r2, r3⟩ := hp j (by omega)
      obtain ⟨c2, m1, m2⟩ := h4 j d' c' r2
      exact ⟨d', s', c2, r1, m1, m2.trans r3⟩)
    refine ⟨t2, cells2, ?_, q2, q3, q4⟩
    unfold Instr.fill
    simp only [p1]
    rw [if_neg (by simp; omega)]
    exact q1

theorem fill_array {e : El} : ∀ {ps : List (Nat × T)} {vs : List (Nat × Value)} {xs : List e.ty} {cells : Array Value} {kk : List e.ty → Prop}, fillAK e xs ps hp kk → partsOk G ps vs → listOf (cellsOf G.im G.w e) xs cells.toList →
    ∃ xs' cells', Instr.fill (fun i => some (i * e.sz, e.sz)) cells vs = some cells' ∧ xs'.length = xs.length ∧ listOf (cellsOf G.im G.w e) xs' cells'.toList ∧ kk xs'
  | [], vs, xs, cells, kk, h, hv, hc => by
    simp [partsOk] at hv
    subst hv
    exact ⟨xs, cells, rfl, rfl, hc, h⟩
  | (i, x) :: ps, vs, xs, cells, kk, h, ⟨v, vs', e1, k1, k2⟩, hc => by
    subst e1
    obtain ⟨y, h1, hy⟩ := decK_out (show decK e x hp fun x => lsetK xs i x fun xs => fillAK e xs ps hp kk from h)
    obtain ⟨h2, h3⟩ := lsetK_out h1
    have hv := hy G _ k1
    have hl := cellsOf.length e y _ hv
    simp only [Array.length_toList] at hl
    have hlen := listOf.length (fun x cs => cellsOf.length e x cs) _ _ hc
    simp only [Array.length_toList] at hlen
    have hle : i * e.sz + v.cells.size ≤ cells.size := by
      rw [hl, hlen, ← Nat.succ_mul]
      exact Nat.mul_le_mul_right _ h2
    have hsp := splice_cells cells v.cells (i * e.sz) hle
    have hset := listOf_set (fun x cs => cellsOf.length e x cs) hc h2 hv
    rw [Nat.succ_mul, ← hl] at hset
    rw [hl] at hset hsp
    rw [← hsp] at hset
    obtain ⟨xs', cells', q1, q2, q3, q4⟩ := fill_array h3 k2 hset
    refine ⟨xs', cells', ?_, by simpa using q2, q3, q4⟩
    unfold Instr.fill
    simp only []
    rw [if_neg (by simp; omega)]
    exact q1

theorem ok_build (hE : EnvOk P E) {t : TypeId} {ps : Array (Nat × Operand)} (ho : o.op = .build t ps) (hm : Mdl w0 F0 G hp nx) (hf : frOk G fr a.tmps) (h0 : denOp E (.build t ps) fr hp nx k) : Goes P w0 F0 G o a k := by
  obtain ⟨y, hy, h1⟩ := tyK_out h0
  have hty := hE.ty t y hy
  have hund := hty.und
  obtain ⟨l, h3, hl⟩ := partsK_out hf h1
  obtain ⟨i, hi, _, _, z, hz, hz2⟩ := hty.info
  split at h3
  · next fs hk =>
    rw [hk] at hund
    obtain ⟨fields, hu, hfs, hne, _, hoff⟩ := hund
    have hkid := hty.kid fs hk
    have hplaces : fields.toList.mapM (fun f => (P.info? f.type).map fun i => (f.offset, i.size)) = some (fields.toList.map fun f => (f.offset, ((P.info? f.type).map (·.size)).getD 0)) := by
      have : ∀ (l : List Field), (∀ f ∈ l, ∃ i, P.info? f.type = some i) → l.mapM (fun f => (P.info? f.type).map fun i => (f.offset, i.size)) = some (l.map fun f => (f.offset, ((P.info? f.type).map (·.size)).getD 0)) := by
        intro l
        induction l with
        | nil => intro _; rfl
        | cons f l ih =>
          intro hh
          obtain ⟨i, hi⟩ := hh f (by simp)
          simp [List.mapM_cons, hi, ih (fun g hg => hh g (by simp [hg]))]
      exact this _ fun f hf => by obtain ⟨_, i, hi, _⟩ := hne f hf; exact ⟨i, hi⟩
    have go : ∀ t0 : T, y.zero.toT = t0 → (t0 = .nil ∨ ∃ u us, t0 = .cons u us) → fillSK t0 l (fun t => k t hp nx) → Goes P w0 F0 G o a k := by
      intro t0 e0 hshape h4
      subst e0
      obtain ⟨t', cells', q1, q2, q3, q4⟩ := fill_struct (G := G) (places := fun i => (fields.toList.map fun f => (f.offset, ((P.info? f.type).map (·.size)).getD 0)).toArray[i]?) h4 hl (hz2 G).2 hshape (fun i hi' => by
        rw [hkid, ← hfs, List.length_map] at hi'
        have hg : fs[i]? = some (fields.toList[i].type, fields.toList[i].offset) := by rw [← hfs, List.getElem?_map, List.getElem?_eq_getElem hi']; rfl
        obtain ⟨c, inf, r1, r2, r3⟩ := hoff i _ _ hg
        have hlt : i < fields.size := by simpa using hi'
        refine ⟨fields.toList[i].offset, c.size, c, ?_, r1, rfl⟩
        simp only [Array.getElem_toList] at r2 ⊢
        simp [hlt, r2, r3])
      have hb : P.built t (ps.map fun (i, x) => (i, a.eval x)).toList = some cells' := by
        unfold Program.built
        rw [Array.toList_map]
        simp only [hi, hu, hz, hplaces]
        exact q1
      refine goes_value (v := .agg cells') (x := t') ?_ hm ?_ q3
      · simp only [execOp, ho, Sem.run_bind, run_build G.w t _ _ hb, Result.andThen_ok, Sem.run_pure]
      · rcases q4 with rfl | ⟨u, us, rfl⟩ <;> exact ⟨cells'.toList, rfl, q2⟩
    split at h3
    · next hzz => exact go .nil (by rw [hzz]; rfl) (.inl rfl) h3
    · next u us hzz => exact go (.cons u.toT us.toT) (by rw [hzz]; rfl) (.inr ⟨_, _, rfl⟩) h3
    · exact h3.elim
  · next n et hk =>
    rw [hk] at hund
    split at h3
    · next e m hzz =>
      obtain ⟨ie, hie, hsz⟩ := hty.arr _ _ _ _ hk hzz
      have hzc := (hz2 G).2
      rw [hzz] at hzc
      obtain ⟨z1, z2⟩ := hzc
      obtain ⟨xs', cells', q1, q2, q3, q4⟩ := fill_array (G := G) h3 hl z2
      have hb : P.built t (ps.map fun (i, x) => (i, a.eval x)).toList = some cells' := by
        unfold Program.built
        rw [Array.toList_map]
        simp only [hi, hund, hz, hie, hsz]
        exact q1
      refine goes_value (v := .agg cells') (x := .arr e xs' m) ?_ hm ⟨cells'.toList, rfl, by rw [q2]; exact z1, q3⟩ q4
      simp only [execOp, ho, Sem.run_bind, run_build G.w t _ _ hb, Result.andThen_ok, Sem.run_pure]
    · exact h3.elim
  · exact h3.elim

theorem listOf_replicate {α : Type} {R : α → List Value → Prop} {x : α} {c : List Value} (h : R x c) : ∀ n, listOf R (List.replicate n x) (List.replicate n c).flatten
  | 0 => rfl
  | n + 1 => by
    rw [List.replicate_succ, List.replicate_succ, List.flatten_cons]
    exact ⟨c, _, rfl, h, listOf_replicate h n⟩

theorem madeCells_toList (z : Array Value) (n : Nat) : (madeCells z (n * z.size)).toList = (List.replicate n z.toList).flatten := by
  induction n with
  | zero => simp [madeCells]
  | succ n ih =>
    rw [List.replicate_succ', List.flatten_append, ← ih]
    apply List.ext_getElem?
    intro j
    simp only [madeCells, Array.toList_map, Array.toList_range, List.getElem?_map, List.flatten_cons, List.flatten_nil, List.append_nil, List.getElem?_append, List.length_map, List.length_range]
    by_cases h1 : j < n * z.size
    · rw [if_pos h1, List.getElem?_range (by rw [Nat.succ_mul]; omega), List.getElem?_range h1]
    · rw [if_neg h1]
      by_cases h2 : j < (n + 1) * z.size
      · rw [List.getElem?_range h2]
        have h3 : j - n * z.size < z.size := by rw [Nat.succ_mul] at h2; omega
        have h4 : j % z.size = j - n * z.size := by
          conv => lhs; rw [show j = (j - n * z.size) + z.size * n by rw [Nat.mul_comm z.size]; omega]
          rw [Nat.add_mul_mod_self_left, Nat.mod_eq_of_lt h3]
        simp [h4, h3]
      · rw [Nat.succ_mul] at h2
        rw [List.getElem?_eq_none (by simp; rw [Nat.succ_mul]; omega), List.getElem?_eq_none (by simp; omega)]
        rfl

theorem ok_makeSlice (hE : EnvOk P E) {t : TypeId} {l c : Operand} (ho : o.op = .makeSlice t l c) (hm : Mdl w0 F0 G hp nx) (hf : frOk G fr a.tmps) (h0 : denOp E (.makeSlice t l c) fr hp nx k) : Goes P w0 F0 G o a k := by
  obtain ⟨y, hy, h1⟩ := tyK_out h0
  have hund := (hE.ty t y hy).und
  split at h1
  · next et hk =>
    rw [hk] at hund
    obtain ⟨z, hz, h2⟩ := tyK_out h1
    obtain ⟨tn, h3, hn⟩ := evalK_out hf h2
    split at h3
    · next ik n =>
      obtain ⟨tm, h4, hmm⟩ := evalK_out hf h3
      split at h4
      · next jk m =>
        split at h4
        · next e he =>
          obtain ⟨⟨rfl, h5, h6, h7⟩, h8⟩ := h4
          obtain ⟨hsz, hpos, i, zz, hi, hz1, hzc⟩ := (hE.ty et z hz).el e he
          obtain ⟨i', hi', hi1, hi2, _⟩ := (hE.ty et z hz).info
          obtain rfl : i = i' := Option.some.inj (hi.symm.trans hi')
          obtain ⟨n, rfl⟩ := Int.eq_ofNat_of_zero_le h5
          simp only [Int.toNat_natCast] at h7
          have h63 : n ≤ maxLen := by omega
          obtain ⟨w', hrun, hown, hgr⟩ := run_make_full (P := P) G.w 0 t et i zz e.sz hund hi hz1 (by rw [hi1, hsz]) ik jk n (by rw [hi2, Nat.mul_comm]; omega) h63 (Nat.zero_le _)
          have hzs : zz.cells.size = e.sz := by
            have := cellsOf.length e e.dflt zz.cells.toList (hzc G.im G.w)
            simpa using this
          have hmk : (Instr.makeSlice t (.int ik n) (.int jk n)).run P G.w = .ok (.slice (some ⟨G.w.heap.size, 0, none⟩) n n) w' := hrun
          have h9 := lappK_out h8
          obtain ⟨G', hx, hw, hr, hm'⟩ := hm.new (w' := w') hgr.os hgr.tape hgr.output hgr.size (fun b hb => hgr.block b hb (by simp)) (.row et e (List.replicate n e.dflt)) ⟨G.w.heap.size, false, n, n⟩ (fun _ => ⟨Nat.le_refl _, by
              rcases hown.2 with ⟨e1, _⟩ | ⟨g, cap, cur, e1, _, e3, _⟩
              · simp at e1
              · simp at e1
                rw [e1.1]
                exact (Array.getElem?_eq_some_iff.1 e3).1⟩)
            (fun G' he hw _ => ⟨by simp, by simpa using h63, _, by rw [hw, List.length_replicate]; exact hown, by
              rw [← hzs, madeCells_toList]
              exact listOf_replicate (hzc _ _) n⟩) rfl
          refine goes_world (v := .slice (some ⟨G.w.heap.size, 0, none⟩) n n) (x := .v (.own nx)) ?_ hx hm' ⟨_, hr, rfl⟩ (by simpa using h9)
          rw [hw]
          have hn' : a.eval l = .int ik n := hn
          have hm'' : a.eval c = .int jk n := hmm
          simp only [execOp, ho, hn', hm'', Sem.run_bind, hmk, Result.andThen_ok, Sem.run_pure]
        · exact h4.elim
      · exact h4.elim
    · exact h3.elim
  · exact h1.elim

theorem slK_out {y : Ty} {q : Prop} (h : slK y q) : (∃ e, y = .sl e) ∧ q := by
  cases y <;> first | exact h.elim | exact ⟨⟨_, rfl⟩, h⟩
theorem strK_out {y : Ty} {q : Prop} (h : strK y q) : y = .str ∧ q := by
  cases y <;> first | exact h.elim | exact ⟨rfl, h⟩
theorem ptrK_out {y : Ty} {q : Prop} (h : ptrK y q) : (∃ e, y = .ptr e) ∧ q := by
  cases y <;> first | exact h.elim | exact ⟨⟨_, rfl⟩, h⟩

theorem frOk_one {ts : List T} {vs : List Value} {x : T} (h : frOk G ts ⟨vs⟩) (hx : ts = [x]) : ∃ v, vs = [v] ∧ tVal G x v := by
  subst hx
  obtain ⟨h1, h2⟩ := h
  simp at h1
  obtain ⟨v, e, hv⟩ := h2 0 x rfl
  match vs, h1 with
  | [w], _ => simp at e; subst e; exact ⟨_, rfl, hv⟩

theorem frOk_two {ts : List T} {vs : List Value} {x y : T} (h : frOk G ts ⟨vs⟩) (hx : ts = [x, y]) : ∃ v w, vs = [v, w] ∧ tVal G x v ∧ tVal G y w := by
  subst hx
  obtain ⟨h1, h2⟩ := h
  simp at h1
  obtain ⟨v, e, hv⟩ := h2 0 x rfl
  obtain ⟨w, e', hw⟩ := h2 1 y rfl
  match vs, h1 with
  | [v', w'], _ => simp at e e'; subst e; subst e'; exact ⟨_, _, rfl, hv, hw⟩

theorem ok_len (hE : EnvOk P E) {c : Call} (ho : o.op = .call c) (hc : c.callee = .builtin .len) (hm : Mdl w0 F0 G hp nx) (hf : frOk G fr a.tmps) (h0 : denOp E (.call c) fr hp nx k) : Goes P w0 F0 G o a k := by
  simp only [denOp, hc] at h0
  split at h0
  · next t hat =>
    obtain ⟨y, hy, h1⟩ := tyK_out h0
    have hund := (hE.ty t y hy).und
    obtain ⟨ts, h2, hts⟩ := evalsK_out hf h1
    have hat' : c.argTypes = #[t] := by apply Array.ext'; simpa using hat
    have sl : ∀ (v : Value) A (n cc : Nat), c.args.toList.map a.eval = [v] → v = .slice A n cc → (∃ e, y.k = .sl e) → k (.v (.int .i64 n)) hp nx → Goes P w0 F0 G o a k := by
      intro v A n cc hv e1 ⟨e, e2⟩ hk
      rw [e2] at hund
      have hv' : c.args.map a.eval = #[v] := by apply Array.ext'; simpa using hv
      refine goes_value (v := .int .i64 n) (x := .v (.int .i64 n)) ?_ hm rfl hk
      simp [execOp, ho, resolve, hc, invoke, builtin, hv', e1, hat', Builtin.len_, run_underlying hund, goInt]
    split at h2
    · obtain ⟨h3, h4⟩ := slK_out h2
      obtain ⟨v, e1, hv⟩ := frOk_one hts rfl
      obtain ⟨A, cc, e2, _⟩ := tVal_of_v hv
      simp at e2
      exact sl v A _ cc e1 e2 h3 h4
    · obtain ⟨h3, h4⟩ := slK_out h2
      obtain ⟨v, e1, hv⟩ := frOk_one hts rfl
      exact sl v none 0 0 e1 hv h3 h4
    · next s =>
      obtain ⟨h3, h4⟩ := strK_out h2
      obtain ⟨v, e1, hv⟩ := frOk_one hts rfl
      rw [h3] at hund
      have hv2 : v = .string ⟨⟨s⟩⟩ := hv
      have hv' : c.args.map a.eval = #[v] := by apply Array.ext'; simpa using e1
      refine goes_value (v := .int .i64 s.length) (x := .v (.int .i64 s.length)) ?_ hm rfl h4
      simp [execOp, ho, resolve, hc, invoke, builtin, hv', hv2, hat', run_len_string (P := P) G.w t o.type ⟨⟨s⟩⟩ hund]
      rfl
    · next r =>
      obtain ⟨h3, h4⟩ := slK_out h2
      obtain ⟨ch, hch, h5⟩ := lookK_out h4
      obtain ⟨b, hr, hck⟩ := hm.chunk r ch hch
      obtain ⟨v, e1, hv⟩ := frOk_one hts rfl
      obtain ⟨b', k1, k2⟩ := tVal_of_v hv
      obtain rfl : b = b' := Option.some.inj (hr.symm.trans k1)
      split at h5
      · rw [← hck.1] at h5
        exact sl v _ _ _ e1 k2 h3 h5
      · rw [← hck.1] at h5
        exact sl v _ _ _ e1 k2 h3 h5
      · exact h5.elim
    · obtain ⟨h3, h4⟩ := slK_out h2
      obtain ⟨v, e1, hv⟩ := frOk_one hts rfl
      obtain ⟨b, cc, A, _, _, _, e2, _⟩ := tVal_of_v hv
      exact sl v A _ cc e1 e2 h3 h4
    · exact h2.elim
  · exact h0.elim

theorem ok_min {c : Call} (ho : o.op = .call c) (hc : c.callee = .builtin .min) (hm : Mdl w0 F0 G hp nx) (hf : frOk G fr a.tmps) (h0 : denOp E (.call c) fr hp nx k) : Goes P w0 F0 G o a k := by
  simp only [denOp, hc] at h0
  obtain ⟨ts, h2, hts⟩ := evalsK_out hf h0
  split at h2
  · obtain ⟨v, w, e1, hv, hw⟩ := frOk_two hts rfl
    have hv' : c.args.map a.eval = #[v, w] := by apply Array.ext'; simpa using e1
    have hv : v = _ := hv
    have hw : w = _ := hw
    exact goes_v h2 hm rfl (by simp [execOp, ho, resolve, hc, invoke, builtin, hv', hv, hw, run_min_int2])
  · exact h2.elim

theorem ok_max {c : Call} (ho : o.op = .call c) (hc : c.callee = .builtin .max) (hm : Mdl w0 F0 G hp nx) (hf : frOk G fr a.tmps) (h0 : denOp E (.call c) fr hp nx k) : Goes P w0 F0 G o a k := by
  simp only [denOp, hc] at h0
  obtain ⟨ts, h2, hts⟩ := evalsK_out hf h0
  split at h2
  · obtain ⟨v, w, e1, hv, hw⟩ := frOk_two hts rfl
    have hv' : c.args.map a.eval = #[v, w] := by apply Array.ext'; simpa using e1
    have hv : v = _ := hv
    have hw : w = _ := hw
    exact goes_v h2 hm rfl (by simp [execOp, ho, resolve, hc, invoke, builtin, hv', hv, hw, run_max_int2])
  · exact h2.elim

theorem ok_unOp {op : UnOp} {t : TypeId} {x : Operand} (ho : o.op = .unOp op t x) (hm : Mdl w0 F0 G hp nx) (hf : frOk G fr a.tmps) (h0 : denOp E (.unOp op t x) fr hp nx k) : Goes P w0 F0 G o a k := by
  obtain ⟨tx, h1, ht⟩ := evalK_out hf h0
  split at h1
  · have ht : a.eval x = .bool true := ht
    exact goes_v h1 hm (v := .bool false) rfl (by simp [execOp, ho, Op.unary, ht])
  · have ht : a.eval x = .bool false := ht
    exact goes_v h1 hm (v := .bool true) rfl (by simp [execOp, ho, Op.unary, ht])
  · next b =>
    have ht : a.eval x = .bool b := ht
    exact goes_v h1 hm (v := .bool !b) rfl (by simp [execOp, ho, Op.unary, ht])
  · next ik n =>
    have ht : a.eval x = .int ik n := ht
    exact goes_v h1 hm (v := .int ik (ik.wrap (0 - n))) rfl (by simp [execOp, ho, Op.unary, ht, Op.intArith])
  · next ik n =>
    have ht : a.eval x = .int ik n := ht
    exact goes_v h1 hm (v := .int ik (bits .xor ik (if ik.signed then -1 else ik.max) n)) rfl (by simp [execOp, ho, Op.unary, ht, Op.intBits, bits])
  · exact h1.elim

end
end Go.J
