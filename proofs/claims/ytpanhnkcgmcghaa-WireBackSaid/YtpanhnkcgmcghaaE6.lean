/-
  THE ENGINE, part 6: new blocks, stores, slices, the builtins.
-/
import Derived.Test.YtpanhnkcgmcghaaE5
set_option linter.unusedSimpArgs false
set_option linter.unusedVariables false
set_option linter.unusedSectionVars false

namespace Go.J
open Go.RowKit

section
variable {P : Program} {E : Env} {w0 : World} {F0 : Base} {G : Cx} {hp : Hp} {nx : Nat} {o : Oper} {a : Act} {fr : List T} {k : T → Hp → Nat → Prop}

theorem ok_alloc (hE : EnvOk P E) {t : TypeId} (ho : o.op = .alloc t) (hm : Mdl w0 F0 G hp nx) (h0 : denOp E (.alloc t) fr hp nx k) : Goes P w0 F0 G o a k := by
  obtain ⟨y, hy, h1⟩ := tyK_out h0
  have h2 := lappK_out h1
  obtain ⟨i, hi, _, _, z, hz, hz2⟩ := (hE.ty t y hy).info
  obtain ⟨G', hx, hw, hr, hm'⟩ := hm.new (w' := G.w.alloc (.cells z.cells t)) rfl rfl rfl (by simp) (fun b hb => Below.heap_alloc _ _ _ hb) (.own y.zero.toT) ⟨G.w.heap.size, false, 0, 0⟩ (fun _ => by simp)
    (fun G' _ hw _ => ⟨rfl, z.cells.toList, t, by rw [hw]; exact heap_alloc_new _ _, (hz2 G').2⟩) rfl
  refine goes_world (v := .pointer (some ⟨G.w.heap.size, 0, none⟩)) (x := .v (.ptr nx [])) ?_ hx hm' ⟨_, hr, rfl, rfl⟩ h2
  rw [hw]
  simp [execOp, ho, Instr.alloc, zeroValue, typeInfo, hi, hz, newVar, newRow]

theorem toCells {x : T} {v : Value} (hx : x.known = true) (hv : tVal G x v) : tCells G x v.cells.toList := by
  cases x with
  | v y =>
    have hone : one v ∧ v.cells = #[v] := by
      cases y <;> simp only [tVal, tVal1, vOk] at hv <;> first
        | (simp [T.known] at hx; done)
        | (subst hv; exact ⟨rfl, rfl⟩)
        | (obtain ⟨_, _, _, rfl⟩ := hv; exact ⟨rfl, rfl⟩)
        | (obtain ⟨_, _, _, _, rfl, _⟩ := hv; exact ⟨rfl, rfl⟩)
        | (obtain ⟨_, _, rfl⟩ := hv; exact ⟨rfl, rfl⟩)
        | (obtain ⟨_, rfl⟩ := hv; exact ⟨rfl, rfl⟩)
        | (obtain ⟨_, _, e, _⟩ := hv; simp at e; subst e; exact ⟨rfl, rfl⟩)
        | (obtain ⟨_, _, _, _, _, _, rfl, _⟩ := hv; exact ⟨rfl, rfl⟩)
    exact ⟨v, by simp [hone.2], hone.1, hv⟩
  | nil => obtain ⟨cs, rfl, h⟩ := hv; exact h
  | cons t ts => obtain ⟨cs, rfl, h⟩ := hv; exact h
  | arr e xs n => obtain ⟨cs, rfl, h⟩ := hv; exact h
  | tup t => simp [T.known] at hx

theorem ok_box (hE : EnvOk P E) {t : TypeId} {x : Operand} (ho : o.op = .box t x) (hm : Mdl w0 F0 G hp nx) (hf : frOk G fr a.tmps) (h0 : denOp E (.box t x) fr hp nx k) : Goes P w0 F0 G o a k := by
  obtain ⟨tx, h1, ht⟩ := evalK_out hf h0
  obtain ⟨y, hy, h2⟩ := tyK_out h1
  split at h2
  · exact h2.elim
  · next hany =>
    split at h2
    · next hs =>
      have h3 := lappK_out h2
      have hc := toCells hany ht
      obtain ⟨G', hx, hw, hr, hm'⟩ := hm.new (w' := G.w.alloc (.cells (a.eval x).cells t)) rfl rfl rfl (by simp) (fun b hb => Below.heap_alloc _ _ _ hb) (.own tx) ⟨G.w.heap.size, false, 0, 0⟩ (fun _ => by simp)
        (fun G' he hw _ => ⟨rfl, (a.eval x).cells.toList, t, by rw [hw]; exact heap_alloc_new _ _, he.tCells hc⟩) rfl
      refine goes_world (v := .pointer (some ⟨G.w.heap.size, 0, none⟩)) (x := .v (.ptr nx [])) ?_ hx hm' ⟨_, hr, rfl, rfl⟩ h3
      rw [hw]
      simp [execOp, ho, Instr.box, newVar, newRow]
    · exact h2.elim

/-- A part of a tree, put in another's place. -/
theorem setFieldK_out {kk : T → Prop} {new : T} : ∀ {i o : Nat} {t t1 : T}, fieldK i o t (fun u => u = t1) → t1.size = new.size → setFieldK i t new kk →
    ∃ t', kk t' ∧ t'.size = t.size ∧ ∀ G cs ds, tCells G t cs → tCells G new ds → tCells G t' (cs.take o ++ ds ++ cs.drop (o + ds.length))
  | 0, 0, .cons t ts, t1, h, hs, h' => ⟨.cons new ts, h', by have : t = t1 := h; simp [T.size, this, hs], fun G cs ds ⟨c1, c2, e, k1, k2⟩ hd => by
      have : t = t1 := h
      subst this
      subst e
      have l1 := tCells.length k1
      have l2 := tCells.length hd
      refine ⟨ds, c2, ?_, hd, k2⟩
      simp only [List.take_zero, List.nil_append, Nat.zero_add]
      rw [List.drop_append, List.drop_eq_nil_of_le (by omega)]
      simp [show ds.length - c1.length = 0 by omega]⟩
  | 0, _ + 1, .cons _ _, _, h, _, _ => by simp [fieldK] at h
  | i + 1, o, .cons t ts, t1, h, hs, h' => by
    unfold fieldK at h
    split at h
    · rename_i hb
      have hle := Nat.le_of_ble_eq_true hb
      obtain ⟨t', hk, hsz, hc⟩ := setFieldK_out (kk := fun ts => kk (.cons t ts)) h hs h'
      refine ⟨_, hk, by simp [T.size, hsz], fun G cs ds ⟨c1, c2, e, k1, k2⟩ hd => ?_⟩
      subst e
      have l1 := tCells.length k1
      refine ⟨c1, _, ?_, k1, hc G c2 ds k2 hd⟩
      rw [List.take_append, List.take_of_length_le (by omega), List.drop_append, List.drop_eq_nil_of_le (by omega), l1, show o + ds.length - t.size = o - t.size + ds.length by omega]
      simp
    · exact h.elim
  | 0, _, .v _, _, h, _, _ => by simp [fieldK] at h
  | 0, _, .nil, _, h, _, _ => by simp [fieldK] at h
  | 0, _, .arr _ _ _, _, h, _, _ => by simp [fieldK] at h
  | 0, _, .tup _, _, h, _, _ => by simp [fieldK] at h
  | _ + 1, _, .v _, _, h, _, _ => by simp [fieldK] at h
  | _ + 1, _, .nil, _, h, _, _ => by simp [fieldK] at h
  | _ + 1, _, .arr _ _ _, _, h, _, _ => by simp [fieldK] at h
  | _ + 1, _, .tup _, _, h, _, _ => by simp [fieldK] at h

theorem fieldK_eq {kk : T → Prop} : ∀ {i o : Nat} {t : T}, fieldK i o t kk → ∃ t1, kk t1 ∧ fieldK i o t (fun u => u = t1)
  | 0, 0, .cons t ts, h => ⟨t, h, rfl⟩
  | 0, _ + 1, .cons _ _, h => by simp [fieldK] at h
  | i + 1, o, .cons t ts, h => by
    unfold fieldK at h
    split at h
    · rename_i hb
      obtain ⟨t1, h1, h2⟩ := fieldK_eq h
      refine ⟨t1, h1, ?_⟩
      unfold fieldK
      rw [hb]
      exact h2
    · exact h.elim
  | 0, _, .v _, h => by simp [fieldK] at h
  | 0, _, .nil, h => by simp [fieldK] at h
  | 0, _, .arr _ _ _, h => by simp [fieldK] at h
  | 0, _, .tup _, h => by simp [fieldK] at h
  | _ + 1, _, .v _, h => by simp [fieldK] at h
  | _ + 1, _, .nil, h => by simp [fieldK] at h
  | _ + 1, _, .arr _ _ _, h => by simp [fieldK] at h
  | _ + 1, _, .tup _, h => by simp [fieldK] at h

/-- An element, told by its value: the same cells. -/
theorem decK_out {e : El} : ∀ {t : T} {kk : e.ty → Prop}, decK e t hp kk → ∃ x, kk x ∧ ∀ (G : Cx) cs, tCells G t cs → cellsOf G.im G.w e x cs := by
  induction e with
  | u8 =>
    intro t kk h
    cases t with
    | v x =>
      cases x <;> simp only [decK] at h
      rename_i ik n
      split at h
      · rename_i hk
        obtain rfl := eq_of_beq hk
        refine ⟨_, h.2, fun G cs ⟨c, e1, _, e2⟩ => ?_⟩
        subst e1
        have : ((UInt8.ofNat n.toNat).toNat : Int) = n := by
          rw [UInt8.toNat_ofNat']
          omega
        exact congrArg (fun c => [c]) ((show c = .int .u8 n from e2).trans (congrArg (Value.int IntKind.u8) this.symm))
      · exact h.elim
    | _ => simp [decK] at h
  | int ik =>
    intro t kk h
    cases t with
    | v x =>
      cases x <;> simp only [decK] at h
      rename_i ik' n
      split at h
      · rename_i hk
        obtain rfl := eq_of_beq hk
        exact ⟨_, h, fun G cs ⟨c, e1, _, e2⟩ => by subst e1; simp [cellsOf]; exact e2⟩
      · exact h.elim
    | _ => simp [decK] at h
  | bool =>
    intro t kk h
    cases t with
    | v x =>
      cases x <;> simp only [decK] at h
      all_goals exact ⟨_, h, fun G cs ⟨c, e1, _, e2⟩ => by subst e1; simp [cellsOf]; exact e2⟩
    | _ => simp [decK] at h
  | str =>
    intro t kk h
    cases t with
    | v x =>
      cases x <;> simp only [decK] at h
      all_goals exact ⟨_, h, fun G cs ⟨c, e1, _, e2⟩ => by subst e1; simp [cellsOf]; exact e2⟩
    | _ => simp [decK] at h
  | rd e _ =>
    intro t kk h
    cases t with
    | v x =>
      cases x <;> simp only [decK] at h
      case nils =>
        refine ⟨_, h, fun G cs ⟨c, e1, _, e2⟩ => ?_⟩
        subst e1
        have e2 : c = .slice none 0 0 := e2
        exact ⟨none, 0, by simp [e2], by simp, by simp, fun hh => by simp at hh⟩
      case rd =>
        obtain ⟨he, hk⟩ := castK_out h
        subst he
        exact ⟨_, hk, fun G cs ⟨c, e1, _, e2⟩ => by subst e1; exact e2⟩
    | _ => simp [decK] at h
  | nil =>
    intro t kk h
    cases t with
    | nil => exact ⟨_, h, fun G cs hc => hc⟩
    | v x => cases x <;> simp [decK] at h
    | _ => simp [decK] at h
  | cons e es ih1 ih2 =>
    intro t kk h
    cases t with
    | cons t ts =>
      obtain ⟨x, h1, hx⟩ := ih1 (show decK e t hp fun x => decK es ts hp fun y => kk (x, y) from h)
      obtain ⟨y, h2, hy⟩ := ih2 h1
      exact ⟨(x, y), h2, fun G cs ⟨c1, c2, e1, k1, k2⟩ => ⟨c1, c2, e1, hx G _ k1, hy G _ k2⟩⟩
    | v x => cases x <;> simp [decK] at h
    | _ => simp [decK] at h
  | ar n e _ =>
    intro t kk h
    cases t with
    | arr e' xs n' =>
      simp only [decK] at h
      split at h
      · rename_i hn
        obtain rfl := nat_beq_eq hn
        obtain ⟨he, hk⟩ := castK_out h
        subst he
        exact ⟨_, hk, fun G cs hc => hc⟩
      · exact h.elim
    | v x => cases x <;> simp [decK] at h
    | _ => simp [decK] at h

theorem drop_split {α : Type} (cs : List α) {m n : Nat} (h : m ≤ n) : cs.drop m = (cs.drop m).take (n - m) ++ cs.drop n := by
  have h1 := List.take_append_drop (n - m) (cs.drop m)
  rw [List.drop_drop, show m + (n - m) = n by omega] at h1
  exact h1.symm

theorem splice_in {α : Type} (cs L : List α) {c s p : Nat} (h1 : p + L.length ≤ s) (h2 : c + s ≤ cs.length) :
    cs.take c ++ (((cs.drop c).take s).take p ++ L ++ ((cs.drop c).take s).drop (p + L.length)) ++ cs.drop (c + s) = cs.take (c + p) ++ L ++ cs.drop (c + p + L.length) := by
  rw [List.take_take, List.drop_take, List.drop_drop, Nat.min_eq_left (by omega)]
  rw [show cs.take (c + p) = cs.take c ++ (cs.drop c).take p from List.take_add]
  rw [drop_split cs (show c + p + L.length ≤ c + s by omega), show c + s - (c + p + L.length) = s - (p + L.length) by omega, Nat.add_assoc c]
  simp [List.append_assoc]

theorem take_splice {α : Type} (cs L : List α) {c m : Nat} (h1 : c + L.length ≤ m) (h2 : m ≤ cs.length) :
    (cs.take c ++ L ++ cs.drop (c + L.length)).take m = (cs.take m).take c ++ L ++ (cs.take m).drop (c + L.length) := by
  have hl : (cs.take c ++ L).length = c + L.length := by simp; omega
  rw [List.take_append, List.take_of_length_le (by omega), hl, List.take_take, Nat.min_eq_left (by omega), List.drop_take]

/-- A store into a tree. -/
theorem tsetK_out {new : T} {kk : T → Prop} : ∀ {p : List Stp} {t : T}, tsetK p t new hp kk →
    ∃ t', kk t' ∧ t'.size = t.size ∧ ∀ (G : Cx) cs ds, tCells G t cs → tCells G new ds → poff p + ds.length ≤ cs.length ∧ tCells G t' (cs.take (poff p) ++ ds ++ cs.drop (poff p + ds.length)) := by
  intro p
  induction p generalizing kk with
  | nil =>
    intro t h
    simp only [tsetK] at h
    split at h
    · rename_i hs
      have hs := nat_beq_eq hs
      refine ⟨new, h, hs.symm, fun G cs ds hc hd => ?_⟩
      have l1 := tCells.length hc
      have l2 := tCells.length hd
      simp only [poff, List.take_zero, List.nil_append, Nat.zero_add]
      rw [List.drop_eq_nil_of_le (by omega), List.append_nil]
      exact ⟨by omega, hd⟩
    · exact h.elim
  | cons s p ih =>
    have field : ∀ {i o : Nat} {t : T}, (fieldK i o t fun t' => tsetK p t' new hp fun t' => setFieldK i t t' kk) →
        ∃ t', kk t' ∧ t'.size = t.size ∧ ∀ (G : Cx) cs ds, tCells G t cs → tCells G new ds → o + poff p + ds.length ≤ cs.length ∧ tCells G t' (cs.take (o + poff p) ++ ds ++ cs.drop (o + poff p + ds.length)) := by
      intro i o t h
      obtain ⟨t1, h1, hf⟩ := fieldK_eq h
      obtain ⟨t2, h2, hs2, hc2⟩ := ih h1
      obtain ⟨t3, h3, hs3, hc3⟩ := setFieldK_out hf hs2.symm h2
      refine ⟨t3, h3, hs3, fun G cs ds hc hd => ?_⟩
      obtain ⟨u, hu, huc⟩ := fieldK_out hf
      subst hu
      obtain ⟨m1, m2⟩ := huc G cs hc
      obtain ⟨m3, m4⟩ := hc2 G _ ds m1 hd
      rw [List.length_take, List.length_drop] at m3
      have m5 := hc3 G cs _ hc m4
      refine ⟨by omega, ?_⟩
      have e : ∀ (A B : List Value), A = B → tCells G t3 A → tCells G t3 B := fun A B e h => e ▸ h
      refine e _ _ ?_ m5
      have l1 : (((cs.drop o).take u.size).take (poff p) ++ ds ++ ((cs.drop o).take u.size).drop (poff p + ds.length)).length = u.size := by
        simp only [List.length_append, List.length_take, List.length_drop]
        omega
      rw [l1]
      exact splice_in cs ds (by omega) (by omega)
    intro t h
    cases s with
    | f i o =>
      obtain ⟨t', h1, h2, h3⟩ := field (show fieldK i o t fun t' => tsetK p t' new hp fun t' => setFieldK i t t' kk from h)
      exact ⟨t', h1, h2, h3⟩
    | x i sz =>
      cases t with
      | arr e xs n =>
        simp only [tsetK] at h
        split at h
        · rename_i hb
          have hsz := nat_beq_eq hb
          obtain ⟨hi, h1⟩ := h
          obtain ⟨t2, h2, hs2, hc2⟩ := ih h1
          obtain ⟨x, h3, hx⟩ := decK_out h2
          refine ⟨_, h3, rfl, fun G cs ds hc hd => ?_⟩
          obtain ⟨m1, m2⟩ := enc_getD hc.2 hi
          obtain ⟨m3, m4⟩ := hc2 G _ ds m1 hd
          rw [List.length_take, List.length_drop] at m3
          have m5 := listOf_set (fun x cs => cellsOf.length e x cs) hc.2 hi (hx G _ m4)
          simp only [poff, hsz]
          refine ⟨by omega, by simpa using hc.1, ?_⟩
          refine (congrArg (listOf (cellsOf G.im G.w e) (xs.set i x)) ?_).mp m5
          rw [Nat.succ_mul]
          exact splice_in cs ds (by omega) m2
        · exact h.elim
      | cons t ts =>
        obtain ⟨t', h1, h2, h3⟩ := field (show fieldK i (i * sz) (.cons t ts) fun t' => tsetK p t' new hp fun t' => setFieldK i (.cons t ts) t' kk from h)
        exact ⟨t', h1, h2, h3⟩
      | _ => simp [tsetK] at h


theorem setCells_heap {g : Nat} {ty : TypeId} : ∀ (vs : List Value) {cs : List Value} {o : Nat} {w : World}, w.heap[g]? = some (.cells ⟨cs⟩ ty (0, 0)) → o + vs.length ≤ cs.length →
    (w.setCells g o vs).heap[g]? = some (.cells ⟨cs.take o ++ vs ++ cs.drop (o + vs.length)⟩ ty (0, 0))
  | [], cs, o, w, h, hl => by simpa [World.setCells] using h
  | v :: vs, cs, o, w, h, hl => by
    simp only [List.length_cons] at hl
    rw [World.setCells]
    have h1 : (w.setCell ⟨g, o, none⟩ v).heap[g]? = some (.cells ⟨cs.set o v⟩ ty (0, 0)) := by
      simp [World.setCell, Array.getElem?_modify, h]
    rw [setCells_heap vs h1 (by simp; omega)]
    congr 3
    rw [List.take_set, List.drop_set_of_lt (by omega)]
    simp only [List.length_cons]
    have ho : o < cs.length := by omega
    have e1 : (List.take (o + 1) cs).set o v = List.take o cs ++ [v] := by
      rw [List.take_succ_eq_append_getElem ho, List.set_append_right _ _ (by simp; omega)]
      simp [Nat.min_eq_left (Nat.le_of_lt ho)]
    rw [e1, show o + (vs.length + 1) = o + 1 + vs.length by omega]
    simp

theorem setCells_other {g : Nat} : ∀ (vs : List Value) {o : Nat} {w : World} {k : Nat}, k ≠ g → (w.setCells g o vs).heap[k]? = w.heap[k]?
  | [], _, _, _, _ => rfl
  | v :: vs, o, w, k, h => by
    rw [World.setCells, setCells_other vs h]
    exact Below.heap_setCell _ _ _ _ h

theorem setCells_size {g : Nat} : ∀ (vs : List Value) {o : Nat} {w : World}, (w.setCells g o vs).heap.size = w.heap.size
  | [], _, _ => rfl
  | v :: vs, o, w => by rw [World.setCells, setCells_size vs]; simp

theorem setCells_rest {g : Nat} : ∀ (vs : List Value) {o : Nat} {w : World}, (w.setCells g o vs).os = w.os ∧ (w.setCells g o vs).tape = w.tape ∧ (w.setCells g o vs).output = w.output
  | [], _, _ => ⟨rfl, rfl, rfl⟩
  | v :: vs, o, w => by rw [World.setCells]; exact setCells_rest vs

theorem run_store_t {t : TypeId} {y : TyI} {g oo : Nat} {v : Value} {cur : List Value} {ty : TypeId} (ht : TyOk P t y) (hb : G.w.heap[g]? = some (.cells ⟨cur⟩ ty (0, 0))) (hs : v.cells.toList.length = y.size) (h1 : ∀ c ∈ v.cells.toList, one c) (hl : oo + v.cells.toList.length ≤ cur.length) :
    (Instr.storeAt t (.pointer (some ⟨g, oo, none⟩)) v).run P G.w = .ok () (G.w.setCells g oo v.cells.toList) := by
  have hc : ∀ j, j < v.cells.toList.length → (G.w.cell? ⟨g, oo + 0 + j, none⟩).isSome = true := fun j hj => by
    rw [cell_of_row G.w g _ _ ty (0, 0) hb]
    simp
    omega
  have hf : ∀ j, j < v.cells.toList.length → G.w.frozen? ⟨g, oo + 0 + j, none⟩ = false := fun j _ => by simp [World.frozen?, hb]
  have hst := run_storeCells_cells (P := P) g oo v.cells.toList 0 G.w hc hf h1
  obtain ⟨i, hi, hisz, _⟩ := ht.info
  have : v.cells.size = i.size := by rw [hisz, ← hs]; simp
  simp only [Nat.add_zero] at hst
  simp [Instr.storeAt, Instr.sureAddr, storeVar, sizeOf, typeInfo, hi, this, hst]

theorem mem_mid {l1 l2 : Hp} {r : Nat} {c : Chunk} : (r, c) ∈ l1 ++ (r, c) :: l2 := by simp

theorem same_chunk (hm : Mdl w0 F0 G hp nx) {r : Nat} {c d : Chunk} (h1 : (r, c) ∈ hp) (h2 : (r, d) ∈ hp) : c = d := by
  have hn := hm.ids
  clear hm
  induction hp with
  | nil => simp at h1
  | cons x l ih =>
    simp only [List.map_cons, List.nodup_cons] at hn
    rcases List.mem_cons.1 h1 with e1 | e1 <;> rcases List.mem_cons.1 h2 with e2 | e2
    · rw [← e1] at e2; exact (Prod.mk.inj e2).2.symm
    · exact (hn.1 (List.mem_map.2 ⟨(r, d), e2, by rw [← e1]⟩)).elim
    · exact (hn.1 (List.mem_map.2 ⟨(r, c), e1, by rw [← e2]⟩)).elim
    · exact ih e1 e2 hn.2

theorem ok_store (hE : EnvOk P E) {t : TypeId} {x z : Operand} (ho : o.op = .store t x z) (hm : Mdl w0 F0 G hp nx) (hf : frOk G fr a.tmps) (h0 : denOp E (.store t x z) fr hp nx k) : Goes P w0 F0 G o a k := by
  obtain ⟨tx, h1, htx⟩ := evalK_out hf h0
  obtain ⟨y, hy, h2⟩ := tyK_out h1
  obtain ⟨tz, h3, htz⟩ := evalK_out hf h2
  have hty := hE.ty t y hy
  split at h3
  · exact h3.elim
  · next hkn =>
    have hcz := toCells hkn htz
    split at h3
    · next hs =>
      have hsz := nat_beq_eq hs
      have hlz := tCells.length hcz
      split at h3
      · next r p =>
        obtain ⟨c, hc, h4⟩ := lookK_out h3
        obtain ⟨b, k1, k2, k3⟩ := tVal_of_v htx
        obtain ⟨b', hr, hck⟩ := hm.chunk r c hc
        obtain rfl : b = b' := Option.some.inj (k1.symm.trans hr)
        split at h4
        · next t0 =>
          obtain ⟨t', h5, hs', hset⟩ := tsetK_out h4
          obtain ⟨l1, c0, l2, rfl, h6⟩ := updK_out h5
          obtain rfl : c0 = .own t0 := same_chunk hm mem_mid hc
          obtain ⟨_, cs, ty, hb, hcs⟩ := hck
          obtain ⟨m1, m2⟩ := hset G cs _ hcs hcz
          have hrun := run_store_t (oo := poff p) hty hb (by rw [hlz, hsz]) (tCells.one hcz) m1
          obtain ⟨r1, r2, r3⟩ := setCells_rest (g := b.blk) (a.eval z).cells.toList (o := poff p) (w := G.w)
          obtain ⟨hx, hm'⟩ := hm.write (c := .own t') hr rfl k2 r1 r2 r3 (setCells_size _) (fun k hk => setCells_other _ hk)
            (fun hx => ⟨k2, _, ty, setCells_heap _ hb m1, hx.tCells m2⟩) rfl
          exact goes_skip (G' := ⟨G.rho, G.im, _⟩) (by simp [execOp, ho, k3, hrun]) hx hm' h6
        · next ty e xs =>
          split at h4
          · next i sz q =>
            split at h4
            · next hb0 =>
              obtain rfl := nat_beq_eq hb0
              obtain ⟨hi, h5⟩ := h4
              obtain ⟨t', h6, hs', hset⟩ := tsetK_out h5
              obtain ⟨x', h7, hx'⟩ := decK_out h6
              obtain ⟨l1, c0, l2, rfl, h8⟩ := updK_out h7
              obtain rfl : c0 = .row ty e xs := same_chunk hm mem_mid hc
              obtain ⟨q1, q2, css, hown, hlist⟩ := hck
              have hlen := listOf.length (fun x cs => cellsOf.length e x cs) xs css hlist
              obtain ⟨m1, m2⟩ := enc_getD hlist hi
              obtain ⟨m3, m4⟩ := hset G _ _ m1 hcz
              rw [List.length_take, List.length_drop] at m3
              rcases hown.2 with ⟨hv, _⟩ | ⟨g, cap, cur, e1, _, e2, e3, e4, e5, e6⟩
              · simp [B.val, k2] at hv
              · have hg : b.blk = g := by simp [B.val, k2] at e1; exact e1.1
                subst hg
                have hcl : xs.length * e.sz ≤ cur.toList.length := by
                  have e8 : cur.toList.length = cap * e.sz := by simpa using e5
                  rw [e8]
                  exact Nat.mul_le_mul_right _ e3
                have hfit : i * e.sz + poff q + (a.eval z).cells.toList.length ≤ xs.length * e.sz := by omega
                have hrun := run_store_t (oo := i * e.sz + poff q) (cur := cur.toList) hty (by simpa using e2) (by rw [hlz, hsz]) (tCells.one hcz) (by omega)
                obtain ⟨r1, r2, r3⟩ := setCells_rest (g := b.blk) (a.eval z).cells.toList (o := i * e.sz + poff q) (w := G.w)
                have m5 := listOf_set (fun x cs => cellsOf.length e x cs) hlist hi (hx' G _ m4)
                have e7 : (i + 1) * e.sz = i * e.sz + e.sz := Nat.succ_mul _ _
                rw [e7, splice_in css _ (by omega) (by omega), ← e6, ← take_splice cur.toList _ hfit hcl] at m5
                have hnew := setCells_heap (ty := ty) (a.eval z).cells.toList (cs := cur.toList) (o := i * e.sz + poff q) (w := G.w) (g := b.blk) (by simpa using e2) (by omega)
                have hwr := fun hc => hm.write (c := .row ty e (xs.set i x')) hr rfl k2 r1 r2 r3 (setCells_size _) (fun k hk => setCells_other (g := b.blk) _ hk) hc rfl
                obtain ⟨hx, hm'⟩ := hwr (fun hx => by
                  refine ⟨by simpa using q1, q2, _, ⟨?_, .inr ⟨b.blk, cap, _, by simpa [B.val, k2] using e1, Nat.zero_le _, hnew, by simpa using e3, e4, ?_, by simp⟩⟩, hx.listOf m5⟩
                  · exact listOf.length (fun x cs => cellsOf.length e x cs) _ _ m5
                  · have e8 : cur.toList.length = cap * e.sz := by simpa using e5
                    have e9 := hfit
                    generalize (a.eval z).cells.toList = L at *
                    show (cur.toList.take _ ++ L ++ cur.toList.drop _).length = _
                    simp only [List.length_append, List.length_take, List.length_drop]
                    omega)
                exact goes_skip (G' := ⟨G.rho, G.im, _⟩) (by simp [execOp, ho, k3, poff, hrun]) hx hm' h8
            · exact h4.elim
          · exact h4.elim
        · exact h4.elim
      · exact h3.elim
    · exact h3.elim

end
end Go.J
