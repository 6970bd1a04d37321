/-
  THE ENGINE, part 10: structs and slices that are written out; made slices; the length, the least, the greatest.
-/
import Derived.Test.YtpanhnkcgmcghaaE9
set_option linter.unusedSimpArgs false
set_option linter.unusedVariables false
set_option linter.unusedSectionVars false

namespace Go.J
open Go.RowKit

section
variable {P : Program} {E : Env} {w0 : World} {F0 : Base} {G : Cx} {hp : Hp} {nx : Nat} {o : Oper} {a : Act} {fr : List T} {k : T → Hp → Nat → Prop}

theorem splice_cells (cells vs : Array Value) (off : Nat) (h : off + vs.size ≤ cells.size) :
    (vs.zipIdx.foldl (fun (cs : Array Value) (x : Value × Nat) => cs.setIfInBounds (off + x.2) x.1) cells).toList = cells.toList.take off ++ vs.toList ++ cells.toList.drop (off + vs.size) := by
  have key : ∀ (l : List Value) (i : Nat) (cs : Array Value), off + i + l.length ≤ cs.size →
      ((l.zipIdx i).foldl (fun (cs : Array Value) (x : Value × Nat) => cs.setIfInBounds (off + x.2) x.1) cs).toList = cs.toList.take (off + i) ++ l ++ cs.toList.drop (off + i + l.length) := by
    intro l
    induction l with
    | nil => intro i cs _; simp
    | cons v l ih =>
      intro i cs hl
      simp only [List.length_cons] at hl
      rw [List.zipIdx_cons, List.foldl_cons, ih (i + 1) _ (by simp; omega)]
      simp only [Array.toList_setIfInBounds]
      have ho : off + i < cs.toList.length := by simp; omega
      rw [← Nat.add_assoc, List.take_set, List.drop_set_of_lt (by omega)]
      have e1 : (List.take (off + i + 1) cs.toList).set (off + i) v = List.take (off + i) cs.toList ++ [v] := by
        rw [List.take_succ_eq_append_getElem ho, List.set_append_right _ _ (by simp; omega)]
        simp [Nat.min_eq_left (show off + i ≤ cs.size by omega)]
      rw [e1, List.length_cons, show off + i + (l.length + 1) = off + i + 1 + l.length by omega]
      simp
  have := key vs.toList 0 cells (by simpa using h)
  rw [← Array.foldl_toList, Array.toList_zipIdx]
  simpa using this

/-- The parts' values. -/
def partsOk (G : Cx) : List (Nat × T) → List (Nat × Value) → Prop
  | [], vs => vs = []
  | (i, x) :: ps, vs => ∃ v vs', vs = (i, v) :: vs' ∧ tCells G x v.cells.toList ∧ partsOk G ps vs'

theorem partsK_out (hf : frOk G fr a.tmps) : ∀ {ps : List (Nat × Operand)} {kk : List (Nat × T) → Prop}, partsK fr ps kk → ∃ l, kk l ∧ partsOk G l (ps.map fun (i, x) => (i, a.eval x))
  | [], _, h => ⟨[], h, rfl⟩
  | (i, x) :: ps, kk, h => by
    obtain ⟨t, h1, ht⟩ := evalK_out hf h
    split at h1
    · exact h1.elim
    · next hkn =>
      obtain ⟨l, h2, hl⟩ := partsK_out hf (kk := fun l => kk ((i, t) :: l)) h1
      exact ⟨_, h2, _, _, rfl, toCells hkn ht, hl⟩

theorem decsK_out {e : El} : ∀ {ts : List T} {vs : List (Nat × Value)} {kk : List e.ty → Prop} {i0 : Nat}, decsK e ts hp kk → ∃ xs, kk xs ∧ ∀ (l : List (Nat × T)), l.map (·.2) = ts → partsOk G l vs →
    xs.length = ts.length ∧ listOf (cellsOf G.im G.w e) xs (vs.flatMap fun p => p.2.cells.toList)
  | [], vs, kk, _, h => ⟨[], h, fun l hl hp => by
      have : l = [] := by simpa using hl
      subst this
      simp [partsOk] at hp
      subst hp
      exact ⟨rfl, rfl⟩⟩
  | t :: ts, vs, kk, i0, h => by
    obtain ⟨x, h1, hx⟩ := decK_out (show decK e t hp fun x => decsK e ts hp fun xs => kk (x :: xs) from h)
    obtain ⟨xs, h2, hxs⟩ := decsK_out (vs := vs.tail) (kk := fun xs => kk (x :: xs)) (i0 := i0) h1
    refine ⟨x :: xs, h2, fun l hl hpp => ?_⟩
    match l, hl with
    | (i, t') :: l, hl =>
      simp only [List.map_cons, List.cons.injEq] at hl
      obtain ⟨rfl, hl2⟩ := hl
      obtain ⟨v, vs', rfl, k1, k2⟩ := hpp
      obtain ⟨m1, m2⟩ := hxs l hl2 k2
      exact ⟨by simp [m1], by
        simp only [List.flatMap_cons]
        exact ⟨_, _, rfl, hx G _ k1, m2⟩⟩

/-- Elements laid one behind the other, from the first on. -/
theorem fill_rows {size : Nat} : ∀ (vs : List (Nat × Value)) (i : Nat) (cells : Array Value) (done : List Value), (∀ p ∈ vs, p.2.cells.size = size) → (vs.map (·.1)) = List.range' i vs.length → cells.toList.take (i * size) = done → (i + vs.length) * size = cells.size →
    ∃ cells', Instr.fill (fun i => some (i * size, size)) cells vs = some cells' ∧ cells'.toList = done ++ vs.flatMap fun p => p.2.cells.toList
  | [], i, cells, done, _, _, hd, hs => ⟨cells, rfl, by
      simp at hs ⊢
      rw [← hd, List.take_of_length_le (by simp; omega)]⟩
  | (j, v) :: vs, i, cells, done, h1, h2, hd, hs => by
    simp only [List.map_cons, List.length_cons, List.range'_succ, List.cons.injEq] at h2
    obtain ⟨rfl, h2⟩ := h2
    have hv : v.cells.size = size := h1 (j, v) (by simp)
    have hle : j * size + v.cells.size ≤ cells.size := by
      rw [hv, ← hs, ← Nat.succ_mul]
      exact Nat.mul_le_mul_right _ (by simp only [List.length_cons]; omega)
    have hsp := splice_cells cells v.cells (j * size) hle
    have hsz : (v.cells.zipIdx.foldl (fun (cs : Array Value) (x : Value × Nat) => cs.setIfInBounds (j * size + x.2) x.1) cells).size = cells.size := by
      have := congrArg List.length hsp
      simp at this ⊢
      omega
    obtain ⟨cells', hf, hc⟩ := fill_rows vs (j + 1) _ (done ++ v.cells.toList) (fun p hp => h1 p (by simp [hp])) h2 (by
      rw [hsp, Nat.succ_mul, ← hd]
      have hl : (cells.toList.take (j * size) ++ v.cells.toList).length = j * size + size := by simp [hv]; omega
      rw [← hl, List.take_left]) (by rw [hsz, ← hs]; congr 1; simp; omega)
    refine ⟨cells', ?_, by rw [hc]; simp⟩
    unfold Instr.fill
    simp only [hv, ne_eq, not_true_eq_false, decide_false, Bool.false_or]
    rw [hv] at hle
    rw [if_neg (by simp; omega)]
    exact hf

theorem partsOk_size {e : El} : ∀ {l : List (Nat × T)} {vs : List (Nat × Value)}, partsOk G l vs → (∀ p ∈ l, p.2.size = e.sz) → ∀ p ∈ vs, p.2.cells.size = e.sz
  | [], vs, h, _ => by simp [partsOk] at h; simp [h]
  | (i, x) :: l, vs, ⟨v, vs', e1, k1, k2⟩, hs => by
    subst e1
    intro p hp
    rcases List.mem_cons.1 hp with hp | hp
    · subst hp
      have := tCells.length k1
      rw [hs (i, x) (by simp)] at this
      simpa using this
    · exact partsOk_size k2 (fun p hp => hs p (by simp [hp])) p hp

theorem partsOk_fst : ∀ {l : List (Nat × T)} {vs : List (Nat × Value)}, partsOk G l vs → vs.map (·.1) = l.map (·.1) ∧ vs.length = l.length
  | [], vs, h => by simp [partsOk] at h; simp [h]
  | (i, x) :: l, vs, ⟨v, vs', e1, _, k2⟩ => by
    subst e1
    have := partsOk_fst k2
    simp [this]


theorem idxOk_out : ∀ {ps : List (Nat × T)} {n : Nat}, idxOk ps n = true → ps.map (·.1) = List.range' n ps.length
  | [], _, _ => rfl
  | (i, x) :: ps, n, h => by
    simp only [idxOk, Bool.and_eq_true] at h
    obtain rfl := nat_beq_eq h.1
    simp [List.range'_succ, idxOk_out h.2]

theorem decsK_size {e : El} : ∀ {ts : List T} {kk : List e.ty → Prop}, decsK e ts hp kk → ∀ (l : List (Nat × T)) (vs : List (Nat × Value)), l.map (·.2) = ts → partsOk G l vs → ∀ p ∈ vs, p.2.cells.size = e.sz
  | [], _, _, l, vs, hl, hpp => by
    have : l = [] := by simpa using hl
    subst this
    simp [partsOk] at hpp
    simp [hpp]
  | t :: ts, kk, h, l, vs, hl, hpp => by
    obtain ⟨x, h1, hx⟩ := decK_out (show decK e t hp fun x => decsK e ts hp fun xs => kk (x :: xs) from h)
    match l, hl with
    | (i, t') :: l, hl =>
      simp only [List.map_cons, List.cons.injEq] at hl
      obtain ⟨rfl, hl2⟩ := hl
      obtain ⟨v, vs', rfl, k1, k2⟩ := hpp
      intro p hp
      rcases List.mem_cons.1 hp with hp | hp
      · subst hp
        have := cellsOf.length e x _ (hx G _ k1)
        simpa using this
      · exact decsK_size (kk := fun xs => kk (x :: xs)) h1 l vs' hl2 k2 p hp

theorem ok_buildSlice (hE : EnvOk P E) {t : TypeId} {n : Nat} {ps : Array (Nat × Operand)} (ho : o.op = .buildSlice t n ps) (hm : Mdl w0 F0 G hp nx) (hf : frOk G fr a.tmps) (h0 : denOp E (.buildSlice t n ps) fr hp nx k) : Goes P w0 F0 G o a k := by
  obtain ⟨y, hy, h1⟩ := tyK_out h0
  have hund := (hE.ty t y hy).und
  split at h1
  · next et hk =>
    rw [hk] at hund
    obtain ⟨z, hz, h2⟩ := tyK_out h1
    have hzo := hE.ty et z hz
    obtain ⟨l, h3, hl⟩ := partsK_out hf h2
    split at h3
    · next hb =>
      simp only [Bool.and_eq_true] at hb
      have hlen := nat_beq_eq hb.1.1
      have hidx := idxOk_out hb.1.2
      have hsmall := Nat.le_of_ble_eq_true hb.2
      split at h3
      · next e he =>
        obtain ⟨hsz, hpos, i, zz, hi, hz1, hzc⟩ := hzo.el e he
        obtain ⟨i', hi', hi1, _⟩ := hzo.info
        obtain rfl : i = i' := Option.some.inj (hi.symm.trans hi')
        have hzs : zz.cells.size = z.size := by
          have := cellsOf.length e e.dflt zz.cells.toList (hzc G.im G.w)
          simpa [hsz] using this
        have hsizes := decsK_size (G := G) h3 l _ rfl hl
        obtain ⟨xs, h4, hxs⟩ := decsK_out (G := G) (vs := ps.toList.map fun (i, x) => (i, a.eval x)) (i0 := 0) h3
        obtain ⟨hxl, hxc⟩ := hxs l rfl hl
        have h5 := lappK_out h4
        obtain ⟨hfst, hlen2⟩ := partsOk_fst hl
        have hn : xs.length = n := by rw [hxl]; simp [hlen]
        by_cases hn0 : n * z.size = 0
        · have hn1 : n = 0 := by
            rcases Nat.mul_eq_zero.1 hn0 with h | h
            · exact h
            · omega
          subst hn1
          have hxs0 : xs = [] := List.eq_nil_of_length_eq_zero hn
          subst hxs0
          have hps : ps.toList = [] := by
            have : l = [] := List.eq_nil_of_length_eq_zero hlen
            subst this
            simpa using hlen2
          have hrun : (Instr.buildSlice t 0 (ps.map fun (i, x) => (i, a.eval x))).run P G.w = .ok (.slice (some ⟨G.w.heap.size, 0, none⟩) 0 0) (G.w.alloc (.cells #[] et)) := by
            have hps2 : ps = #[] := by apply Array.ext'; simpa using hps
            subst hps2
            simp [Instr.buildSlice, run_underlying hund, sizeOf, typeInfo, hi, newRow, Instr.fill]
            congr 2
            apply Array.ext'
            simp [Array.toList_range]
          obtain ⟨G', hx, hw, hr, hm'⟩ := hm.new (w' := G.w.alloc (.cells #[] et)) rfl rfl rfl (by simp) (fun b hb => Below.heap_alloc _ _ _ hb) (.row et e []) ⟨G.w.heap.size, false, 0, 0⟩ (fun _ => by simp)
            (fun G' he hw _ => ⟨rfl, by simp, [], ⟨by simp, .inr ⟨G.w.heap.size, 0, #[], rfl, Nat.zero_le _, by rw [hw]; exact heap_alloc_new _ _, by simp, by simp, by simp, by simp⟩⟩, rfl⟩) rfl
          refine goes_world (v := .slice (some ⟨G.w.heap.size, 0, none⟩) 0 0) (x := .v (.own nx)) ?_ hx hm' ⟨_, hr, rfl⟩ h5
          rw [hw]
          simp only [execOp, ho, Sem.run_bind, hrun, Result.andThen_ok, Sem.run_pure]
        · have hcs : ((Array.range (n * i.size)).map (zz.cells[· % zz.cells.size]!)).size = n * z.size := by simp [hi1]
          obtain ⟨cells', hf', hc'⟩ := fill_rows (size := e.sz) (ps.toList.map fun (i, x) => (i, a.eval x)) 0 ((Array.range (n * i.size)).map (zz.cells[· % zz.cells.size]!)) [] hsizes
            (by rw [hfst, hidx, hlen2]) (by simp) (by rw [hcs, hlen2, hlen, hsz, Nat.zero_add])
          have hrun := run_buildSlice (P := P) G.w t et n (ps.map fun (i, x) => (i, a.eval x)) cells' i zz hund hi hz1 (by rw [hi1]; omega) (by rw [hi1]; exact hn0)
            (by rw [show i.size = e.sz by rw [hi1, hsz]] at hf' ⊢; rw [Array.toList_map]; exact hf')
          simp only [List.nil_append] at hc'
          have hlx := listOf.length (fun x cs => cellsOf.length e x cs) _ _ hxc
          obtain ⟨G', hx, hw, hr, hm'⟩ := hm.new (w' := G.w.alloc (.cells cells' et)) rfl rfl rfl (by simp) (fun b hb => Below.heap_alloc _ _ _ hb) (.row et e xs) ⟨G.w.heap.size, false, n, n⟩ (fun _ => by simp)
            (fun G' he hw _ => ⟨hn.symm, by simp only [maxLen]; have := Nat.le_mul_of_pos_right n hpos; omega, cells'.toList, ⟨by rw [hc']; exact hlx, .inr ⟨G.w.heap.size, n, cells', by rw [hn]; rfl, Nat.zero_le _, by rw [hw]; exact heap_alloc_new _ _, by omega, by simp only [maxLen]; have := Nat.le_mul_of_pos_right n hpos; omega,
              by rw [← Array.length_toList, hc', hlx, hn], by rw [hc', ← hlx, List.take_length]⟩⟩, by rw [hc']; exact he.listOf hxc⟩) rfl
          refine goes_world (v := .slice (some ⟨G.w.heap.size, 0, none⟩) n n) (x := .v (.own nx)) ?_ hx hm' ⟨_, hr, rfl⟩ h5
          rw [hw]
          simp only [execOp, ho, Sem.run_bind, hrun, Result.andThen_ok, Sem.run_pure]
      · exact h3.elim
    · exact h3.elim
  · exact h1.elim

end
end Go.J
