/-
  THE ROWS, part 1: what comes in.
-/
import Derived.Test.YtpanhnkcgmcghaaR0
import Derived.Test.YtpanhnkcgmcghaaT
import Derived.DataReads
import Derived.ChangeArms
set_option linter.unusedSimpArgs false
set_option linter.unusedVariables false
namespace Go.J
open Go.RowKit Go.ChangeShapes Go.WideShapes

theorem wf_int {k : IntKind} {n : Int} (h : (Lit.int k n).wf = true) : k.min ≤ n ∧ n ≤ k.max := by simpa [Lit.wf] using h

/-- How great a value that comes in may be. -/
def El.fits : (e : El) → e.ty → Prop
  | .u8, _ => True
  | .int k, n => k.min ≤ n ∧ n ≤ k.max
  | .bool, _ => True
  | .str, s => s.length ≤ maxLen
  | .rd e, xs => xs.length ≤ maxLen ∧ ∀ x ∈ xs, e.fits x
  | .nil, _ => True
  | .cons e es, x => e.fits x.1 ∧ es.fits x.2
  | .ar n e, xs => xs.length = n ∧ ∀ x ∈ xs, e.fits x

/-- Is a type's value told so? -/
def elTys (f : TypeId → El → Bool) : List (TypeId × Nat) → Nat → El → Bool
  | [], _, .nil => true
  | (t, d) :: fs, d', .cons e es => Nat.beq d d' && f t e && elTys f fs (d' + e.sz) es
  | _, _, _ => false
def elTy (l : List (Nat × TyI)) : Nat → TypeId → El → Bool
  | 0, _, _ => false
  | n + 1, t, e => match lookTy l t with
    | none => false
    | some y => Nat.beq y.size e.sz && (match y.k, e with
      | .int k, .int k' => k == k'
      | .int k, .u8 => k == .u8
      | .bool, .bool => true
      | .str, .str => true
      | .sl et, .rd e => Nat.blt 0 e.sz && elTy l n et e
      | .st fs, e => elTys (elTy l n) fs 0 e
      | .ar m et, .ar m' e => Nat.beq m m' && elTy l n et e
      | _, _ => false)

section
variable {H : Type} {enc : TypeId × Value → H} {P : Program} {l : List (Nat × TyI)} {w : World}

theorem cellsOf_size {t : TypeId} {y : TyI} (h : TyOk P t y) : P.cellsOf t = y.size := by
  have := ty_size h
  unfold Program.cellsOf
  rw [this]
  rfl
theorem elTy_size (hty : ∀ t i, (t, i) ∈ l → TyOk P t i) {n : Nat} {t : TypeId} {e : El} (h : elTy l n t e = true) : P.cellsOf t = e.sz := by
  cases n with
  | zero => simp [elTy] at h
  | succ n =>
    unfold elTy at h
    split at h
    · cases h
    · next y hy =>
      simp only [Bool.and_eq_true] at h
      rw [cellsOf_size (hty t y (lookTy_out hy)), nat_beq_eq h.1]

theorem addr_add_add (a : Addr) (m n : Nat) : (a.add m).add n = a.add (m + n) := by
  unfold Addr.add
  by_cases h1 : m = 0 <;> by_cases h2 : n = 0 <;> simp [h1, h2, Nat.add_assoc]

theorem rows_of {α : Type} {R : α → List Value → Prop} {F : α → Prop} {a : Addr} {sz : Nat} : ∀ (len : Nat), (∀ i, i < len → ∃ x css, w.cells? 0 (a.add (i * sz)) sz = some css ∧ R x css ∧ F x) →
    ∃ xs css, xs.length = len ∧ css.length = len * sz ∧ listOf R xs css ∧ (∀ j v, css[j]? = some v → w.cell? (a.add j) = some v) ∧ ∀ x ∈ xs, F x
  | 0, _ => ⟨[], [], rfl, by simp, rfl, fun j v h => by simp at h, fun x h => by cases h⟩
  | len + 1, h => by
    obtain ⟨xs, css, h1, h2, h3, h4, h5⟩ := rows_of len fun i hi => h i (by omega)
    obtain ⟨x, c, k1, k2, k3⟩ := h len (by omega)
    obtain ⟨_, m1, m2⟩ := World.cells?_some k1
    refine ⟨xs ++ [x], css ++ c, by simp [h1], by rw [List.length_append, h2, m1, Nat.add_mul, Nat.one_mul], listOf_append h3 ⟨c, [], by simp, k2, rfl⟩, fun j v hj => ?_, fun y hy => ?_⟩
    · by_cases hlt : j < css.length
      · rw [List.getElem?_append_left hlt] at hj
        exact h4 j v hj
      · rw [List.getElem?_append_right (by omega)] at hj
        have hlt2 : j - css.length < c.length := (List.getElem?_eq_some_iff.1 hj).1
        have := m2 (j - css.length) (by omega)
        rw [addr_add_add, h2, show len * sz + (j - len * sz) = j by omega] at this
        rw [this, ← h2]
        exact hj
    · rcases List.mem_append.1 hy with hy | hy
      · exact h5 y hy
      · simp at hy; subst hy; exact k3

theorem trod_el (hty : ∀ t i, (t, i) ∈ l → TyOk P t i) : ∀ (n fuel : Nat) (t : TypeId) (e : El) (cs : List Value) (r : DataW H × List MemPlace), elTy l n t e = true → DataW.trod enc P w 0 (fun _ => true) true fuel t cs = some r →
    ∃ x : e.ty, cellsOf (fun b => b < w.heap.size) w e x cs ∧ e.fits x := by
  intro n
  induction n with
  | zero => intro fuel t e cs r he; simp [elTy] at he
  | succ n ih =>
    intro fuel t e cs r he h
    have hsz : P.cellsOf t = e.sz := elTy_size hty he
    unfold elTy at he
    split at he
    · cases he
    · next y hy =>
      have hT := hty t y (lookTy_out hy)
      have und := hT.und
      rw [Bool.and_eq_true] at he
      obtain ⟨hsz0, he⟩ := he
      clear hsz0
      revert he
      generalize hyk : y.k = yk
      rw [hyk] at und
      intro he
      split at he
      · next k k' =>
        obtain rfl := eq_of_beq he
        obtain ⟨m, rfl, _, hw⟩ := DataW.trod_int und h
        exact ⟨m, rfl, wf_int hw⟩
      · next k =>
        obtain rfl := eq_of_beq he
        obtain ⟨m, rfl, _, hw⟩ := DataW.trod_int und h
        have hb := wf_int hw
        have e1 : IntKind.u8.min = 0 := by decide
        have e2 : IntKind.u8.max = 255 := by decide
        refine ⟨UInt8.ofNat m.toNat, ?_, trivial⟩
        show [Value.int .u8 m] = [.int .u8 ((UInt8.ofNat m.toNat).toNat : Int)]
        rw [UInt8.toNat_ofNat_of_lt' (by show m.toNat < 256; omega), Int.toNat_of_nonneg (by omega)]
      · obtain ⟨b, rfl, _⟩ := DataW.trod_bool und h
        exact ⟨b, rfl, trivial⟩
      · obtain ⟨s, rfl, _, hs⟩ := DataW.trod_string und h
        exact ⟨s.data.toList, rfl, by show s.data.toList.length ≤ maxLen; simpa using hs⟩
      · next et e' =>
        simp only [Bool.and_eq_true] at he
        obtain ⟨he0, he⟩ := he
        have he0 : 0 < e'.sz := by simpa [Nat.blt_eq] using he0
        have hsz' := elTy_size hty he
        rcases DataW.trod_slice und h with ⟨rfl, _⟩ | ⟨a, len, cap, elems, rest, m, _, rfl, _, _, hl, hm, hlen, hel, _, _⟩
        · exact ⟨[], ⟨none, 0, rfl, Nat.le_refl _, Nat.zero_le _, fun hp => absurd hp (by simp)⟩, by simp [El.fits]⟩
        · obtain ⟨xs, css, h1, h2, h3, h4, h5⟩ := rows_of (w := w) (a := a) (sz := e'.sz) (R := cellsOf (fun b => b < w.heap.size) w e') (F := e'.fits) len fun i hi => by
            have := hel i hi
            rw [List.getElem?_eq_getElem (by omega), Option.bind_eq_some_iff, hsz'] at this
            obtain ⟨c, hc, ht⟩ := this
            obtain ⟨x, k1, k2⟩ := ih m et e' c _ he ht
            exact ⟨x, c, hc, k1, k2⟩
          refine ⟨xs, ⟨some a, cap, by rw [h1], by omega, hm, fun hp => ?_⟩, by omega, h5⟩
          have hc0 : 0 < css.length := by rw [h2]; exact Nat.mul_pos (by omega) he0
          have hv := h4 0 css[0] (List.getElem?_eq_getElem hc0)
          have ha0 : a.add 0 = a := by simp [Addr.add]
          rw [ha0] at hv
          obtain ⟨b, o, sp⟩ := a
          have hsp : sp = none := World.cell?_spot hv
          subst hsp
          refine ⟨b, o, css, rfl, ?_, ?_, fun j v hj => ?_, h3⟩
          · exact World.block_lt_of_cell? w _ hv
          · exact World.block_lt_of_cell? w _ hv
          · have := h4 j v hj
            rwa [show (⟨b, o, none⟩ : Addr).add j = ⟨b, o + j, none⟩ by unfold Addr.add; split <;> simp_all] at this
      · next fs =>
        obtain ⟨fields, hu, hfs, _⟩ := und
        obtain ⟨xs, m, _, _, hcl, hxl, hf⟩ := DataW.trod_struct hu h
        have walk : ∀ (fs' : List (TypeId × Nat)) (i d' : Nat) (e' : El), (fields.toList.drop i).map (fun f => (f.type, f.offset)) = fs' → elTys (elTy l n) fs' d' e' = true → d' + e'.sz = cs.length →
            ∃ x : e'.ty, cellsOf (fun b => b < w.heap.size) w e' x (cs.drop d') ∧ e'.fits x := by
          intro fs'
          induction fs' with
          | nil =>
            intro i d' e' _ h2 h3
            cases e' <;> simp [elTys] at h2
            exact ⟨(), by simp only [El.sz] at h3; simp [cellsOf]; omega, trivial⟩
          | cons p fs' ih2 =>
            intro i d' e' h1 h2 h3
            obtain ⟨t', d⟩ := p
            cases e' <;> simp [elTys] at h2
            next e1 es =>
              obtain ⟨⟨hd, ht⟩, hr⟩ := h2
              subst hd
              cases hfi : fields.toList.drop i with
              | nil => rw [hfi] at h1; simp at h1
              | cons f rest =>
                rw [hfi, List.map_cons] at h1
                injection h1 with h11 h12
                injection h11 with h13 h14
                have hget : fields[i]? = some f := by
                  have : (fields.toList.drop i)[0]? = some f := by rw [hfi]; rfl
                  rw [List.getElem?_drop] at this
                  simpa using this
                have hlt : i < fields.size := (Array.getElem?_eq_some_iff.1 hget).1
                have := hf i f hget
                rw [List.getElem?_eq_getElem (by omega), h13, h14, elTy_size hty ht] at this
                obtain ⟨x1, k1, k2⟩ := ih m t' e1 _ _ ht this
                simp only [El.sz] at h3
                obtain ⟨x2, k3, k4⟩ := ih2 (i + 1) (d + e1.sz) es (by rw [← h12, ← List.drop_drop, hfi]; rfl) hr (by omega)
                exact ⟨(x1, x2), ⟨_, _, by rw [← List.drop_drop]; exact (List.take_append_drop e1.sz (cs.drop d)).symm, k1, k3⟩, k2, k4⟩
        have := walk fs 0 0 e (by simpa using hfs) he (by rw [hcl, hsz]; omega)
        simpa using this
      · next m et m' e' =>
        simp only [Bool.and_eq_true] at he
        obtain ⟨hm, he⟩ := he
        obtain rfl := nat_beq_eq hm
        have hsz' := elTy_size hty he
        obtain ⟨xs, q, _, _, hcl, hxl, hf⟩ := DataW.trod_array und h
        have walk : ∀ k, k ≤ m → ∃ ys : List e'.ty, ys.length = k ∧ listOf (cellsOf (fun b => b < w.heap.size) w e') ys (cs.take (k * e'.sz)) ∧ ∀ y ∈ ys, e'.fits y := by
          intro k
          induction k with
          | zero => intro _; exact ⟨[], rfl, by simp [listOf], fun y hy => by cases hy⟩
          | succ k ihk =>
            intro hk
            obtain ⟨ys, g1, g2, g3⟩ := ihk (by omega)
            have := hf k (by omega)
            rw [List.getElem?_eq_getElem (by omega), hsz'] at this
            obtain ⟨x, k1, k2⟩ := ih q et e' _ _ he this
            refine ⟨ys ++ [x], by simp [g1], ?_, fun y hy => ?_⟩
            · rw [Nat.add_mul, Nat.one_mul, List.take_add]
              exact listOf_append g2 ⟨_, [], by simp, k1, rfl⟩
            · rcases List.mem_append.1 hy with hy | hy
              · exact g3 y hy
              · simp at hy; subst hy; exact k2
        obtain ⟨ys, g1, g2, g3⟩ := walk m (Nat.le_refl _)
        have hlen : cs.length = m * e'.sz := by rw [hcl, hsz]; rfl
        rw [← hlen, List.take_length] at g2
        exact ⟨ys, ⟨g1, g2⟩, g1, g3⟩
      · cases he

/-- An argument, told by its content. -/
theorem arg_el {n : Nat} {t : TypeId} {e : El} {v : Value} {d : DataW H} {p : List MemPlace} (h1 : tysB P l = true) (he : elTy l n t e = true) (hv : Value.okWide P w .any 0 t v) (h : DataW.Trod enc P w 0 (fun _ => true) true t v d p) :
    ∃ x : e.ty, tVal (cxOf w) (e.enc x) v ∧ e.fits x := by
  have hty := tysB_out h1
  obtain ⟨fuel, hf⟩ := h
  obtain ⟨x, hc, hx⟩ := trod_el hty n fuel t e _ _ he hf
  refine ⟨x, ?_, hx⟩
  have hcells : tCells (cxOf w) (e.enc x) v.cells.toList := (tCells_enc (G := cxOf w) e x _).2 hc
  have one : ∀ y : V, (∃ u : Value, v = u ∧ u.cells = #[u]) → e.enc x = .v y → tVal (cxOf w) (e.enc x) v := by
    rintro y ⟨u, rfl, hu⟩ hy
    rw [hy] at hcells ⊢
    obtain ⟨c, e1, _, e3⟩ := hcells
    rw [hu] at e1
    simp at e1
    subst e1
    exact e3
  cases n with
  | zero => simp [elTy] at he
  | succ n =>
    unfold elTy at he
    split at he
    · cases he
    · next y hy =>
      have und := (hty t y (lookTy_out hy)).und
      rw [Bool.and_eq_true] at he
      obtain ⟨hsz0, he⟩ := he
      clear hsz0
      revert he
      generalize hyk : y.k = yk
      rw [hyk] at und
      intro he
      split at he
      · next k k' =>
        obtain ⟨m, rfl⟩ := okWide_int und hv
        exact one _ ⟨_, rfl, rfl⟩ rfl
      · next k =>
        obtain ⟨m, rfl⟩ := okWide_int und hv
        exact one _ ⟨_, rfl, rfl⟩ rfl
      · obtain ⟨m, rfl⟩ := okWide_bool und hv
        exact one _ ⟨_, rfl, rfl⟩ rfl
      · obtain ⟨m, rfl⟩ := okWide_string und hv
        exact one _ ⟨_, rfl, rfl⟩ rfl
      · next et e' =>
        obtain ⟨a, len, cap, rfl⟩ := okWide_slice und hv
        exact one _ ⟨_, rfl, rfl⟩ rfl
      · next fs =>
        obtain ⟨fields, hu, hfs, _⟩ := und
        obtain ⟨cs, rfl, _⟩ := okWide_struct hu hv
        cases e <;> first | exact ⟨cs.toList, by simp, hcells⟩ | (cases fs <;> simp [elTys] at he)
      · next m et m' e' =>
        have : ∃ cs, v = .agg cs := by
          unfold Value.okWide at hv
          rw [und] at hv
          obtain ⟨cs, h, _⟩ := hv
          exact ⟨cs, h⟩
        obtain ⟨cs, rfl⟩ := this
        exact ⟨cs.toList, by simp, hcells⟩
      · cases he
end
end Go.J
