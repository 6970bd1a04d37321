/-
  THE ENGINE, part 22: a state told by its ghosts is that state.
-/
import Derived.Test.YtpanhnkcgmcghaaE21
set_option linter.unusedSimpArgs false
set_option linter.unusedVariables false
set_option linter.unusedSectionVars false

namespace Go.J

/-! Encoding, as a function. -/
def Sh.enc (ρ : Nat → Nat) : (s : Sh) → {R : Type} → s.add R → T × R
  | .el e, _, x => (e.enc x.1, x.2)
  | .lend e, _, x => (.v (.rd e x.1), x.2)
  | .rp e, _, x => (.v (.rp e [x.1] 0 []), x.2)
  | .own q, _, x => (.v (.own (ρ q)), x)
  | .ref q, _, x => (.v (.ptr (ρ q) []), x)
  | .any, _, x => (.v .any, x)
  | .nil, _, x => (.nil, x)
  | .cons s ss, _, x => (.cons (s.enc ρ x).1 (ss.enc ρ (s.enc ρ x).2).1, (ss.enc ρ (s.enc ρ x).2).2)
def Sh.encs (ρ : Nat → Nat) : (ss : List Sh) → {R : Type} → Sh.adds ss R → List T × R
  | [], _, x => ([], x)
  | s :: ss, _, x => ((s.enc ρ x).1 :: (Sh.encs ρ ss (s.enc ρ x).2).1, (Sh.encs ρ ss (s.enc ρ x).2).2)
def CSh.enc (ρ : Nat → Nat) : (c : CSh) → {R : Type} → c.add R → Chunk × R
  | .row ty e, _, x => (.row ty e x.1, x.2)
  | .own s, _, x => (.own (s.enc ρ x).1, (s.enc ρ x).2)
def CSh.encs (ρ : Nat → Nat) : (cs : List (Nat × CSh)) → {R : Type} → CSh.adds cs R → Hp × R
  | [], _, x => ([], x)
  | (q, c) :: cs, _, x => ((ρ q, (c.enc ρ x).1) :: (CSh.encs ρ cs (c.enc ρ x).2).1, (CSh.encs ρ cs (c.enc ρ x).2).2)

theorem Sh.encK_eq (ρ : Nat → Nat) : ∀ (s : Sh) {R : Type} (x : s.add R) (k : T → R → Prop), s.encK ρ x k = k (s.enc ρ x).1 (s.enc ρ x).2
  | .el e, _, x, k => rfl
  | .lend e, _, x, k => rfl
  | .rp e, _, x, k => rfl
  | .own q, _, x, k => natK_eq _ _
  | .ref q, _, x, k => natK_eq _ _
  | .any, _, x, k => rfl
  | .nil, _, x, k => rfl
  | .cons s ss, _, x, k => by
    simp only [Sh.encK]
    rw [Sh.encK_eq ρ s x, Sh.encK_eq ρ ss]
    rfl
theorem Sh.encsK_eq (ρ : Nat → Nat) : ∀ (ss : List Sh) {R : Type} (x : Sh.adds ss R) (k : List T → R → Prop), Sh.encsK ρ ss x k = k (Sh.encs ρ ss x).1 (Sh.encs ρ ss x).2
  | [], _, x, k => rfl
  | s :: ss, _, x, k => by
    simp only [Sh.encsK]
    rw [Sh.encK_eq ρ s x, Sh.encsK_eq ρ ss]
    rfl
theorem CSh.encK_eq (ρ : Nat → Nat) (c : CSh) {R : Type} (x : c.add R) (k : Chunk → R → Prop) : c.encK ρ x k = k (c.enc ρ x).1 (c.enc ρ x).2 := by
  cases c with
  | row ty e => rfl
  | own s =>
    simp only [CSh.encK]
    rw [Sh.encK_eq ρ s x]
    rfl
theorem CSh.encsK_eq (ρ : Nat → Nat) : ∀ (cs : List (Nat × CSh)) {R : Type} (x : CSh.adds cs R) (k : Hp → R → Prop), CSh.encsK ρ cs x k = k (CSh.encs ρ cs x).1 (CSh.encs ρ cs x).2
  | [], _, x, k => rfl
  | (q, c) :: cs, _, x, k => by
    simp only [CSh.encsK]
    rw [CSh.encK_eq ρ c x, natK_eq, CSh.encsK_eq ρ cs]
    rfl

/-! What the numbers are bound to. -/
def mapF (l : List (Nat × Option Nat)) (q : Nat) : Option (Option Nat) :=
  match l with
  | [] => none
  | (q', r) :: l => match Nat.beq q' q with
    | true => some r
    | false => mapF l q
theorem mapK_out {k : Option Nat → Prop} : ∀ {l : List (Nat × Option Nat)} {q : Nat}, mapK l q k → ∃ r, mapF l q = some r ∧ k r
  | [], _, h => h.elim
  | (q', r) :: l, q, h => by
    unfold mapK at h
    unfold mapF
    split at h
    · next hb => rw [hb]; exact ⟨r, rfl, h⟩
    · next hb => rw [hb]; exact mapK_out h
theorem sameO_eq {a b : Option Nat} (h : sameO a b = true) : a = b := by
  cases a <;> cases b <;> simp [sameO] at h
  · rfl
  · rw [h]
theorem bindK_out {r : Option Nat} {k : Bool → Prop} : ∀ {l : List (Nat × Option Nat)} {q : Nat}, bindK l q r k → (mapF l q = none ∧ k true) ∨ (mapF l q = some r ∧ k false)
  | [], _, h => .inl ⟨rfl, h⟩
  | (q', r') :: l, q, h => by
    unfold bindK at h
    unfold mapF
    split at h
    · next hb =>
      rw [hb]
      split at h
      · next hs => exact .inr ⟨by rw [sameO_eq hs], h⟩
      · exact h.elim
    · next hb => rw [hb]; exact bindK_out h

def nilB : B := ⟨0, true, 0, 0⟩

section
variable {w0 : World} {F0 : Base} {G : Cx} {nx : Nat}

def tgt (G : Cx) : Option Nat → Option B
  | some r => G.rho r
  | none => some nilB

/-- A context that knows the state by the ghosts' numbers. -/
structure Compat (G : Cx) (im : Nat → Prop) (d : D) (G' : Cx) : Prop where
  w : G'.w = G.w
  im : ∀ b, im b → G'.im b
  rho : ∀ q r, mapF d.map q = some r → G'.rho q = tgt G r
  lent : ∀ r b, r ∈ d.lent → G.rho r = some b → b.nil = false → G'.im b.blk

structure DI (w0 : World) (F0 : Base) (G : Cx) (nx : Nat) (I : Nat → Prop) (d : D) (taken : Hp) : Prop where
  mdl : Mdl w0 F0 ⟨G.rho, I, G.w⟩ (d.hp ++ taken) nx
  im : ∀ b, G.im b → I b
  lt : ∀ q r, mapF d.map q = some r → q < d.n
  lentIn : ∀ r, r ∈ d.lent → ∃ c, (r, c) ∈ d.hp ∧ (c.rw = true ∨ ∀ b, G.rho r = some b → b.nil = false → I b.blk)

structure Le (im im' : Nat → Prop) (d d' : D) : Prop where
  n : d'.n = d.n
  im : ∀ b, im b → im' b
  map : ∀ q r, mapF d.map q = some r → mapF d'.map q = some r
  lent : ∀ r, r ∈ d.lent → r ∈ d'.lent

theorem Le.refl (im : Nat → Prop) (d : D) : Le im im d d := ⟨rfl, fun _ h => h, fun _ _ h => h, fun _ h => h⟩
theorem Le.trans {im1 im2 im3 : Nat → Prop} {d1 d2 d3 : D} (h : Le im1 im2 d1 d2) (k : Le im2 im3 d2 d3) : Le im1 im3 d1 d3 :=
  ⟨k.n.trans h.n, fun b e => k.im b (h.im b e), fun q r e => k.map q r (h.map q r e), fun r e => k.lent r (h.lent r e)⟩
theorem Compat.le {im im' : Nat → Prop} {d d' : D} {G' : Cx} (h : Le im im' d d') (c : Compat G im' d' G') : Compat G im d G' :=
  ⟨c.w, fun b e => c.im b (h.im b e), fun q r e => c.rho q r (h.map q r e), fun r b e => c.lent r b (h.lent r e)⟩

/-- The same blocks, other numbers. -/
theorem cells_move {im : Nat → Prop} {G' : Cx} (hw : G'.w = G.w) (him : ∀ b, im b → G'.im b) {e : El} {x : e.ty} {cs : List Value} (h : cellsOf im G.w e x cs) : cellsOf G'.im G'.w e x cs :=
  cellsOf.mono him (fun _ _ => by rw [hw]) (by rw [hw]; exact Nat.le_refl _) e x cs h
theorem list_move {im : Nat → Prop} {G' : Cx} (hw : G'.w = G.w) (him : ∀ b, im b → G'.im b) {e : El} {xs : List e.ty} {cs : List Value} (h : listOf (cellsOf im G.w e) xs cs) : listOf (cellsOf G'.im G'.w e) xs cs :=
  listOf.mono (fun _ _ k => cells_move hw him k) _ _ h

/-- An element told by its value: as a value. -/
theorem dec_el {e : El} {t : T} {kk : e.ty → Prop} (h : decK e t [] kk) : ∃ x, kk x ∧ ∀ (im : Nat → Prop) (G' : Cx), G'.w = G.w → (∀ b, G.im b → im b) → (∀ b, im b → G'.im b) →
    (∀ cs, tCells G t cs → tCells G' (e.enc x) cs) ∧ (∀ v, tVal1 G t v → tVal1 G' (e.enc x) v) := by
  obtain ⟨x, hk, hx⟩ := decK_out h
  refine ⟨x, hk, fun im G' hw h1 h2 => ?_⟩
  have hc : ∀ cs, tCells G t cs → tCells G' (e.enc x) cs := fun cs hcs => (tCells_enc e x cs).2 (cells_move hw (fun b hb => h2 b (h1 b hb)) (hx G cs hcs))
  refine ⟨hc, fun v hv => ?_⟩
  cases t with
  | v y =>
    have hkn : (T.v y).known = true := by
      cases y <;> first | rfl | (cases e <;> simp [decK] at h)
    have hcs := toCells hkn (show tVal G (.v y) v from hv)
    obtain ⟨c, e1, e2, e3⟩ := hcs
    have hone : v.cells = #[v] := by
      cases v <;> first | rfl | skip
      all_goals (exfalso; revert hv; cases y <;> simp [tVal1, vOk, cellsOf, T.known] at hkn ⊢)
    have hcv := hc v.cells.toList (toCells hkn (show tVal G (.v y) v from hv))
    rw [hone] at hcv
    cases e with
    | cons e es => cases y <;> simp [decK] at h
    | nil => cases y <;> simp [decK] at h
    | ar n e => cases y <;> simp [decK] at h
    | _ => obtain ⟨c', e1', _, e3'⟩ := hcv; simp at e1'; subst e1'; exact e3'
  | tup ts => exact hv.elim
  | nil =>
    obtain ⟨cs, rfl, hcs⟩ := hv
    cases e <;> first | (simp [decK] at h; done) | exact ⟨cs, rfl, hc cs hcs⟩
  | cons t ts =>
    obtain ⟨cs, rfl, hcs⟩ := hv
    cases e <;> first | (simp [decK] at h; done) | exact ⟨cs, rfl, hc cs hcs⟩
  | arr e' xs n =>
    obtain ⟨cs, rfl, hcs⟩ := hv
    cases e <;> first | (simp [decK] at h; done) | exact ⟨cs, rfl, hc cs hcs⟩

/-- A part of the heap is left out, or put in another order. -/
theorem Mdl.sub {hp hp' : Hp} (h : Mdl w0 F0 G hp nx) (hs : ∀ p, p ∈ hp' → p ∈ hp) (hn : (hp'.map (·.1)).Nodup) : Mdl w0 F0 G hp' nx :=
  ⟨h.os, h.tape, h.output, h.size, h.keep, h.imLt, h.fresh, fun r c hm => h.chunk r c (hs _ hm), hn, fun r c s d b b' h1 h2 => h.apart r c s d b b' (hs _ h1) (hs _ h2), fun r c b h1 => h.mine r c b (hs _ h1), h.imNew⟩

/-- A row that nobody writes from here on. -/
theorem Mdl.freeze {l1 l2 : Hp} {r : Nat} {ty : TypeId} {e : El} {xs : List e.ty} {b : B} (h : Mdl w0 F0 G (l1 ++ (r, .row ty e xs) :: l2) nx) (hr : G.rho r = some b) :
    Mdl w0 F0 ⟨G.rho, fun k => G.im k ∨ (b.nil = false ∧ k = b.blk), G.w⟩ (l1 ++ (r, .fz ty e xs) :: l2) nx := by
  have hm0 : (r, Chunk.row ty e xs) ∈ l1 ++ (r, .row ty e xs) :: l2 := by simp
  obtain ⟨b', hr', hck⟩ := h.chunk r _ hm0
  obtain rfl : b = b' := Option.some.inj (hr.symm.trans hr')
  have hmine := fun hn => h.mine r _ b hm0 rfl hr hn
  have hx : Ext G ⟨G.rho, fun k => G.im k ∨ (b.nil = false ∧ k = b.blk), G.w⟩ := ⟨fun _ _ h => h, fun _ h => .inl h, fun _ _ => rfl, Nat.le_refl _⟩
  have hnd := h.ids
  simp only [List.map_append, List.map_cons] at hnd
  have hone : ∀ s d, (s, d) ∈ l1 ++ (r, .fz ty e xs) :: l2 → (s = r ∧ d = .fz ty e xs) ∨ (s ≠ r ∧ (s, d) ∈ l1 ++ (r, Chunk.row ty e xs) :: l2) := by
    intro s d hq
    rcases List.mem_append.1 hq with hm | hm
    · refine .inr ⟨?_, by simp [hm]⟩
      rintro rfl
      exact (List.nodup_append.1 hnd).2.2 s (List.mem_map.2 ⟨(s, d), hm, rfl⟩) s (by simp) rfl
    · rcases List.mem_cons.1 hm with hm2 | hm2
      · cases hm2; exact .inl ⟨rfl, rfl⟩
      · refine .inr ⟨?_, by simp [hm2]⟩
        rintro rfl
        exact (List.nodup_cons.1 (List.nodup_append.1 hnd).2.1).1 (List.mem_map.2 ⟨(s, d), hm2, rfl⟩)
  refine ⟨h.os, h.tape, h.output, h.size, h.keep, fun k hk => ?_, h.fresh, fun s d hm => ?_, by simpa using h.ids, fun s1 d1 s2 d2 b1 b2 hm1 hm2 hne hw1 hw2 hr1 hr2 hn1 hn2 => ?_, fun s d b2 hm hw hr2 hn2 => ?_, fun k hk => hk.elim (h.imNew k) fun ⟨hn, e⟩ => .inr (e ▸ (hmine hn).1)⟩
  · rcases hk with hk | ⟨hn, rfl⟩
    · exact h.imLt k hk
    · exact (hmine hn).2.1
  · rcases hone s d hm with ⟨rfl, rfl⟩ | ⟨_, hm⟩
    · refine ⟨b, hr, ?_⟩
      obtain ⟨A, c, e1, e2, e3, e4⟩ := own_row hck
      simp only [B.val] at e1
      simp at e1
      refine ⟨hck.1, by rw [hck.1, e1.2.2]; exact e2, hck.2.1, fun hp => ?_⟩
      rw [hck.1] at hp
      obtain ⟨bb, oo, css, k1, k2, k3⟩ := e4 hp
      have hn : b.nil = false := by
        cases hb : b.nil with
        | false => rfl
        | true => rw [← e1.1, hb] at k1; simp at k1
      rw [← e1.1, hn] at k1
      simp at k1
      obtain ⟨rfl, rfl⟩ := k1
      exact ⟨hn, .inr ⟨hn, rfl⟩, (hmine hn).2.1, css, k2, hx.listOf k3⟩
    · obtain ⟨b2, hr2, hc2⟩ := h.chunk s d hm
      exact ⟨b2, hr2, hx.chunkOk hc2 fun _ _ => rfl⟩
  · rcases hone s1 d1 hm1 with ⟨rfl, rfl⟩ | ⟨_, hm1⟩
    · cases hw1
    · rcases hone s2 d2 hm2 with ⟨rfl, rfl⟩ | ⟨_, hm2⟩
      · cases hw2
      · exact h.apart s1 d1 s2 d2 b1 b2 hm1 hm2 hne hw1 hw2 hr1 hr2 hn1 hn2
  · rcases hone s d hm with ⟨rfl, rfl⟩ | ⟨hne, hm⟩
    · cases hw
    · have hmi := h.mine s d b2 hm hw hr2 hn2
      refine ⟨hmi.1, hmi.2.1, ?_⟩
      rintro (hk | ⟨hn, hk⟩)
      · exact hmi.2.2 hk
      · exact h.apart s d r _ b2 b hm hm0 hne hw rfl hr2 hr hn2 hn hk

theorem Mdl.blk_lt {hp : Hp} {r : Nat} {c : Chunk} {b : B} (h : Mdl w0 F0 G hp nx) (hm : (r, c) ∈ hp) (hr : G.rho r = some b) (hn : b.nil = false) (hne : ∃ v, G.w.cell? ⟨b.blk, 0, none⟩ = some v) : b.blk < G.w.heap.size := by
  by_cases hlt : b.blk < G.w.heap.size
  · exact hlt
  · obtain ⟨v, hv⟩ := hne
    simp [World.cell?, Array.getElem?_eq_none (Nat.le_of_not_lt hlt)] at hv

end
end Go.J
