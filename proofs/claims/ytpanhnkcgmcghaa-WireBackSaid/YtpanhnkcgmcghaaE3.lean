/-
  THE ENGINE, part 3: what the words of part 2 say; where our blocks lie; a state.
-/
import Derived.Test.YtpanhnkcgmcghaaE2
import Derived.Deep.MidRow
set_option linter.unusedSimpArgs false
set_option linter.unusedVariables false
set_option linter.unusedSectionVars false

namespace Go.J

/-! What the lists' words say. -/
theorem lgetK_out {α : Type} {k : α → Prop} : ∀ {l : List α} {n : Nat}, lgetK l n k → ∃ x, l[n]? = some x ∧ k x
  | [], _, h => by simp [lgetK] at h
  | x :: _, 0, h => ⟨x, rfl, h⟩
  | _ :: l, n + 1, h => by simpa using lgetK_out (l := l) (n := n) h

theorem lsetK_out {α : Type} : ∀ {l : List α} {n : Nat} {x : α} {k : List α → Prop}, lsetK l n x k → n < l.length ∧ k (l.set n x)
  | [], _, _, _, h => by simp [lsetK] at h
  | _ :: _, 0, _, _, h => ⟨by simp, h⟩
  | y :: l, n + 1, x, k, h => by
    have h := lsetK_out (l := l) (n := n) (k := fun l => k (y :: l)) h
    exact ⟨by simpa using h.1, by simpa using h.2⟩

theorem lappK_out {α : Type} : ∀ {l m : List α} {k : List α → Prop}, lappK l m k → k (l ++ m)
  | [], _, _, h => h
  | y :: l, m, k, h => by simpa using lappK_out (l := l) (k := fun l => k (y :: l)) h

theorem lpadK_out : ∀ {n : Nat} {l : List T} {k : List T → Prop}, lpadK n l k → l.length ≤ n ∧ k (l ++ List.replicate (n - l.length) (.v .any))
  | 0, [], _, h => ⟨by simp, by simpa [lpadK] using h⟩
  | 0, _ :: _, _, h => by simp [lpadK] at h
  | n + 1, [], k, h => by
    have h := lpadK_out (n := n) (l := []) (k := fun l => k (.v .any :: l)) h
    refine ⟨by simp, ?_⟩
    have h2 := h.2
    simp only [List.length_nil, Nat.sub_zero, List.nil_append] at h2 ⊢
    rwa [List.replicate_succ]
  | n + 1, x :: l, k, h => by
    have h := lpadK_out (n := n) (l := l) (k := fun l => k (x :: l)) h
    refine ⟨by simpa using h.1, ?_⟩
    have h2 := h.2
    simp only [List.length_cons, List.cons_append] at h2 ⊢
    rwa [Nat.add_sub_add_right]

theorem nat_beq_eq {a b : Nat} (h : Nat.beq a b = true) : a = b := Nat.eq_of_beq_eq_true h

theorem lookK_out {k : Chunk → Prop} : ∀ {hp : Hp} {r : Nat}, lookK hp r k → ∃ c, (r, c) ∈ hp ∧ k c
  | [], _, h => by simp [lookK] at h
  | (r', c) :: hp, r, h => by
    unfold lookK at h
    cases hb : Nat.beq r' r with
    | true =>
      have hb' := hb
      obtain rfl := nat_beq_eq hb'
      rw [hb] at h
      exact ⟨c, by simp, h⟩
    | false =>
      rw [hb] at h
      obtain ⟨c', hm, hk⟩ := lookK_out (hp := hp) h
      exact ⟨c', by simp [hm], hk⟩

/-- One chunk in another's place. -/
theorem updK_out : ∀ {hp : Hp} {r : Nat} {c : Chunk} {k : Hp → Prop}, updK hp r c k → ∃ l1 c0 l2, hp = l1 ++ (r, c0) :: l2 ∧ k (l1 ++ (r, c) :: l2)
  | [], _, _, _, h => by simp [updK] at h
  | (r', c') :: hp, r, c, k, h => by
    unfold updK at h
    cases hb : Nat.beq r' r with
    | true =>
      obtain rfl := nat_beq_eq hb
      rw [hb] at h
      exact ⟨[], c', hp, rfl, h⟩
    | false =>
      rw [hb] at h
      obtain ⟨l1, c0, l2, e, hk⟩ := updK_out (hp := hp) (k := fun hp => k ((r', c') :: hp)) h
      exact ⟨(r', c') :: l1, c0, l2, by simp [e], hk⟩

theorem delK_out : ∀ {hp : Hp} {r : Nat} {k : Hp → Prop}, delK hp r k → ∃ l1 c0 l2, hp = l1 ++ (r, c0) :: l2 ∧ k (l1 ++ l2)
  | [], _, _, h => by simp [delK] at h
  | (r', c') :: hp, r, k, h => by
    unfold delK at h
    cases hb : Nat.beq r' r with
    | true =>
      obtain rfl := nat_beq_eq hb
      rw [hb] at h
      exact ⟨[], c', hp, rfl, h⟩
    | false =>
      rw [hb] at h
      obtain ⟨l1, c0, l2, e, hk⟩ := delK_out (hp := hp) (k := fun hp => k ((r', c') :: hp)) h
      exact ⟨(r', c') :: l1, c0, l2, by simp [e], hk⟩

theorem castK_out {e' e : El} {xs : List e'.ty} {k : List e.ty → Prop} (h : castK e' e xs k) : ∃ he : e' = e, k (he ▸ xs) := by
  have h := castK_iff h
  split at h
  · exact ⟨El.same_eq (by assumption), h⟩
  · exact h.elim

theorem castK_eq {e' e : El} {xs : List e'.ty} {k : List e.ty → Prop} (h : castK e' e xs k) : e' = e := (castK_out h).1
theorem castK_self {e : El} {xs : List e.ty} {k : List e.ty → Prop} (h : castK e e xs k) : k xs := by
  obtain ⟨he, hk⟩ := castK_out h
  exact hk

theorem tyK_out {k : TyI → Prop} : ∀ {l : List (Nat × TyI)} {t : TypeId}, tyK l t k → ∃ i, (t, i) ∈ l ∧ k i
  | [], _, h => by simp [tyK] at h
  | (t', i) :: l, t, h => by
    unfold tyK at h
    cases hb : Nat.beq t' t with
    | true =>
      have hb' := hb
      obtain rfl := nat_beq_eq hb'
      rw [hb] at h
      exact ⟨i, by simp, h⟩
    | false =>
      rw [hb] at h
      obtain ⟨c', hm, hk⟩ := tyK_out (l := l) h
      exact ⟨c', by simp [hm], hk⟩

/-! A state. -/
def B.val (b : B) : Value := .slice (if b.nil then none else some ⟨b.blk, 0, none⟩) b.len b.cap

def chunkOk (G : Cx) : Chunk → B → Prop
  | .own t, b => b.nil = false ∧ ∃ cs ty, G.w.heap[b.blk]? = some (.cells ⟨cs⟩ ty (0, 0)) ∧ tCells G t cs
  | .row ty e xs, b => b.len = xs.length ∧ b.cap ≤ maxLen ∧ ∃ css, G.w.ownsRow 0 ty e.sz b.val xs.length css ∧ listOf (cellsOf G.im G.w e) xs css
  | .fz _ e xs, b => b.len = xs.length ∧ b.len ≤ b.cap ∧ b.cap ≤ maxLen ∧
      (0 < b.len → b.nil = false ∧ G.im b.blk ∧ b.blk < G.w.heap.size ∧ ∃ css, cellsAt G.w b.blk 0 css ∧ listOf (cellsOf G.im G.w e) xs css)

def Chunk.rw : Chunk → Bool
  | .own _ => true
  | .row _ _ _ => true
  | .fz _ _ _ => false

/-- What the call may write of what was there; what nobody writes. -/
structure Base where
  f : Nat → Prop
  im : Nat → Prop
instance : CoeFun Base (fun _ => Nat → Prop) := ⟨Base.f⟩

structure Mdl (w0 : World) (F0 : Base) (G : Cx) (hp : Hp) (nx : Nat) : Prop where
  os : G.w.os = w0.os
  tape : G.w.tape = w0.tape
  output : G.w.output = w0.output
  size : w0.heap.size ≤ G.w.heap.size
  keep : ∀ b, b < w0.heap.size → ¬ F0 b → G.w.heap[b]? = w0.heap[b]?
  imLt : ∀ b, G.im b → b < G.w.heap.size
  fresh : ∀ r, nx ≤ r → G.rho r = none
  chunk : ∀ r c, (r, c) ∈ hp → ∃ b, G.rho r = some b ∧ chunkOk G c b
  ids : (hp.map (·.1)).Nodup
  apart : ∀ r c s d b b', (r, c) ∈ hp → (s, d) ∈ hp → r ≠ s → c.rw = true → d.rw = true → G.rho r = some b → G.rho s = some b' → b.nil = false → b'.nil = false → b.blk ≠ b'.blk
  mine : ∀ r c b, (r, c) ∈ hp → c.rw = true → G.rho r = some b → b.nil = false → (w0.heap.size ≤ b.blk ∨ F0 b.blk) ∧ b.blk < G.w.heap.size ∧ ¬ G.im b.blk
  imNew : ∀ b, G.im b → F0.im b ∨ w0.heap.size ≤ b ∨ F0 b

def frOk (G : Cx) (fr : List T) (vs : Array Value) : Prop := fr.length = vs.size ∧ ∀ (i : Nat) (t : T), fr[i]? = some t → ∃ v : Value, vs[i]? = some v ∧ tVal G t v

theorem frOk.ext {G G' : Cx} {fr : List T} {vs : Array Value} (h : frOk G fr vs) (k : Ext G G') : frOk G' fr vs :=
  ⟨h.1, fun i t ht => by
    obtain ⟨v, e, hv⟩ := h.2 i t ht
    exact ⟨v, e, k.tVal hv⟩⟩

theorem frOk.set {G : Cx} {fr : List T} {vs : Array Value} (h : frOk G fr vs) {i : Nat} {t : T} {v : Value} (hv : tVal G t v) : frOk G (fr.set i t) (vs.setIfInBounds i v) := by
  refine ⟨by simp [h.1], fun j u hu => ?_⟩
  rw [List.getElem?_set] at hu
  by_cases hij : i = j
  · subst hij
    by_cases hlt : i < fr.length
    · simp [hlt] at hu
      subst hu
      have : i < vs.size := by rw [← h.1]; exact hlt
      exact ⟨v, by simp [this], hv⟩
    · simp [hlt] at hu
  · rw [if_neg hij] at hu
    obtain ⟨v', e, hv'⟩ := h.2 j u hu
    exact ⟨v', by rw [Array.getElem?_setIfInBounds_ne hij]; exact e, hv'⟩

theorem Ext.chunkOk {G G' : Cx} (h : Ext G G') {c : Chunk} {b : B} (hc : chunkOk G c b) (hk : c.rw = true → b.nil = false → G'.w.heap[b.blk]? = G.w.heap[b.blk]?) : J.chunkOk G' c b := by
  cases c with
  | own t =>
    obtain ⟨h1, cs, ty, h2, h3⟩ := hc
    exact ⟨h1, cs, ty, by rw [hk rfl h1]; exact h2, h.tCells h3⟩
  | row ty e xs =>
    obtain ⟨h1, h0, css, h2, h3⟩ := hc
    refine ⟨h1, h0, css, ⟨h2.1, ?_⟩, h.listOf h3⟩
    rcases h2.2 with h2 | ⟨g, cap, cur, e1, e2, e3, e4⟩
    · exact .inl h2
    · refine .inr ⟨g, cap, cur, e1, e2, ?_, e4⟩
      have hn : b.nil = false := by
        cases hb : b.nil with
        | false => rfl
        | true => simp [B.val, hb] at e1
      have hg : b.blk = g := by simp [B.val, hn] at e1; exact e1.1
      rw [← hg, hk rfl hn, hg]
      exact e3
  | fz ty e xs =>
    obtain ⟨h1, h2, h3, h4⟩ := hc
    exact ⟨h1, h2, h3, fun hp => by
      obtain ⟨k1, k2, k3, css, k4, k5⟩ := h4 hp
      exact ⟨k1, h.im _ k2, Nat.lt_of_lt_of_le k3 h.size, css, k4.keep (h.keep _ k2), h.listOf k5⟩⟩

/-- The same state in a world that has grown, or was drawn from. -/
theorem Mdl.next {w0 : World} {F0 : Base} {G : Cx} {hp : Hp} {nx : Nat} (h : Mdl w0 F0 G hp nx) {w' : World} (ho : w'.os = G.w.os) (ht : w'.tape = G.w.tape) (hu : w'.output = G.w.output) (hs : G.w.heap.size ≤ w'.heap.size)
    (hb : ∀ b, b < G.w.heap.size → w'.heap[b]? = G.w.heap[b]?) : Ext G ⟨G.rho, G.im, w'⟩ ∧ Mdl w0 F0 ⟨G.rho, G.im, w'⟩ hp nx := by
  have hx : Ext G ⟨G.rho, G.im, w'⟩ := ⟨fun _ _ h => h, fun _ h => h, fun b hi => hb b (h.imLt b hi), hs⟩
  refine ⟨hx, ho.trans h.os, ht.trans h.tape, hu.trans h.output, Nat.le_trans h.size hs, fun b hlt hF => (hb b (Nat.lt_of_lt_of_le hlt h.size)).trans (h.keep b hlt hF),
    fun b hi => Nat.lt_of_lt_of_le (h.imLt b hi) hs, h.fresh, fun r c hm => ?_, h.ids, h.apart, fun r c b hm hc hr hn => ?_, h.imNew⟩
  · obtain ⟨b, hr, hc⟩ := h.chunk r c hm
    exact ⟨b, hr, hx.chunkOk hc fun hw hn => hb _ (h.mine r c b hm hw hr hn).2.1⟩
  · have := h.mine r c b hm hc hr hn
    exact ⟨this.1, Nat.lt_of_lt_of_le this.2.1 hs, this.2.2⟩

theorem Mdl.drew {w0 : World} {F0 : Base} {G : Cx} {hp : Hp} {nx : Nat} (h : Mdl w0 F0 G hp nx) : Ext G ⟨G.rho, G.im, G.w.drew⟩ ∧ Mdl w0 F0 ⟨G.rho, G.im, G.w.drew⟩ hp nx :=
  h.next rfl rfl rfl (Nat.le_refl _) fun _ _ => rfl

/-- A new chunk, at the next number. -/
theorem Mdl.new {w0 : World} {F0 : Base} {G : Cx} {hp : Hp} {nx : Nat} (h : Mdl w0 F0 G hp nx) {w' : World} (ho : w'.os = G.w.os) (ht : w'.tape = G.w.tape) (hu : w'.output = G.w.output) (hs : G.w.heap.size ≤ w'.heap.size)
    (hb : ∀ b, b < G.w.heap.size → w'.heap[b]? = G.w.heap[b]?) (c : Chunk) (b : B) (hbl : b.nil = false → G.w.heap.size ≤ b.blk ∧ b.blk < w'.heap.size)
    (hc : ∀ G' : Cx, Ext G G' → G'.w = w' → (c.rw = true) → chunkOk G' c b) (hrw : c.rw = true) :
    ∃ G', Ext G G' ∧ G'.w = w' ∧ G'.rho nx = some b ∧ Mdl w0 F0 G' (hp ++ [(nx, c)]) (nx + 1) := by
  obtain ⟨hx, hm⟩ := h.next ho ht hu hs hb
  let G' : Cx := ⟨fun r => if r = nx then some b else G.rho r, G.im, w'⟩
  have hr : ∀ r b', G.rho r = some b' → G'.rho r = some b' := fun r b' hr => by
    have : r ≠ nx := by rintro rfl; rw [h.fresh r (Nat.le_refl _)] at hr; cases hr
    simp [G', this, hr]
  have hx' : Ext G G' := ⟨hr, fun _ h => h, hx.keep, hs⟩
  have hold : ∀ r c, (r, c) ∈ hp → r ≠ nx := fun r c hmem => by
    obtain ⟨b', hr', _⟩ := h.chunk r c hmem
    rintro rfl
    rw [h.fresh r (Nat.le_refl _)] at hr'
    cases hr'
  have hrho : ∀ r, r ≠ nx → G'.rho r = G.rho r := fun r hne => by simp [G', hne]
  refine ⟨G', hx', rfl, by simp [G'], hm.os, hm.tape, hm.output, hm.size, hm.keep, hm.imLt, fun r hle => ?_, fun r c' hmem => ?_, ?_, ?_, ?_, hm.imNew⟩
  · have : r ≠ nx := by omega
    rw [hrho r this]
    exact h.fresh r (by omega)
  · rcases List.mem_append.1 hmem with hmem | hmem
    · obtain ⟨b', hr', hc'⟩ := h.chunk r c' hmem
      exact ⟨b', hr _ _ hr', hx'.chunkOk hc' fun hw hn => hb _ (h.mine r c' b' hmem hw hr' hn).2.1⟩
    · simp at hmem
      obtain ⟨rfl, rfl⟩ := hmem
      exact ⟨b, by simp [G'], hc G' hx' rfl hrw⟩
  · rw [List.map_append, List.nodup_append]
    refine ⟨h.ids, by simp, ?_⟩
    intro a ha b' hb'
    simp at hb'
    obtain ⟨⟨r, c'⟩, hmem, rfl⟩ := List.mem_map.1 ha
    subst hb'
    exact hold _ _ hmem
  · intro r c1 s c2 b1 b2 hx1 hx2 hne hw1 hw2 hr1 hr2 hn1 hn2
    rcases List.mem_append.1 hx1 with hm1 | hm1 <;> rcases List.mem_append.1 hx2 with hm2 | hm2
    · rw [hrho _ (hold _ _ hm1)] at hr1
      rw [hrho _ (hold _ _ hm2)] at hr2
      exact h.apart r c1 s c2 b1 b2 hm1 hm2 hne hw1 hw2 hr1 hr2 hn1 hn2
    · rw [hrho _ (hold _ _ hm1)] at hr1
      simp at hm2
      obtain ⟨rfl, rfl⟩ := hm2
      simp [G'] at hr2
      subst hr2
      have := (h.mine r c1 b1 hm1 hw1 hr1 hn1).2.1
      have := (hbl hn2).1
      omega
    · rw [hrho _ (hold _ _ hm2)] at hr2
      simp at hm1
      obtain ⟨rfl, rfl⟩ := hm1
      simp [G'] at hr1
      subst hr1
      have := (h.mine s c2 b2 hm2 hw2 hr2 hn2).2.1
      have := (hbl hn1).1
      omega
    · simp at hm1 hm2
      exact (hne (hm1.1.trans hm2.1.symm)).elim
  · intro r c1 b1 hm1 hw1 hr1 hn1
    rcases List.mem_append.1 hm1 with hm1 | hm1
    · rw [hrho _ (hold _ _ hm1)] at hr1
      have := h.mine r c1 b1 hm1 hw1 hr1 hn1
      exact ⟨this.1, Nat.lt_of_lt_of_le this.2.1 hs, this.2.2⟩
    · simp at hm1
      obtain ⟨rfl, rfl⟩ := hm1
      simp [G'] at hr1
      subst hr1
      refine ⟨.inl (Nat.le_trans h.size (hbl hn1).1), (hbl hn1).2, fun hi => ?_⟩
      have := h.imLt _ hi
      have := (hbl hn1).1
      omega

/-- A chunk written: its block, and no other. -/
theorem Mdl.write {w0 : World} {F0 : Base} {G : Cx} {l1 l2 : Hp} {r : Nat} {c0 c : Chunk} {nx : Nat} (h : Mdl w0 F0 G (l1 ++ (r, c0) :: l2) nx) {b : B} (hr : G.rho r = some b) (hw0 : c0.rw = true) (hn : b.nil = false) {w' : World}
    (ho : w'.os = G.w.os) (ht : w'.tape = G.w.tape) (hu : w'.output = G.w.output) (hs : w'.heap.size = G.w.heap.size)
    (hb : ∀ k, k ≠ b.blk → w'.heap[k]? = G.w.heap[k]?) (hc : Ext G ⟨G.rho, G.im, w'⟩ → chunkOk ⟨G.rho, G.im, w'⟩ c b) (hw : c.rw = true) :
    Ext G ⟨G.rho, G.im, w'⟩ ∧ Mdl w0 F0 ⟨G.rho, G.im, w'⟩ (l1 ++ (r, c) :: l2) nx := by
  have hm0 : (r, c0) ∈ l1 ++ (r, c0) :: l2 := by simp
  have hmine := h.mine r c0 b hm0 hw0 hr hn
  have hx : Ext G ⟨G.rho, G.im, w'⟩ := ⟨fun _ _ h => h, fun _ h => h, fun k hi => hb k (by rintro rfl; exact hmine.2.2 hi), Nat.le_of_eq hs.symm⟩
  have hids : ((l1 ++ (r, c) :: l2).map (·.1)).Nodup := by simpa using h.ids
  have hnd := h.ids
  simp only [List.map_append, List.map_cons] at hnd
  have hone : ∀ s d, (s, d) ∈ l1 ++ (r, c) :: l2 → (s = r ∧ d = c) ∨ (s ≠ r ∧ (s, d) ∈ l1 ++ (r, c0) :: l2) := by
    intro s d hq
    rcases List.mem_append.1 hq with hm | hm
    · refine .inr ⟨?_, by simp [hm]⟩
      rintro rfl
      have := (List.nodup_append.1 hnd).2.2 s (List.mem_map.2 ⟨(s, d), hm, rfl⟩) s (by simp)
      exact this rfl
    · rcases List.mem_cons.1 hm with hm2 | hm2
      · cases hm2; exact .inl ⟨rfl, rfl⟩
      · refine .inr ⟨?_, by simp [hm2]⟩
        rintro rfl
        have := (List.nodup_cons.1 (List.nodup_append.1 hnd).2.1).1
        exact this (List.mem_map.2 ⟨(s, d), hm2, rfl⟩)
  refine ⟨hx, ho.trans h.os, ht.trans h.tape, hu.trans h.output, by show w0.heap.size ≤ w'.heap.size; rw [hs]; exact h.size, fun k hlt hF => ?_, fun k hi => by show k < w'.heap.size; rw [hs]; exact h.imLt k hi, h.fresh, fun s d hm => ?_, hids, ?_, ?_, h.imNew⟩
  · refine (hb k ?_).trans (h.keep k hlt hF)
    rintro rfl
    rcases hmine.1 with h1 | h1
    · omega
    · exact hF h1
  · rcases hone s d hm with ⟨rfl, rfl⟩ | ⟨hne, hm'⟩
    · exact ⟨b, hr, hc hx⟩
    · obtain ⟨b', hr', hc'⟩ := h.chunk s d hm'
      exact ⟨b', hr', hx.chunkOk hc' fun hwd hnd' => hb _ (h.apart s d r c0 b' b hm' hm0 hne hwd hw0 hr' hr hnd' hn)⟩
  · intro s1 d1 s2 d2 b1 b2 hm1 hm2 hne hw1 hw2 hr1 hr2 hn1 hn2
    rcases hone s1 d1 hm1 with ⟨rfl, rfl⟩ | ⟨hne1, hm1'⟩ <;> rcases hone s2 d2 hm2 with ⟨rfl, rfl⟩ | ⟨hne2, hm2'⟩
    · exact (hne rfl).elim
    · exact h.apart s1 c0 s2 d2 b1 b2 hm0 hm2' hne hw0 hw2 hr1 hr2 hn1 hn2
    · exact h.apart s1 d1 s2 c0 b1 b2 hm1' hm0 hne hw1 hw0 hr1 hr2 hn1 hn2
    · exact h.apart s1 d1 s2 d2 b1 b2 hm1' hm2' hne hw1 hw2 hr1 hr2 hn1 hn2
  · intro s d b' hm' hw' hr' hn'
    show _ ∧ b'.blk < w'.heap.size ∧ _
    rw [hs]
    rcases hone s d hm' with ⟨rfl, rfl⟩ | ⟨hne, hm''⟩
    · exact h.mine s c0 b' hm0 hw0 hr' hn'
    · exact h.mine s d b' hm'' hw' hr' hn'

/-- A chunk let go. -/
theorem Mdl.drop {w0 : World} {F0 : Base} {G : Cx} {l1 l2 : Hp} {r : Nat} {c0 : Chunk} {nx : Nat} (h : Mdl w0 F0 G (l1 ++ (r, c0) :: l2) nx) : Mdl w0 F0 G (l1 ++ l2) nx := by
  have hsub : ∀ s d, (s, d) ∈ l1 ++ l2 → (s, d) ∈ l1 ++ (r, c0) :: l2 := fun s d hm => by
    rcases List.mem_append.1 hm with hm | hm <;> simp [hm]
  refine ⟨h.os, h.tape, h.output, h.size, h.keep, h.imLt, h.fresh, fun s d hm => h.chunk s d (hsub s d hm), ?_, fun _ _ _ _ _ _ h1 h2 => h.apart _ _ _ _ _ _ (hsub _ _ h1) (hsub _ _ h2), fun _ _ _ h1 => h.mine _ _ _ (hsub _ _ h1), h.imNew⟩
  refine List.Nodup.sublist ?_ h.ids
  exact List.Sublist.map _ (List.Sublist.append (List.Sublist.refl _) (List.sublist_cons_self _ _))

/-- A new chunk, at the next number; blocks that no chunk has any more may have been written. -/
theorem Mdl.new2 {w0 : World} {F0 : Base} {G : Cx} {hp : Hp} {nx : Nat} (h : Mdl w0 F0 G hp nx) (tch : Nat → Prop) (ht1 : ∀ k, tch k → (w0.heap.size ≤ k ∨ F0 k) ∧ k < G.w.heap.size ∧ ¬ G.im k)
    (ht2 : ∀ r c b, (r, c) ∈ hp → c.rw = true → G.rho r = some b → b.nil = false → ¬ tch b.blk) {w' : World} (ho : w'.os = G.w.os) (ht : w'.tape = G.w.tape) (hu : w'.output = G.w.output) (hs : G.w.heap.size ≤ w'.heap.size)
    (hb : ∀ b, b < G.w.heap.size → ¬ tch b → w'.heap[b]? = G.w.heap[b]?) (c : Chunk) (b : B) (hbl : b.nil = false → (G.w.heap.size ≤ b.blk ∧ b.blk < w'.heap.size) ∨ tch b.blk)
    (hc : ∀ G' : Cx, Ext G G' → G'.w = w' → chunkOk G' c b) (hrw : c.rw = true) :
    ∃ G', Ext G G' ∧ G'.w = w' ∧ G'.rho nx = some b ∧ Mdl w0 F0 G' (hp ++ [(nx, c)]) (nx + 1) := by
  let G' : Cx := ⟨fun r => if r = nx then some b else G.rho r, G.im, w'⟩
  have hr : ∀ r b', G.rho r = some b' → G'.rho r = some b' := fun r b' hr => by
    have : r ≠ nx := by rintro rfl; rw [h.fresh r (Nat.le_refl _)] at hr; cases hr
    simp [G', this, hr]
  have hx' : Ext G G' := ⟨hr, fun _ h => h, fun k hi => hb k (h.imLt k hi) (fun hk => (ht1 k hk).2.2 hi), hs⟩
  have hold : ∀ r c, (r, c) ∈ hp → r ≠ nx := fun r c hmem => by
    obtain ⟨b', hr', _⟩ := h.chunk r c hmem
    rintro rfl
    rw [h.fresh r (Nat.le_refl _)] at hr'
    cases hr'
  have hrho : ∀ r, r ≠ nx → G'.rho r = G.rho r := fun r hne => by simp [G', hne]
  refine ⟨G', hx', rfl, by simp [G'], ho.trans h.os, ht.trans h.tape, hu.trans h.output, Nat.le_trans h.size hs, fun k hlt hF => ?_, fun k hi => Nat.lt_of_lt_of_le (h.imLt k hi) hs, fun r hle => ?_, fun r c' hmem => ?_, ?_, ?_, ?_, h.imNew⟩
  · refine (hb k (Nat.lt_of_lt_of_le hlt h.size) fun hk => ?_).trans (h.keep k hlt hF)
    rcases (ht1 k hk).1 with h1 | h1
    · omega
    · exact hF h1
  · have : r ≠ nx := by omega
    rw [hrho r this]
    exact h.fresh r (by omega)
  · rcases List.mem_append.1 hmem with hmem | hmem
    · obtain ⟨b', hr', hc'⟩ := h.chunk r c' hmem
      exact ⟨b', hr _ _ hr', hx'.chunkOk hc' fun hw hn => hb _ (h.mine r c' b' hmem hw hr' hn).2.1 (ht2 r c' b' hmem hw hr' hn)⟩
    · simp at hmem
      obtain ⟨rfl, rfl⟩ := hmem
      exact ⟨b, by simp [G'], hc G' hx' rfl⟩
  · rw [List.map_append, List.nodup_append]
    refine ⟨h.ids, by simp, ?_⟩
    intro a ha b' hb'
    simp at hb'
    obtain ⟨⟨r, c'⟩, hmem, rfl⟩ := List.mem_map.1 ha
    subst hb'
    exact hold _ _ hmem
  · intro r c1 s c2 b1 b2 hx1 hx2 hne hw1 hw2 hr1 hr2 hn1 hn2
    rcases List.mem_append.1 hx1 with hm1 | hm1 <;> rcases List.mem_append.1 hx2 with hm2 | hm2
    · rw [hrho _ (hold _ _ hm1)] at hr1
      rw [hrho _ (hold _ _ hm2)] at hr2
      exact h.apart r c1 s c2 b1 b2 hm1 hm2 hne hw1 hw2 hr1 hr2 hn1 hn2
    · rw [hrho _ (hold _ _ hm1)] at hr1
      simp at hm2
      obtain ⟨rfl, rfl⟩ := hm2
      simp [G'] at hr2
      subst hr2
      have h1 := (h.mine r c1 b1 hm1 hw1 hr1 hn1).2.1
      rcases hbl hn2 with h2 | h2
      · omega
      · intro e
        exact ht2 r c1 b1 hm1 hw1 hr1 hn1 (e ▸ h2)
    · rw [hrho _ (hold _ _ hm2)] at hr2
      simp at hm1
      obtain ⟨rfl, rfl⟩ := hm1
      simp [G'] at hr1
      subst hr1
      have h1 := (h.mine s c2 b2 hm2 hw2 hr2 hn2).2.1
      rcases hbl hn1 with h2 | h2
      · omega
      · intro e
        exact ht2 s c2 b2 hm2 hw2 hr2 hn2 (e ▸ h2)
    · simp at hm1 hm2
      exact (hne (hm1.1.trans hm2.1.symm)).elim
  · intro r c1 b1 hm1 hw1 hr1 hn1
    rcases List.mem_append.1 hm1 with hm1 | hm1
    · rw [hrho _ (hold _ _ hm1)] at hr1
      have := h.mine r c1 b1 hm1 hw1 hr1 hn1
      exact ⟨this.1, Nat.lt_of_lt_of_le this.2.1 hs, this.2.2⟩
    · simp at hm1
      obtain ⟨rfl, rfl⟩ := hm1
      simp [G'] at hr1
      subst hr1
      rcases hbl hn1 with h2 | h2
      · refine ⟨.inl (Nat.le_trans h.size h2.1), h2.2, fun hi => ?_⟩
        have := h.imLt _ hi
        omega
      · have := ht1 _ h2
        exact ⟨this.1, Nat.lt_of_lt_of_le this.2.1 hs, this.2.2⟩

/-- The blocks of a chunk that was let go. -/
theorem Mdl.gone {w0 : World} {F0 : Base} {G : Cx} {l1 l2 : Hp} {r : Nat} {c0 : Chunk} {nx : Nat} (h : Mdl w0 F0 G (l1 ++ (r, c0) :: l2) nx) {b0 : B} (hr : G.rho r = some b0) (hw : c0.rw = true) :
    (∀ k, (b0.nil = false ∧ k = b0.blk) → (w0.heap.size ≤ k ∨ F0 k) ∧ k < G.w.heap.size ∧ ¬ G.im k) ∧
    (∀ s c b, (s, c) ∈ l1 ++ l2 → c.rw = true → G.rho s = some b → b.nil = false → ¬ (b0.nil = false ∧ b.blk = b0.blk)) := by
  have hm0 : (r, c0) ∈ l1 ++ (r, c0) :: l2 := by simp
  refine ⟨fun k ⟨hn, hk⟩ => hk ▸ h.mine r c0 b0 hm0 hw hr hn, fun s c b hm hwc hrs hn ⟨hn0, he⟩ => ?_⟩
  have hm' : (s, c) ∈ l1 ++ (r, c0) :: l2 := by
    rcases List.mem_append.1 hm with hm | hm <;> simp [hm]
  have hne : s ≠ r := by
    have hnd := h.ids
    simp only [List.map_append, List.map_cons] at hnd
    rintro rfl
    rcases List.mem_append.1 hm with hm | hm
    · exact (List.nodup_append.1 hnd).2.2 s (List.mem_map.2 ⟨(s, c), hm, rfl⟩) s (by simp) rfl
    · exact (List.nodup_cons.1 (List.nodup_append.1 hnd).2.1).1 (List.mem_map.2 ⟨(s, c), hm, rfl⟩)
  exact h.apart s c r c0 b b0 hm' hm0 hne hwc hw hrs hr hn hn0 he

end Go.J
