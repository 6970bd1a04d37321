/-
  JOBBER: the engine and the functions of this claim, part 1.
-/
import Derived.WalkKit
import Derived.WalkSpells
import Derived.WalkLawsBesides
import Derived.Deep.MidRow
import Derived.Great.BuildSlice
import Derived.Laws.BitsAllLaws
import Derived.Maps.AppendAt
import Derived.Lib.AppendStr
import Derived.DeepKeys
import Derived.Lib.Strings
import Derived.Laws.BytesString
import Derived.ChangeKeysEq
import Derived.Laws.Pointers
import Derived.Lib.SliceRun
import Derived.Laws.IdiomCopy
set_option linter.unusedSimpArgs false
set_option linter.unusedVariables false
set_option linter.unusedSectionVars false

namespace Go.J

/-- What an element of a slice, or a field, is. -/
inductive El where
  | u8 | int (k : IntKind) | bool | str | rd (e : El) | nil | cons (e es : El) | ar (n : Nat) (e : El)

@[reducible] def El.ty : El → Type
  | .u8 => UInt8
  | .int _ => Int
  | .bool => Bool
  | .str => List UInt8
  | .rd e => List e.ty
  | .nil => Unit
  | .cons e es => e.ty × es.ty
  | .ar _ e => List e.ty

def El.sz : El → Nat
  | .u8 => 1
  | .int _ => 1
  | .bool => 1
  | .str => 1
  | .rd _ => 1
  | .nil => 0
  | .cons e es => e.sz + es.sz
  | .ar n e => n * e.sz

def El.dflt : (e : El) → e.ty
  | .u8 => (0 : UInt8)
  | .int _ => (0 : Int)
  | .bool => false
  | .str => ([] : List UInt8)
  | .rd e => ([] : List e.ty)
  | .nil => ()
  | .cons e es => (e.dflt, es.dflt)
  | .ar n e => List.replicate n e.dflt

/-- A step into a struct's field (its number, its offset), or an array's element (its number, its size). -/
inductive Stp where
  | f (i o : Nat)
  | x (i sz : Nat)

def poff : List Stp → Nat
  | [] => 0
  | .f _ o :: p => o + poff p
  | .x i sz :: p => i * sz + poff p

/-- A value of one cell. Blocks of the call's own have numbers of ours (r). -/
inductive V where
  | any
  | int (k : IntKind) (n : Int)
  | tt
  | ff
  | bool (b : Bool)
  | str (s : List UInt8)
  | nilp
  | ptr (r : Nat) (p : List Stp)
  | rp (e : El) (xs : List e.ty) (i : Nat) (p : List Stp)
  | nils
  | rd (e : El) (xs : List e.ty)
  | own (r : Nat)
  | sl (r : Nat) (p : List Stp) (off len sz : Nat)
  | fn (f : FuncId) (c : List Nat)

/-- A value: one cell, or a struct (nil, cons), or an array. -/
inductive T where
  | v (x : V)
  | nil
  | cons (t ts : T)
  | arr (e : El) (xs : List e.ty) (n : Nat)
  | tup (ts : T)

def T.size : T → Nat
  | .v _ => 1
  | .nil => 0
  | .cons t ts => t.size + ts.size
  | .arr e _ n => n * e.sz
  | .tup _ => 0

/-- So many cells less. -/
def T.eat : T → Nat → Option Nat
  | .v _, n => match n with
    | 0 => none
    | n + 1 => some n
  | .nil, n => some n
  | .cons t ts, n => match t.eat n with
    | some m => ts.eat m
    | none => none
  | .arr e _ m, n => match Nat.ble (m * e.sz) n with
    | true => some (n - m * e.sz)
    | false => none
  | .tup _, n => some n
/-- So many cells more. -/
def T.grow : T → Nat → Option Nat
  | .v _, n => some (n + 1)
  | .nil, n => some n
  | .cons t ts, n => match t.grow n with
    | some m => ts.grow m
    | none => none
  | .arr e _ m, n => some (n + m * e.sz)
  | .tup _, n => some n
theorem T.eat_out : ∀ {t : T} {n r : Nat}, t.eat n = some r → n = t.size + r
  | .v _, n, r, h => by
    cases n with
    | zero => simp [T.eat] at h
    | succ n => simp [T.eat] at h; simp [T.size]; omega
  | .nil, n, r, h => by simp [T.eat] at h; simp [T.size, h]
  | .cons t ts, n, r, h => by
    simp only [T.eat] at h
    split at h
    · next m hm =>
      have h1 := T.eat_out hm
      have h2 := T.eat_out h
      simp only [T.size]; omega
    · cases h
  | .arr e xs m, n, r, h => by
    simp only [T.eat] at h
    split at h
    · next hb =>
      have := Nat.le_of_ble_eq_true hb
      simp at h
      simp only [T.size]; omega
    · cases h
  | .tup _, n, r, h => by simp [T.eat] at h; simp [T.size, h]
theorem T.eat_mk : ∀ (t : T) (r : Nat), t.eat (t.size + r) = some r
  | .v _, r => by simp only [T.eat, T.size]; rw [show 1 + r = r + 1 by omega]
  | .nil, r => by simp [T.eat, T.size]
  | .cons t ts, r => by
    simp only [T.eat, T.size]
    rw [Nat.add_assoc, T.eat_mk t]
    exact T.eat_mk ts r
  | .arr e xs m, r => by
    simp only [T.eat, T.size]
    rw [Nat.ble_eq_true_of_le (by omega)]
    simp
  | .tup _, r => by simp [T.eat, T.size]
theorem T.eat_eq (t : T) (n : Nat) : t.eat n = if t.size ≤ n then some (n - t.size) else none := by
  by_cases h : t.size ≤ n
  · rw [if_pos h]
    have := T.eat_mk t (n - t.size)
    rwa [show t.size + (n - t.size) = n by omega] at this
  · rw [if_neg h]
    cases he : t.eat n with
    | none => rfl
    | some r => have := T.eat_out he; omega
theorem T.grow_out : ∀ {t : T} {n r : Nat}, t.grow n = some r → r = n + t.size
  | .v _, n, r, h => by simp [T.grow] at h; simp [T.size]; omega
  | .nil, n, r, h => by simp [T.grow] at h; simp [T.size]; omega
  | .cons t ts, n, r, h => by
    simp only [T.grow] at h
    split at h
    · next m hm =>
      have h1 := T.grow_out hm
      have h2 := T.grow_out h
      simp only [T.size]; omega
    · cases h
  | .arr e xs m, n, r, h => by simp [T.grow] at h; simp [T.size]; omega
  | .tup _, n, r, h => by simp [T.grow] at h; simp [T.size]; omega
def sizeEq (t : T) (n : Nat) : Bool :=
  match t.eat n with
  | some 0 => true
  | _ => false
theorem sizeEq_out {t : T} {n : Nat} (h : sizeEq t n = true) : t.size = n := by
  unfold sizeEq at h
  split at h
  · next hm => have := T.eat_out hm; omega
  · cases h
theorem sizeEq_mk {t : T} {n : Nat} (h : t.size = n) : sizeEq t n = true := by
  unfold sizeEq
  rw [← h, ← Nat.add_zero t.size, T.eat_mk]
  rfl
theorem sizeEq_beq {t : T} {n : Nat} (h : sizeEq t n = true) : Nat.beq t.size n = true := by
  rw [sizeEq_out h]; exact Nat.beq_refl n
/-- Have two values the same size? -/
def sizeSame (t u : T) : Bool :=
  match t.eat 1000000000 with
  | some r => sizeEq u (1000000000 - r)
  | none => false
theorem sizeSame_out {t u : T} (h : sizeSame t u = true) : t.size = u.size := by
  unfold sizeSame at h
  split at h
  · next r hm =>
    have h1 := T.eat_out hm
    have h2 := sizeEq_out h
    omega
  · cases h
def El.enc : (e : El) → e.ty → T
  | .u8, x => .v (.int .u8 x.toNat)
  | .int k, n => .v (.int k n)
  | .bool, b => .v (.bool b)
  | .str, s => .v (.str s)
  | .rd e, xs => .v (.rd e xs)
  | .nil, _ => .nil
  | .cons e es, (x, y) => .cons (e.enc x) (es.enc y)
  | .ar n e, xs => .arr e xs n

theorem El.size_enc : (e : El) → (x : e.ty) → (e.enc x).size = e.sz
  | .u8, _ => rfl
  | .int _, _ => rfl
  | .bool, _ => rfl
  | .str, _ => rfl
  | .rd _, _ => rfl
  | .nil, _ => rfl
  | .cons e es, x => by simp [El.enc, T.size, El.sz, El.size_enc e, El.size_enc es]
  | .ar _ _, _ => rfl

/-- A block of the call's own: own: its cells, all; row: it grows; fz: a row that nobody writes any more. -/
inductive Chunk where
  | own (t : T)
  | row (ty : TypeId) (e : El) (xs : List e.ty)
  | fz (ty : TypeId) (e : El) (xs : List e.ty)

/-- Where a block of ours lies. -/
structure B where
  blk : Nat
  nil : Bool
  len : Nat
  cap : Nat

/-- What the numbers of ours stand for; which blocks nobody writes; the world. -/
structure Cx where
  rho : Nat → Option B
  im : Nat → Prop
  w : World

def cellsAt (w : World) (b o : Nat) (cs : List Value) : Prop := ∀ j v, cs[j]? = some v → w.cell? ⟨b, o + j, none⟩ = some v

def listOf {α : Type} (R : α → List Value → Prop) : List α → List Value → Prop
  | [], cs => cs = []
  | x :: xs, cs => ∃ c1 c2, cs = c1 ++ c2 ∧ R x c1 ∧ listOf R xs c2

/-- These cells hold that element. -/
def cellsOf (im : Nat → Prop) (w : World) : (e : El) → e.ty → List Value → Prop
  | .u8, x, cs => cs = [.int .u8 x.toNat]
  | .int k, n, cs => cs = [.int k n]
  | .bool, b, cs => cs = [.bool b]
  | .str, s, cs => cs = [.string ⟨⟨s⟩⟩]
  | .rd e, xs, cs => ∃ A c, cs = [.slice A xs.length c] ∧ xs.length ≤ c ∧ c ≤ maxLen ∧
      (0 < xs.length → ∃ b o css, A = some ⟨b, o, none⟩ ∧ im b ∧ b < w.heap.size ∧ cellsAt w b o css ∧ listOf (cellsOf im w e) xs css)
  | .nil, _, cs => cs = []
  | .cons e es, x, cs => ∃ c1 c2, cs = c1 ++ c2 ∧ cellsOf im w e x.1 c1 ∧ cellsOf im w es x.2 c2
  | .ar n e, xs, cs => xs.length = n ∧ listOf (cellsOf im w e) xs cs

/-- What a function value has captured: variables of ours. -/
def capOk (G : Cx) : List Nat → List Value → Prop
  | [], ps => ps = []
  | r :: c, ps => ∃ p ps', ps = p :: ps' ∧ (∃ b, G.rho r = some b ∧ b.nil = false ∧ p = .pointer (some ⟨b.blk, 0, none⟩)) ∧ capOk G c ps'

def vOk (G : Cx) : V → Value → Prop
  | .any, _ => True
  | .int k n, v => v = .int k n
  | .tt, v => v = .bool true
  | .ff, v => v = .bool false
  | .bool b, v => v = .bool b
  | .str s, v => v = .string ⟨⟨s⟩⟩
  | .nilp, v => v = .pointer none
  | .ptr r p, v => ∃ b, G.rho r = some b ∧ b.nil = false ∧ v = .pointer (some ⟨b.blk, poff p, none⟩)
  | .rp e xs i p, v => i < xs.length ∧ ∃ b o css, v = .pointer (some ⟨b, o + i * e.sz + poff p, none⟩) ∧ G.im b ∧ b < G.w.heap.size ∧ cellsAt G.w b o css ∧ listOf (cellsOf G.im G.w e) xs css
  | .nils, v => v = .slice none 0 0
  | .rd e xs, v => cellsOf G.im G.w (.rd e) xs [v]
  | .own r, v => ∃ b, G.rho r = some b ∧ v = .slice (if b.nil then none else some ⟨b.blk, 0, none⟩) b.len b.cap
  | .sl r p off len sz, v => ∃ b c A, G.rho r = some b ∧ len ≤ c ∧ c ≤ maxLen ∧ v = .slice A len c ∧ (0 < len → b.nil = false ∧ A = some ⟨b.blk, poff p + off * sz, none⟩)
  | .fn f c, v => ∃ ps : List Value, v = .func (.func f) #[] ⟨ps⟩ ∧ capOk G c ps

def one (v : Value) : Prop := v.oneCell' = true

/-- These cells hold that value. -/
def tCells (G : Cx) : T → List Value → Prop
  | .v x, cs => ∃ c, cs = [c] ∧ one c ∧ vOk G x c
  | .nil, cs => cs = []
  | .cons t ts, cs => ∃ c1 c2, cs = c1 ++ c2 ∧ tCells G t c1 ∧ tCells G ts c2
  | .arr e xs n, cs => xs.length = n ∧ listOf (cellsOf G.im G.w e) xs cs
  | .tup _, _ => False

/-- The value itself, in a slot. -/
def tVal1 (G : Cx) : T → Value → Prop
  | .v x, v => vOk G x v
  | .tup _, _ => False
  | t, v => ∃ cs : List Value, v = .agg ⟨cs⟩ ∧ tCells G t cs

/-- Results, one behind the other. -/
def tTup (G : Cx) : T → List Value → Prop
  | .nil, vs => vs = []
  | .cons t ts, vs => ∃ v vs', vs = v :: vs' ∧ tVal1 G t v ∧ tTup G ts vs'
  | _, _ => False

def tVal (G : Cx) : T → Value → Prop
  | .tup ts, v => ∃ vs : List Value, v = .tuple ⟨vs⟩ ∧ tTup G ts vs
  | t, v => tVal1 G t v

structure Ext (G G' : Cx) : Prop where
  rho : ∀ r b, G.rho r = some b → G'.rho r = some b
  im : ∀ b, G.im b → G'.im b
  keep : ∀ b, G.im b → G'.w.heap[b]? = G.w.heap[b]?
  size : G.w.heap.size ≤ G'.w.heap.size

theorem Ext.refl (G : Cx) : Ext G G := ⟨fun _ _ h => h, fun _ h => h, fun _ _ => rfl, Nat.le_refl _⟩
theorem Ext.trans {G G' G2 : Cx} (h : Ext G G') (k : Ext G' G2) : Ext G G2 :=
  ⟨fun r b e => k.rho r b (h.rho r b e), fun b e => k.im b (h.im b e), fun b e => (k.keep b (h.im b e)).trans (h.keep b e), Nat.le_trans h.size k.size⟩

theorem cellsAt.keep {w w' : World} {b o : Nat} {cs : List Value} (h : cellsAt w b o cs) (hk : w'.heap[b]? = w.heap[b]?) : cellsAt w' b o cs :=
  fun j v hv => (World.cell?_of_block (w := w) (a := ⟨b, o + j, none⟩) hk).trans (h j v hv)

theorem listOf.mono {α : Type} {R R' : α → List Value → Prop} (h : ∀ x cs, R x cs → R' x cs) : ∀ (xs : List α) (cs : List Value), listOf R xs cs → listOf R' xs cs
  | [], _, hh => hh
  | _ :: xs, _, ⟨c1, c2, e, h1, h2⟩ => ⟨c1, c2, e, h _ _ h1, listOf.mono h xs c2 h2⟩

theorem cellsOf.mono {im im' : Nat → Prop} {w w' : World} (h1 : ∀ b, im b → im' b) (h2 : ∀ b, im b → w'.heap[b]? = w.heap[b]?) (h3 : w.heap.size ≤ w'.heap.size) :
    ∀ (e : El) (x : e.ty) (cs : List Value), cellsOf im w e x cs → cellsOf im' w' e x cs
  | .u8, _, _, h => h
  | .int _, _, _, h => h
  | .bool, _, _, h => h
  | .str, _, _, h => h
  | .rd e, _, _, ⟨A, c, e1, e2, e3, h⟩ => ⟨A, c, e1, e2, e3, fun hp => by
      obtain ⟨b, o, css, k1, k2, k3, k4, k5⟩ := h hp
      exact ⟨b, o, css, k1, h1 b k2, Nat.lt_of_lt_of_le k3 h3, k4.keep (h2 b k2), listOf.mono (fun x cs => cellsOf.mono h1 h2 h3 e x cs) _ _ k5⟩⟩
  | .nil, _, _, h => h
  | .cons e es, x, _, ⟨c1, c2, e1, k1, k2⟩ => ⟨c1, c2, e1, cellsOf.mono h1 h2 h3 e x.1 c1 k1, cellsOf.mono h1 h2 h3 es x.2 c2 k2⟩
  | .ar _ e, _, _, ⟨h, k⟩ => ⟨h, listOf.mono (fun x cs => cellsOf.mono h1 h2 h3 e x cs) _ _ k⟩

theorem Ext.cellsOf {G G' : Cx} (h : Ext G G') {e : El} {x : e.ty} {cs : List Value} (hc : cellsOf G.im G.w e x cs) : cellsOf G'.im G'.w e x cs :=
  cellsOf.mono h.im h.keep h.size e x cs hc
theorem Ext.listOf {G G' : Cx} (h : Ext G G') {e : El} {xs : List e.ty} {cs : List Value} (hc : listOf (J.cellsOf G.im G.w e) xs cs) : listOf (J.cellsOf G'.im G'.w e) xs cs :=
  listOf.mono (fun _ _ k => h.cellsOf k) _ _ hc

theorem Ext.capOk {G G' : Cx} (h : Ext G G') : ∀ {c : List Nat} {ps : List Value}, J.capOk G c ps → J.capOk G' c ps
  | [], _, k => k
  | _ :: _, _, ⟨p, ps', e, ⟨b, e1, e2⟩, k⟩ => ⟨p, ps', e, ⟨b, h.rho _ _ e1, e2⟩, h.capOk k⟩
theorem Ext.vOk {G G' : Cx} (h : Ext G G') : ∀ {x : V} {v : Value}, vOk G x v → vOk G' x v
  | .any, _, k => k
  | .int _ _, _, k => k
  | .tt, _, k => k
  | .ff, _, k => k
  | .bool _, _, k => k
  | .str _, _, k => k
  | .nilp, _, k => k
  | .ptr _ _, _, ⟨b, e1, e2⟩ => ⟨b, h.rho _ _ e1, e2⟩
  | .rp _ _ _ _, _, ⟨e0, b, o, css, e1, e2, e3, e4, e5⟩ => ⟨e0, b, o, css, e1, h.im _ e2, Nat.lt_of_lt_of_le e3 h.size, e4.keep (h.keep _ e2), h.listOf e5⟩
  | .nils, _, k => k
  | .rd _ _, _, k => h.cellsOf k
  | .own _, _, ⟨b, e1, e2⟩ => ⟨b, h.rho _ _ e1, e2⟩
  | .sl _ _ _ _ _, _, ⟨b, c, A, e1, e2⟩ => ⟨b, c, A, h.rho _ _ e1, e2⟩
  | .fn _ _, _, ⟨ps, e, k⟩ => ⟨ps, e, h.capOk k⟩

theorem Ext.tCells {G G' : Cx} (h : Ext G G') : ∀ {t : T} {cs : List Value}, tCells G t cs → tCells G' t cs
  | .v _, _, ⟨c, e1, e2, e3⟩ => ⟨c, e1, e2, h.vOk e3⟩
  | .nil, _, k => k
  | .cons _ _, _, ⟨c1, c2, e1, k1, k2⟩ => ⟨c1, c2, e1, h.tCells k1, h.tCells k2⟩
  | .arr _ _ _, _, ⟨k1, k2⟩ => ⟨k1, h.listOf k2⟩

theorem Ext.tVal1 {G G' : Cx} (h : Ext G G') : ∀ {t : T} {v : Value}, tVal1 G t v → tVal1 G' t v
  | .v _, _, k => h.vOk k
  | .nil, _, ⟨cs, e, k⟩ => ⟨cs, e, h.tCells k⟩
  | .cons _ _, _, ⟨cs, e, k⟩ => ⟨cs, e, h.tCells k⟩
  | .arr _ _ _, _, ⟨cs, e, k⟩ => ⟨cs, e, h.tCells k⟩

theorem Ext.tTup {G G' : Cx} (h : Ext G G') : ∀ {t : T} {vs : List Value}, tTup G t vs → tTup G' t vs
  | .nil, _, k => k
  | .cons _ _, _, ⟨v, vs, e, k1, k2⟩ => ⟨v, vs, e, h.tVal1 k1, h.tTup k2⟩

theorem Ext.tVal {G G' : Cx} (h : Ext G G') : ∀ {t : T} {v : Value}, tVal G t v → tVal G' t v
  | .v _, _, k => h.vOk k
  | .nil, _, ⟨cs, e, k⟩ => ⟨cs, e, h.tCells k⟩
  | .cons _ _, _, ⟨cs, e, k⟩ => ⟨cs, e, h.tCells k⟩
  | .arr _ _ _, _, ⟨cs, e, k⟩ => ⟨cs, e, h.tCells k⟩
  | .tup _, _, ⟨vs, e, k⟩ => ⟨vs, e, h.tTup k⟩

/-! Sizes. -/
theorem listOf.length {α : Type} {R : α → List Value → Prop} {n : Nat} (h : ∀ x cs, R x cs → cs.length = n) : ∀ (xs : List α) (cs : List Value), listOf R xs cs → cs.length = xs.length * n
  | [], _, hh => by simp [listOf] at hh; simp [hh]
  | x :: xs, _, ⟨c1, c2, e, h1, h2⟩ => by
    have := h _ _ h1
    have := listOf.length h xs c2 h2
    subst e
    simp [List.length_append, Nat.add_mul]
    omega

theorem cellsOf.length {im : Nat → Prop} {w : World} : ∀ (e : El) (x : e.ty) (cs : List Value), cellsOf im w e x cs → cs.length = e.sz
  | .u8, _, _, h => by simp [cellsOf] at h; simp [h, El.sz]
  | .int _, _, _, h => by simp [cellsOf] at h; simp [h, El.sz]
  | .bool, _, _, h => by simp [cellsOf] at h; simp [h, El.sz]
  | .str, _, _, h => by simp [cellsOf] at h; simp [h, El.sz]
  | .rd e, _, _, ⟨A, c, e1, _⟩ => by simp [e1, El.sz]
  | .nil, _, _, h => by simp [cellsOf] at h; simp [h, El.sz]
  | .cons e es, x, _, ⟨c1, c2, e1, k1, k2⟩ => by
    have := cellsOf.length e x.1 c1 k1
    have := cellsOf.length es x.2 c2 k2
    simp [e1, El.sz]; omega
  | .ar n e, xs, cs, ⟨h, k⟩ => by
    have := listOf.length (fun x cs => cellsOf.length e x cs) xs cs k
    simp [El.sz, this, h]

theorem tCells.length {G : Cx} : ∀ {t : T} {cs : List Value}, tCells G t cs → cs.length = t.size
  | .v _, _, ⟨c, e1, _⟩ => by simp [e1, T.size]
  | .nil, _, k => by simp [tCells] at k; simp [k, T.size]
  | .cons _ _, _, ⟨c1, c2, e1, k1, k2⟩ => by
    have := tCells.length k1
    have := tCells.length k2
    simp [e1, T.size]; omega
  | .arr e xs n, cs, ⟨k1, k2⟩ => by
    have := listOf.length (fun x cs => cellsOf.length e x cs) xs cs k2
    simp [T.size, this, k1]

/-! An element's cells, as a value's. -/
theorem listOf.one {α : Type} {R : α → List Value → Prop} (h : ∀ x cs, R x cs → ∀ c ∈ cs, J.one c) : ∀ (xs : List α) (cs : List Value), listOf R xs cs → ∀ c ∈ cs, J.one c
  | [], _, hh => by simp [listOf] at hh; simp [hh]
  | x :: xs, _, ⟨c1, c2, e, h1, h2⟩ => by
    subst e
    intro c hc
    rcases List.mem_append.1 hc with hc | hc
    · exact h _ _ h1 c hc
    · exact listOf.one h xs c2 h2 c hc

theorem cellsOf.one {im : Nat → Prop} {w : World} : ∀ (e : El) (x : e.ty) (cs : List Value), cellsOf im w e x cs → ∀ c ∈ cs, J.one c
  | .u8, _, _, h => by simp [cellsOf] at h; simp [h, J.one, Value.oneCell']
  | .int _, _, _, h => by simp [cellsOf] at h; simp [h, J.one, Value.oneCell']
  | .bool, _, _, h => by simp [cellsOf] at h; simp [h, J.one, Value.oneCell']
  | .str, _, _, h => by simp [cellsOf] at h; simp [h, J.one, Value.oneCell']
  | .rd e, _, _, ⟨A, c, e1, _⟩ => by simp [e1, J.one, Value.oneCell']
  | .nil, _, _, h => by simp [cellsOf] at h; simp [h]
  | .cons e es, x, _, ⟨c1, c2, e1, k1, k2⟩ => by
    subst e1
    intro c hc
    rcases List.mem_append.1 hc with hc | hc
    · exact cellsOf.one e x.1 c1 k1 c hc
    · exact cellsOf.one es x.2 c2 k2 c hc
  | .ar n e, xs, cs, ⟨h, k⟩ => listOf.one (fun x cs => cellsOf.one e x cs) xs cs k

theorem tCells.one {G : Cx} : ∀ {t : T} {cs : List Value}, tCells G t cs → ∀ c ∈ cs, J.one c
  | .v _, _, ⟨c, e1, e2, _⟩ => by subst e1; simpa using e2
  | .nil, _, k => by simp [tCells] at k; simp [k]
  | .cons _ _, _, ⟨c1, c2, e1, k1, k2⟩ => by
    subst e1
    intro c hc
    rcases List.mem_append.1 hc with hc | hc
    · exact tCells.one k1 c hc
    · exact tCells.one k2 c hc
  | .arr e xs n, cs, ⟨k1, k2⟩ => listOf.one (fun x cs => cellsOf.one e x cs) xs cs k2

theorem tCells_enc {G : Cx} : ∀ (e : El) (x : e.ty) (cs : List Value), tCells G (e.enc x) cs ↔ cellsOf G.im G.w e x cs
  | .u8, n, cs => by
    constructor
    · rintro ⟨c, rfl, _, h⟩; simp [vOk] at h; simp [cellsOf, h]
    · intro h; exact ⟨_, h, rfl, rfl⟩
  | .int k, n, cs => by
    constructor
    · rintro ⟨c, rfl, _, h⟩; simp [vOk] at h; simp [cellsOf, h]
    · intro h; exact ⟨_, h, rfl, rfl⟩
  | .bool, n, cs => by
    constructor
    · rintro ⟨c, rfl, _, h⟩; simp [vOk] at h; simp [cellsOf, h]
    · intro h; exact ⟨_, h, rfl, rfl⟩
  | .str, n, cs => by
    constructor
    · rintro ⟨c, rfl, _, h⟩; simp [vOk] at h; simp [cellsOf, h]
    · intro h; exact ⟨_, h, rfl, rfl⟩
  | .rd e, xs, cs => by
    constructor
    · rintro ⟨c, rfl, _, h⟩; exact h
    · intro h
      obtain ⟨A, c, e1, _⟩ := id h
      subst e1
      exact ⟨_, rfl, rfl, h⟩
  | .nil, _, cs => Iff.rfl
  | .cons e es, x, cs => by
    constructor
    · rintro ⟨c1, c2, e1, k1, k2⟩; exact ⟨c1, c2, e1, (tCells_enc e x.1 c1).1 k1, (tCells_enc es x.2 c2).1 k2⟩
    · rintro ⟨c1, c2, e1, k1, k2⟩; exact ⟨c1, c2, e1, (tCells_enc e x.1 c1).2 k1, (tCells_enc es x.2 c2).2 k2⟩
  | .ar n e, xs, cs => Iff.rfl

theorem listOf_append {α : Type} {R : α → List Value → Prop} : ∀ {xs ys : List α} {cs ds : List Value}, listOf R xs cs → listOf R ys ds → listOf R (xs ++ ys) (cs ++ ds)
  | [], _, _, _, h, k => by simp [listOf] at h; subst h; simpa using k
  | x :: xs, _, _, _, ⟨c1, c2, e, h1, h2⟩, k => by
    subst e
    exact ⟨c1, c2 ++ _, by simp, h1, listOf_append h2 k⟩

/-- The cells of the elements from i on. -/
theorem listOf_drop {α : Type} {R : α → List Value → Prop} {n : Nat} (hn : ∀ x cs, R x cs → cs.length = n) : ∀ {xs : List α} {cs : List Value} (i : Nat), listOf R xs cs → listOf R (xs.drop i) (cs.drop (i * n))
  | [], cs, i, h => by simp [listOf] at h; subst h; simp [listOf]
  | x :: xs, cs, 0, h => by simpa using h
  | x :: xs, cs, i + 1, ⟨c1, c2, e, h1, h2⟩ => by
    subst e
    have h3 := hn _ _ h1
    have h4 := listOf_drop hn i h2
    rw [List.drop_succ_cons, Nat.succ_mul, Nat.add_comm, ← List.drop_drop, List.drop_append, List.drop_eq_nil_of_le (Nat.le_of_eq h3), h3]
    simpa using h4

theorem listOf_take {α : Type} {R : α → List Value → Prop} {n : Nat} (hn : ∀ x cs, R x cs → cs.length = n) : ∀ {xs : List α} {cs : List Value} (i : Nat), listOf R xs cs → listOf R (xs.take i) (cs.take (i * n))
  | [], cs, i, h => by simp [listOf] at h; subst h; simp [listOf]
  | x :: xs, cs, 0, h => by simp [listOf]
  | x :: xs, cs, i + 1, ⟨c1, c2, e, h1, h2⟩ => by
    subst e
    have h3 := hn _ _ h1
    refine ⟨c1, c2.take (i * n), ?_, h1, listOf_take hn i h2⟩
    rw [Nat.succ_mul, Nat.add_comm, List.take_append, List.take_of_length_le (by omega), h3]
    simp

theorem listOf_get {α : Type} {R : α → List Value → Prop} {n : Nat} (hn : ∀ x cs, R x cs → cs.length = n) {xs : List α} {cs : List Value} {i : Nat} {x : α} (h : listOf R xs cs) (hi : xs[i]? = some x) :
    R x ((cs.drop (i * n)).take n) := by
  have h1 := listOf_drop hn i h
  have h2 : xs.drop i = x :: xs.drop (i + 1) := by
    have hlt : i < xs.length := (List.getElem?_eq_some_iff.1 hi).1
    rw [List.drop_eq_getElem_cons hlt, (List.getElem?_eq_some_iff.1 hi).2]
  rw [h2] at h1
  obtain ⟨c1, c2, e, k1, _⟩ := h1
  rw [e, ← hn _ _ k1]
  simpa using k1

theorem listOf_set {α : Type} {R : α → List Value → Prop} {n : Nat} (hn : ∀ x cs, R x cs → cs.length = n) : ∀ {xs : List α} {cs : List Value} {i : Nat} {x : α} {c : List Value}, listOf R xs cs → i < xs.length → R x c →
    listOf R (xs.set i x) (cs.take (i * n) ++ c ++ cs.drop ((i + 1) * n))
  | [], _, i, _, _, _, hi, _ => by simp at hi
  | y :: xs, _, 0, x, c, ⟨c1, c2, e, h1, h2⟩, _, hc => by
    subst e
    have h3 := hn _ _ h1
    refine ⟨c, c2, ?_, hc, h2⟩
    simp [← h3]
  | y :: xs, _, i + 1, x, c, ⟨c1, c2, e, h1, h2⟩, hi, hc => by
    subst e
    have h3 := hn _ _ h1
    have h4 := listOf_set hn (i := i) h2 (by simpa using hi) hc
    refine ⟨c1, _, ?_, h1, h4⟩
    have e1 : (i + 1) * n = n + i * n := by rw [Nat.succ_mul, Nat.add_comm]
    have e2 : (i + 1 + 1) * n = n + (i + 1) * n := by rw [Nat.succ_mul (i + 1), Nat.add_comm]
    rw [e2, e1, List.take_append, List.drop_append, List.take_of_length_le (by omega), List.drop_eq_nil_of_le (show c1.length ≤ n + (n + i * n) by omega), h3]
    simp

end Go.J

set_option linter.unusedSimpArgs false
set_option linter.unusedVariables false
set_option linter.unusedSectionVars false

namespace Go.J

def El.same : El → El → Bool
  | .u8, .u8 => true
  | .int k, .int k' => k == k'
  | .bool, .bool => true
  | .str, .str => true
  | .rd e, .rd e' => e.same e'
  | .nil, .nil => true
  | .cons e es, .cons e' es' => e.same e' && es.same es'
  | .ar n e, .ar n' e' => Nat.beq n n' && e.same e'
  | _, _ => false

theorem El.same_eq : ∀ {e e' : El}, e.same e' = true → e = e'
  | .u8, e', h => by cases e' <;> first | rfl | (simp [El.same] at h)
  | .int k, e', h => by cases e' <;> simp [El.same] at h; simp [h]
  | .bool, e', h => by cases e' <;> first | rfl | (simp [El.same] at h)
  | .str, e', h => by cases e' <;> first | rfl | (simp [El.same] at h)
  | .rd e, e', h => by cases e' <;> simp [El.same] at h; simp [El.same_eq h]
  | .nil, e', h => by cases e' <;> first | rfl | (simp [El.same] at h)
  | .cons e es, e', h => by cases e' <;> simp [El.same] at h; simp [El.same_eq h.1, El.same_eq h.2]
  | .ar n e, e', h => by cases e' <;> simp [El.same] at h; simp [h.1, El.same_eq h.2]

def castK (e' e : El) (xs : List e'.ty) (K : List e.ty → Prop) : Prop :=
  match e', e, xs, K with
  | .u8, .u8, xs, K => K xs
  | .bool, .bool, xs, K => K xs
  | .str, .str, xs, K => K xs
  | .int a, .int b, xs, K => match a == b with
    | true => K xs
    | false => False
  | e', e, xs, K => if h : e'.same e = true then K (El.same_eq h ▸ xs) else False
theorem castK_iff {e' e : El} {xs : List e'.ty} {K : List e.ty → Prop} (h : castK e' e xs K) : if h : e'.same e = true then K (El.same_eq h ▸ xs) else False := by
  unfold castK at h
  split at h
  · exact h
  · exact h
  · exact h
  · split at h
    · next hb =>
      obtain rfl := eq_of_beq hb
      rw [dif_pos (by simp [El.same])]
      exact h
    · exact h.elim
  · exact h

abbrev Hp := List (Nat × Chunk)

/-! Lists, one at a time. -/
def lgetK {α : Type} (l : List α) (n : Nat) (k : α → Prop) : Prop :=
  match l, n with
  | [], _ => False
  | x :: _, 0 => k x
  | _ :: l, n + 1 => lgetK l n k
def lsetK {α : Type} (l : List α) (n : Nat) (x : α) (k : List α → Prop) : Prop :=
  match l, n with
  | [], _ => False
  | _ :: l, 0 => k (x :: l)
  | y :: l, n + 1 => lsetK l n x fun l => k (y :: l)
def lappK {α : Type} (l m : List α) (k : List α → Prop) : Prop :=
  match l with
  | [] => k m
  | y :: l => lappK l m fun l => k (y :: l)
def lpadK (n : Nat) (l : List T) (k : List T → Prop) : Prop :=
  match n, l with
  | 0, [] => k []
  | 0, _ :: _ => False
  | n + 1, [] => lpadK n [] fun l => k (.v .any :: l)
  | n + 1, x :: l => lpadK n l fun l => k (x :: l)

def lookK (hp : Hp) (r : Nat) (k : Chunk → Prop) : Prop :=
  match hp with
  | [] => False
  | (r', c) :: hp => match Nat.beq r' r with
    | true => k c
    | false => lookK hp r k
def updK (hp : Hp) (r : Nat) (c : Chunk) (k : Hp → Prop) : Prop :=
  match hp with
  | [] => False
  | (r', c') :: hp => match Nat.beq r' r with
    | true => k ((r', c) :: hp)
    | false => updK hp r c fun hp => k ((r', c') :: hp)
def delK (hp : Hp) (r : Nat) (k : Hp → Prop) : Prop :=
  match hp with
  | [] => False
  | (r', c') :: hp => match Nat.beq r' r with
    | true => k hp
    | false => delK hp r fun hp => k ((r', c') :: hp)

/-! Inside a value. -/
def fieldK (i o : Nat) (t : T) (k : T → Prop) : Prop :=
  match i, t with
  | 0, .cons t _ => match o with
    | 0 => k t
    | _ + 1 => False
  | i + 1, .cons t ts => match t.eat o with
    | some o => fieldK i o ts k
    | none => False
  | _, _ => False
def setFieldK (i : Nat) (t new : T) (k : T → Prop) : Prop :=
  match i, t with
  | 0, .cons _ ts => k (.cons new ts)
  | i + 1, .cons t ts => setFieldK i ts new fun ts => k (.cons t ts)
  | _, _ => False

/-- An element told by its value. -/
def decK : (e : El) → T → Hp → (e.ty → Prop) → Prop
  | .u8, .v (.int ik n), _, k => match ik == .u8 with
    | true => (0 ≤ n ∧ n < 256) ∧ k (UInt8.ofNat n.toNat)
    | false => False
  | .int ik, .v (.int ik' n), _, k => match ik == ik' with
    | true => k n
    | false => False
  | .bool, .v .tt, _, k => k true
  | .bool, .v .ff, _, k => k false
  | .bool, .v (.bool b), _, k => k b
  | .str, .v (.str s), _, k => k s
  | .rd _, .v .nils, _, k => k []
  | .rd e, .v (.rd e' xs), _, k => castK e' e xs k
  | .nil, .nil, _, k => k ()
  | .cons e es, .cons t ts, hp, k => decK e t hp fun x => decK es ts hp fun y => k (x, y)
  | .ar n e, .arr e' xs n', _, k => match Nat.beq n n' with
    | true => castK e' e xs k
    | false => False
  | _, _, _, _ => False

def tgetK : List Stp → T → (T → Prop) → Prop
  | [], t, k => k t
  | .f i o :: p, t, k => fieldK i o t fun t => tgetK p t k
  | .x i sz :: p, .arr e xs _, k => match Nat.beq sz e.sz with
    | true => i < xs.length ∧ tgetK p (e.enc (xs.getD i e.dflt)) k
    | false => False
  | .x i sz :: p, .cons t ts, k => fieldK i (i * sz) (.cons t ts) fun t => tgetK p t k
  | _, _, _ => False

def tsetK : List Stp → T → T → Hp → (T → Prop) → Prop
  | [], t, new, _, k => match sizeSame t new with
    | true => k new
    | false => False
  | .f i o :: p, t, new, hp, k => fieldK i o t fun t' => tsetK p t' new hp fun t' => setFieldK i t t' k
  | .x i sz :: p, .arr e xs n, new, hp, k => match Nat.beq sz e.sz with
    | true => i < xs.length ∧ tsetK p (e.enc (xs.getD i e.dflt)) new hp fun t' => decK e t' hp fun x => k (.arr e (xs.set i x) n)
    | false => False
  | .x i sz :: p, .cons t ts, new, hp, k => fieldK i (i * sz) (.cons t ts) fun t' => tsetK p t' new hp fun t' => setFieldK i (.cons t ts) t' k
  | _, _, _, _, _ => False

def Chunk.tree : Chunk → T
  | .own t => t
  | .row _ e xs => .arr e xs xs.length
  | .fz _ e xs => .arr e xs xs.length

/-- What a slice holds. -/
def rdK (e : El) (hp : Hp) (x : V) (k : List e.ty → Prop) : Prop :=
  match x with
  | .rd e' xs => castK e' e xs k
  | .nils => k []
  | .own r => lookK hp r fun
    | .row _ e' xs => castK e' e xs k
    | .fz _ e' xs => castK e' e xs k
    | .own _ => False
  | .sl r p off len sz => lookK hp r fun c => tgetK p c.tree fun
    | .arr e' xs _ => match Nat.beq sz e'.sz with
      | true => off + len ≤ xs.length ∧ castK e' e ((xs.drop off).take len) k
      | false => False
    | _ => False
  | _ => False

/-! Types, as far as they are asked for. -/
inductive Ty where
  | int (k : IntKind) | bool | str | ptr (e : TypeId) | sl (e : TypeId) | st (fs : List (TypeId × Nat)) | ar (n : Nat) (e : TypeId) | fn | other

/-- The zero value of a type. -/
inductive Z where
  | int (k : IntKind) | bool | str | nils | nilp | nilf | nil | cons (z zs : Z) | arr (e : El) (n : Nat)

def Z.toT : Z → T
  | .int k => .v (.int k 0)
  | .bool => .v .ff
  | .str => .v (.str [])
  | .nils => .v .nils
  | .nilp => .v .nilp
  | .nilf => .v .any
  | .nil => .nil
  | .cons z zs => .cons z.toT zs.toT
  | .arr e n => .arr e (List.replicate n e.dflt) n

structure TyI where
  k : Ty
  size : Nat
  bytes : Nat
  zero : Z
  el : Option El
  eqok : Bool

/-- How many parts a value has. -/
def kids : T → Nat
  | .cons _ ts => kids ts + 1
  | _ => 0

def slK (y : Ty) (k : Prop) : Prop := match y with
  | .sl _ => k
  | _ => False
def strK (y : Ty) (k : Prop) : Prop := match y with
  | .str => k
  | _ => False
def ptrK (y : Ty) (k : Prop) : Prop := match y with
  | .ptr _ => k
  | _ => False
def fnK (y : Ty) (k : Prop) : Prop := match y with
  | .fn => k
  | _ => False

structure Env where
  ty : List (Nat × TyI)
  call : List (Nat × (List T → Hp → Nat → (T → Hp → Nat → Prop) → Prop))

def tyK0 (l : List (Nat × TyI)) (t : TypeId) (k : TyI → Prop) : Prop :=
  match l with
  | [] => False
  | (t', i) :: l => match Nat.beq t' t with
    | true => k i
    | false => tyK0 l t k
def tyK (l : List (Nat × TyI)) (t : TypeId) (k : TyI → Prop) : Prop :=
  match l with
  | a :: b :: c :: d :: e :: f :: g :: (t', i) :: l => match Nat.blt t' t with
    | true => tyK l t k
    | false => tyK0 (a :: b :: c :: d :: e :: f :: g :: (t', i) :: []) t k
  | l => tyK0 l t k
/-! Operands. -/
def constT : Value → T
  | .int k n => .v (.int k n)
  | .bool true => .v .tt
  | .bool false => .v .ff
  | .string s => .v (.str s.data.toList)
  | .slice none 0 0 => .v .nils
  | .pointer none => .v .nilp
  | _ => .v .any
def evalK (fr : List T) (o : Operand) (k : T → Prop) : Prop :=
  match o with
  | .tmp t => lgetK fr t k
  | .const c => k (constT c)
  | .func f => k (.v (.fn f []))
  | .global _ => False
def evalsK (fr : List T) (os : List Operand) (k : List T → Prop) : Prop :=
  match os with
  | [] => k []
  | o :: os => evalK fr o fun x => evalsK fr os fun xs => k (x :: xs)

/-- The variables that a function value captures. -/
def capsK : List T → (List Nat → Prop) → Prop
  | [], k => k []
  | .v (.ptr r []) :: ts, k => capsK ts fun c => k (r :: c)
  | _, _ => False
/-- Behind the arguments: what was captured. -/
def addCaps (c : List Nat) : List T → List T
  | [] => caps c
  | t :: ts => t :: addCaps c ts
where
  caps : List Nat → List T
    | [] => []
    | r :: c => .v (.ptr r []) :: caps c

/-- Values of one size, one behind the other. -/
def consK (sz : Nat) : List T → (T → Prop) → Prop
  | [], k => k .nil
  | t :: ts, k => match sizeEq t sz with
    | true => consK sz ts fun ts => k (.cons t ts)
    | false => False
/-! Single operations. -/
def cmpI (op : BinOp) (x y : Int) (k : V → Prop) : Prop :=
  match op with
  | .lss => k (.bool (decide (x < y)))
  | .leq => k (.bool (decide (x ≤ y)))
  | .gtr => k (.bool (decide (y < x)))
  | .geq => k (.bool (decide (y ≤ x)))
  | .eql => k (.bool (decide (x = y)))
  | .neq => k (.bool (!decide (x = y)))
  | _ => False
def binI (op : BinOp) (ik : IntKind) (x y : Int) (k : V → Prop) : Prop :=
  match op with
  | .add => k (.int ik (ik.wrap (x + y)))
  | .sub => k (.int ik (ik.wrap (x - y)))
  | .mul => k (.int ik (ik.wrap (x * y)))
  | .quo => y ≠ 0 ∧ k (.int ik (ik.wrap (x.tdiv y)))
  | .rem => y ≠ 0 ∧ k (.int ik (x.tmod y))
  | .and => k (.int ik (bits .and ik x y))
  | .or => k (.int ik (bits .or ik x y))
  | .xor => k (.int ik (bits .xor ik x y))
  | .andNot => k (.int ik (bits .andNot ik x y))
  | op => cmpI op x y k
def shI (op : BinOp) (ik : IntKind) (x y : Int) (k : V → Prop) : Prop :=
  match op with
  | .shl => 0 ≤ y ∧ k (.int ik (ik.wrap (x * 2 ^ (min y.toNat ik.bits))))
  | .shr => 0 ≤ y ∧ k (.int ik (x.fdiv (2 ^ (min y.toNat ik.bits))))
  | _ => False
def isSh : BinOp → Bool
  | .shl => true
  | .shr => true
  | _ => false
def boolV : V → Option Bool
  | .tt => some true
  | .ff => some false
  | .bool b => some b
  | _ => none
def notV : V → V
  | .tt => .ff
  | .ff => .tt
  | .bool b => .bool (!b)
  | x => x
def notIf (b : Bool) (x : V) : V := match b with
  | true => notV x
  | false => x
/-- Are two values the same? -/
def andV : V → V → V
  | .tt, y => y
  | .ff, _ => .ff
  | x, .tt => x
  | _, .ff => .ff
  | .bool a, .bool b => .bool (a && b)
  | _, _ => .any
def eqBool : V → V → V
  | .tt, .tt => .tt
  | .ff, .ff => .tt
  | .tt, .ff => .ff
  | .ff, .tt => .ff
  | .tt, .bool b => .bool b
  | .bool b, .tt => .bool b
  | .ff, .bool b => .bool (!b)
  | .bool b, .ff => .bool (!b)
  | .bool a, .bool b => .bool (decide (a = b))
  | _, _ => .any
instance El.decEqTy : (e : El) → DecidableEq e.ty
  | .u8 => inferInstanceAs (DecidableEq UInt8)
  | .int _ => inferInstanceAs (DecidableEq Int)
  | .bool => inferInstanceAs (DecidableEq Bool)
  | .str => inferInstanceAs (DecidableEq (List UInt8))
  | .rd e => @instDecidableEqList _ (El.decEqTy e)
  | .nil => inferInstanceAs (DecidableEq Unit)
  | .cons e es => @instDecidableEqProd _ _ (El.decEqTy e) (El.decEqTy es)
  | .ar _ e => @instDecidableEqList _ (El.decEqTy e)
def eqTK : T → T → (V → Prop) → Prop
  | .v (.int a x), .v (.int b y), k => match a == b with
    | true => k (.bool (decide (x = y)))
    | false => False
  | .v (.str x), .v (.str y), k => k (.bool (decide (x = y)))
  | .v x, .v y, k => match boolV x, boolV y with
    | some _, some _ => k (eqBool x y)
    | _, _ => False
  | .nil, .nil, k => k .tt
  | .cons t ts, .cons u us, k => eqTK t u fun x => eqTK ts us fun y => k (andV x y)
  | .arr e xs n, .arr e' ys n', k => match Nat.beq n n' with
    | true => castK e' e ys fun ys => k (.bool (decide (xs = ys)))
    | false => False
  | _, _, _ => False

/-- One cell each: numbers, truths, strings. -/
def El.scal : El → Bool
  | .u8 => true
  | .int _ => true
  | .bool => true
  | .str => true
  | _ => false
def lookTy (l : List (Nat × TyI)) (t : TypeId) : Option TyI :=
  match l with
  | [] => none
  | (t', i) :: l => match Nat.beq t' t with
    | true => some i
    | false => lookTy l t
/-- Is an element of that type? -/
def scalTy (y : Ty) (e : El) : Bool :=
  match y, e with
  | .int k, .int k' => k == k'
  | .int k, .u8 => k == .u8
  | .bool, .bool => true
  | .str, .str => true
  | _, _ => false
def typedL (f : TypeId → T → Bool) : List (TypeId × Nat) → Nat → T → Bool
  | [], _, .nil => true
  | (t, d) :: fs, d', .cons x xs => Nat.beq d d' && f t x && (match x.grow d' with
    | some d' => typedL f fs d' xs
    | none => false)
  | _, _, _ => false
/-- Is a value of that type's shape, without interfaces, pointers, slices? -/
def typed : Nat → List (Nat × TyI) → TypeId → T → Bool
  | 0, _, _, _ => false
  | n + 1, l, t, x => match lookTy l t with
    | none => false
    | some y => sizeEq x y.size && (match y.k with
      | .int k => (match x with
        | .v (.int k' _) => k == k'
        | _ => false)
      | .bool => (match x with
        | .v v => (boolV v).isSome
        | _ => false)
      | .str => (match x with
        | .v (.str _) => true
        | _ => false)
      | .ar m e => (match x with
        | .arr e' _ m' => (match lookTy l e with
          | none => false
          | some z => Nat.beq m m' && e'.scal && scalTy z.k e' && Nat.beq z.size 1)
        | _ => false)
      | .st fs => typedL (typed n l) fs 0 x
      | _ => false)

def inRange (i : Int) (n : Nat) : Prop := 0 ≤ i ∧ i < n

/-- A part told by its field numbers or indices. -/
def placeK : List (TypeId × Nat) → Nat → (TypeId → Nat → Prop) → Prop
  | [], _, _ => False
  | (t, o) :: _, 0, k => k t o
  | _ :: l, i + 1, k => placeK l i k

/-- Elements told by their values. -/
noncomputable def decsK (e : El) (ts : List T) : Hp → (List e.ty → Prop) → Prop :=
  List.rec (motive := fun _ => Hp → (List e.ty → Prop) → Prop) (fun _ k => k []) (fun t _ ih hp k => decK e t hp fun x => ih hp fun xs => k (x :: xs)) ts

/-- Parts laid into a struct, into an array. -/
def setFieldChkK (i : Nat) (t new : T) (k : T → Prop) : Prop :=
  match i, t with
  | 0, .cons t ts => match sizeSame t new with
    | true => k (.cons new ts)
    | false => False
  | i + 1, .cons t ts => setFieldChkK i ts new fun ts => k (.cons t ts)
  | _, _ => False
def fillSK : T → List (Nat × T) → (T → Prop) → Prop
  | t, [], k => k t
  | t, (i, x) :: ps, k => setFieldChkK i t x fun t => fillSK t ps k
def fillAK (e : El) : List e.ty → List (Nat × T) → Hp → (List e.ty → Prop) → Prop
  | xs, [], _, k => k xs
  | xs, (i, x) :: ps, hp, k => decK e x hp fun x => lsetK xs i x fun xs => fillAK e xs ps hp k

/-- A value that is known. -/
def T.known : T → Bool
  | .v .any => false
  | .tup _ => false
  | _ => true

def partsK (fr : List T) : List (Nat × Operand) → (List (Nat × T) → Prop) → Prop
  | [], k => k []
  | (i, o) :: ps, k => evalK fr o fun x => match x.known with
    | false => False
    | true => partsK fr ps fun l => k ((i, x) :: l)

/-- Slices within a slice lie as they are. -/
def flatEl (o : Option El) : Option El :=
  match o with
  | some (.rd _) => none
  | o => o
theorem flatEl_out {o : Option El} {e : El} (h : flatEl o = some e) : o = some e := by
  unfold flatEl at h
  split at h
  · cases h
  · exact h

/-- Rows of our own within a value that is put into a slice are written no more: told by what they hold. -/
def frzT : T → Hp → (T → Hp → Prop) → Prop
  | .v (.own q), hp, k => lookK hp q fun
    | .row ty e xs => updK hp q (.fz ty e xs) fun hp => k (.v (.rd e xs)) hp
    | .fz _ e xs => k (.v (.rd e xs)) hp
    | .own _ => False
  | .cons t ts, hp, k => frzT t hp fun t hp => frzT ts hp fun ts hp => k (.cons t ts) hp
  | t, hp, k => k t hp
def frzsK (ts : List T) (hp : Hp) (k : List T → Hp → Prop) : Prop :=
  List.rec (motive := fun _ => Hp → (List T → Hp → Prop) → Prop) (fun hp k => k [] hp) (fun t _ ih hp k => frzT t hp fun t hp => ih hp fun ts hp => k (t :: ts) hp) ts hp k
/-- A row of our own that stands alone in a slice of slices: its elements' kind, its number. -/
def soleK (o : Option El) (l : List (Nat × T)) : Option (El × Nat) :=
  match o with
  | some (.rd e) => match l with
    | [(_, .v (.own q))] => some (e, q)
    | _ => none
  | _ => none
theorem soleK_out {o : Option El} {l : List (Nat × T)} {e : El} {q : Nat} (h : soleK o l = some (e, q)) : o = some (.rd e) ∧ ∃ i, l = [(i, .v (.own q))] := by
  unfold soleK at h
  split at h
  · split at h
    · cases h
      exact ⟨rfl, _, rfl⟩
    · cases h
  · cases h

/-- Are the parts' numbers 0, 1, 2 ..? -/
def idxOk : List (Nat × T) → Nat → Bool
  | [], _ => true
  | (i, _) :: ps, n => Nat.beq i n && idxOk ps (n + 1)

/-- Is it a value of one cell, as its type says? -/
def shapeK (y : Ty) (t : T) (k : T → Prop) : Prop :=
  match y with
  | .st _ => match t with
    | .nil => k .nil
    | .cons t ts => k (.cons t ts)
    | _ => False
  | .ar _ _ => match t with
    | .nil => k .nil
    | .cons t ts => k (.cons t ts)
    | .arr e xs n => k (.arr e xs n)
    | _ => False
  | _ => match t with
    | .v x => k (.v x)
    | _ => False

def appPath : List Stp → Stp → List Stp
  | [], s => [s]
  | t :: p, s => t :: appPath p s

def loK (fr : List T) (o : Option Operand) (d : Int) (k : Int → Prop) : Prop :=
  match o with
  | none => k d
  | some o => evalK fr o fun
    | .v (.int _ n) => k n
    | _ => False

noncomputable def denOp (E : Env) (o : Op) (fr : List T) (hp : Hp) (nx : Nat) (k : T → Hp → Nat → Prop) : Prop :=
  match o with
  | .move x => evalK fr x fun x => k x hp nx
  | .assign x => evalK fr x fun x => k x hp nx
  | .pick c a b => evalK fr c fun
    | .v .tt => evalK fr a fun x => k x hp nx
    | .v .ff => evalK fr b fun x => k x hp nx
    | .v (.bool c) => (c = true → evalK fr a fun x => k x hp nx) ∧ (c = false → evalK fr b fun x => k x hp nx)
    | _ => False
  | .nilCheck x => evalK fr x fun
    | .v (.ptr r p) => k (.v (.ptr r p)) hp nx
    | .v (.rp e xs i p) => k (.v (.rp e xs i p)) hp nx
    | _ => False
  | .fieldAddr t x f => evalK fr x fun x => tyK E.ty t fun y => match y.k with
    | .st fs => placeK fs f fun _ d => match x with
      | .v (.ptr r p) => k (.v (.ptr r (appPath p (.f f d)))) hp nx
      | .v (.rp e xs i p) => k (.v (.rp e xs i (appPath p (.f f d)))) hp nx
      | _ => False
    | _ => False
  | .field t x f => evalK fr x fun x => tyK E.ty t fun y => match y.k with
    | .st fs => placeK fs f fun ft d => tyK E.ty ft fun z => fieldK f d x fun t => match sizeEq t z.size with
      | true => shapeK z.k t fun t => k t hp nx
      | false => False
    | _ => False
  | .load t x => evalK fr x fun x => tyK E.ty t fun y => match x with
    | .v (.ptr r p) => lookK hp r fun c => tgetK p c.tree fun t => match sizeEq t y.size with
      | true => shapeK y.k t fun t => k t hp nx
      | false => False
    | .v (.rp e xs i p) => tgetK p (e.enc (xs.getD i e.dflt)) fun t => match sizeEq t y.size with
      | true => shapeK y.k t fun t => k t hp nx
      | false => False
    | _ => False
  | .store t x new => evalK fr x fun x => tyK E.ty t fun y => evalK fr new fun new => match new.known with
    | false => False
    | true => match sizeEq new y.size with
      | true => match x with
        | .v (.ptr r p) => lookK hp r fun
          | .own t => tsetK p t new hp fun t => updK hp r (.own t) fun hp => k (.v .any) hp nx
          | .row ty e xs => match p with
            | .x i sz :: q => match Nat.beq sz e.sz with
              | true => i < xs.length ∧ tsetK q (e.enc (xs.getD i e.dflt)) new hp fun t => decK e t hp fun x => updK hp r (.row ty e (xs.set i x)) fun hp => k (.v .any) hp nx
              | false => False
            | _ => False
          | .fz _ _ _ => False
        | _ => False
      | false => False
  | .alloc t => tyK E.ty t fun y => lappK hp [(nx, .own y.zero.toT)] fun hp => k (.v (.ptr nx [])) hp (nx + 1)
  | .box t x => evalK fr x fun x => tyK E.ty t fun y => match x.known with
    | false => False
    | true => match sizeEq x y.size with
      | true => lappK hp [(nx, .own x)] fun hp => k (.v (.ptr nx [])) hp (nx + 1)
      | false => False
  | .build t ps => tyK E.ty t fun y => partsK fr ps.toList fun ps => match y.k with
    | .st _ => match y.zero with
      | .nil => fillSK .nil ps fun t => k t hp nx
      | .cons z zs => fillSK (.cons z.toT zs.toT) ps fun t => k t hp nx
      | _ => False
    | .ar _ _ => match y.zero with
      | .arr e n => fillAK e (List.replicate n e.dflt) ps hp fun xs => k (.arr e xs n) hp nx
      | _ => False
    | _ => False
  | .buildSlice t n ps => tyK E.ty t fun y => match y.k with
    | .sl et => tyK E.ty et fun z => partsK fr ps.toList fun ps => match Nat.beq ps.length n && idxOk ps 0 && Nat.ble (n * z.size) 16777216 with
      | true => match flatEl z.el with
        | some e => frzsK (ps.map (·.2)) hp fun ts hp => decsK e ts hp fun xs => lappK hp [(nx, .row et e xs)] fun hp => k (.v (.own nx)) hp (nx + 1)
        | none => match soleK z.el ps with
          | some (e, q) => lookK hp q fun
            | .row ty e' xs => updK hp q (.fz ty e' xs) fun hp => castK e' e xs fun xs => lappK hp [(nx, .row et (.rd e) [xs])] fun hp => k (.v (.own nx)) hp (nx + 1)
            | .fz _ e' xs => castK e' e xs fun xs => lappK hp [(nx, .row et (.rd e) [xs])] fun hp => k (.v (.own nx)) hp (nx + 1)
            | .own _ => False
          | none => match Nat.blt 0 n && Nat.blt 0 z.size with
            | true => consK z.size (ps.map (·.2)) fun t => lappK hp [(nx, .own t)] fun hp => k (.v (.sl nx [] 0 n z.size)) hp (nx + 1)
            | false => False
      | false => False
    | _ => False
  | .binOp op t x y _ => evalK fr x fun x => evalK fr y fun y => match x, y with
    | .v (.int a x), .v (.int b y) => match isSh op with
      | true => shI op a x y fun r => k (.v r) hp nx
      | false => match a == b with
        | true => binI op a x y fun r => k (.v r) hp nx
        | false => False
    | .v (.str x), .v (.str y) => match op with
      | .eql => k (.v (.bool (decide (x = y)))) hp nx
      | .neq => k (.v (.bool (!decide (x = y)))) hp nx
      | .lss => k (.v (.bool (Op.bytesLess x y))) hp nx
      | .add => (x.length + y.length : Nat) ≤ maxLen ∧ k (.v (.str (x ++ y))) hp nx
      | _ => False
    | x, y => tyK E.ty t fun ti => match x, y with
      | .v .nils, .v .nils => slK ti.k (eqOpK op .tt fun r => k (.v r) hp nx)
      | .v (.own r), .v .nils => slK ti.k (lookK hp r fun
        | .row _ e xs => ∀ b : Bool, (0 < xs.length → b = false) → eqOpK op (.bool b) fun r => k (.v r) hp nx
        | .fz _ e xs => ∀ b : Bool, (0 < xs.length → b = false) → eqOpK op (.bool b) fun r => k (.v r) hp nx
        | .own _ => False)
      | .v (.rd e xs), .v .nils => slK ti.k (∀ b : Bool, (0 < xs.length → b = false) → eqOpK op (.bool b) fun r => k (.v r) hp nx)
      | .v .nilp, .v .nilp => ptrK ti.k (eqOpK op .tt fun r => k (.v r) hp nx)
      | .v (.ptr _ _), .v .nilp => ptrK ti.k (eqOpK op .ff fun r => k (.v r) hp nx)
      | .v (.rp _ _ _ _), .v .nilp => ptrK ti.k (eqOpK op .ff fun r => k (.v r) hp nx)
      | x, y => match typed 9 E.ty t x && typed 9 E.ty t y && eqTyOk ti x with
        | true => eqTK x y fun r => eqOpK op r fun r => k (.v r) hp nx
        | false => False
  | .unOp op _ x => evalK fr x fun x => match op, x with
    | .not, .v .tt => k (.v .ff) hp nx
    | .not, .v .ff => k (.v .tt) hp nx
    | .not, .v (.bool b) => k (.v (.bool (!b))) hp nx
    | .neg, .v (.int ik n) => k (.v (.int ik (ik.wrap (0 - n)))) hp nx
    | .xor, .v (.int ik n) => k (.v (.int ik (bits .xor ik (if ik.signed then -1 else ik.max) n))) hp nx
    | _, _ => False
  | .convert a b x => evalK fr x fun x => tyK E.ty a fun ya => tyK E.ty b fun yb => match ya.k, yb.k, x with
    | .int _, .int ik, .v (.int _ n) => k (.v (.int ik (ik.wrap n))) hp nx
    | .sl e, .str, .v x => tyK E.ty e fun z => match z.k with
      | .int ik => match ik == .u8 with
        | true => rdK .u8 hp x fun xs => k (.v (.str xs)) hp nx
        | false => False
      | _ => False
    | _, _, _ => False
  | .slice t x lo hi mx => match mx with
    | some _ => False
    | none => evalK fr x fun x => loK fr lo 0 fun a => tyK E.ty t fun y => match y.k with
      | .str => match x with
        | .v (.str s) => loK fr hi s.length fun b => (0 ≤ a ∧ a ≤ b ∧ b ≤ s.length) ∧ k (.v (.str ((s.drop a.toNat).take (b - a).toNat))) hp nx
        | _ => False
      | .sl et => tyK E.ty et fun z => match x with
        | .v (.rd e xs) => match Nat.beq z.size e.sz with
          | true => loK fr hi xs.length fun b => (0 ≤ a ∧ a ≤ b ∧ b ≤ xs.length) ∧ k (.v (.rd e ((xs.drop a.toNat).take (b - a).toNat))) hp nx
          | false => False
        | .v .nils => loK fr hi 0 fun b => (a = 0 ∧ b = 0) ∧ k (.v .nils) hp nx
        | .v (.own r) => lookK hp r fun
          | .row _ e xs => match Nat.beq z.size e.sz with
            | true => loK fr hi xs.length fun b => (0 ≤ a ∧ a ≤ b ∧ b ≤ xs.length) ∧ k (.v (.sl r [] a.toNat (b - a).toNat e.sz)) hp nx
            | false => False
          | .fz _ e xs => match Nat.beq z.size e.sz with
            | true => loK fr hi xs.length fun b => (0 ≤ a ∧ a ≤ b ∧ b ≤ xs.length) ∧ k (.v (.rd e ((xs.drop a.toNat).take (b - a).toNat))) hp nx
            | false => False
          | .own _ => False
        | .v (.sl r p off len sz) => match Nat.beq z.size sz with
          | true => loK fr hi len fun b => (0 ≤ a ∧ a ≤ b ∧ b ≤ len) ∧ k (.v (.sl r p (off + a.toNat) (b - a).toNat sz)) hp nx
          | false => False
        | _ => False
      | .ar n et => tyK E.ty et fun z => match x with
        | .v (.ptr r p) => match Nat.ble n 4294967296 with
          | true => loK fr hi n fun b => (0 ≤ a ∧ a ≤ b ∧ b ≤ n) ∧ k (.v (.sl r p a.toNat (b - a).toNat z.size)) hp nx
          | false => False
        | _ => False
      | _ => False
  | .indexAddr t x i => evalK fr x fun x => evalK fr i fun
    | .v (.int _ i) => tyK E.ty t fun y => match y.k with
      | .sl et => tyK E.ty et fun z => match x with
        | .v (.rd e xs) => match Nat.beq z.size e.sz with
          | true => inRange i xs.length ∧ k (.v (.rp e xs i.toNat [])) hp nx
          | false => False
        | .v (.own r) => lookK hp r fun
          | .row _ e xs => match Nat.beq z.size e.sz with
            | true => inRange i xs.length ∧ k (.v (.ptr r [.x i.toNat e.sz])) hp nx
            | false => False
          | .fz _ e xs => match Nat.beq z.size e.sz with
            | true => inRange i xs.length ∧ k (.v (.ptr r [.x i.toNat e.sz])) hp nx
            | false => False
          | .own _ => False
        | .v (.sl r p off len sz) => match Nat.beq z.size sz with
          | true => inRange i len ∧ k (.v (.ptr r (appPath p (.x (off + i.toNat) sz)))) hp nx
          | false => False
        | _ => False
      | .ar n et => tyK E.ty et fun z => match x with
        | .v (.ptr r p) => inRange i n ∧ k (.v (.ptr r (appPath p (.x i.toNat z.size)))) hp nx
        | .v (.rp e xs j p) => inRange i n ∧ k (.v (.rp e xs j (appPath p (.x i.toNat z.size)))) hp nx
        | _ => False
      | _ => False
    | _ => False
  | .index t x i => evalK fr x fun x => evalK fr i fun
    | .v (.int _ i) => match x with
      | .arr e xs n => tyK E.ty t fun y => match y.k with
        | .ar m et => tyK E.ty et fun z => match Nat.beq m n, Nat.beq e.sz z.size with
          | true, true => inRange i n ∧ shapeK z.k (e.enc (xs.getD i.toNat e.dflt)) fun t => k t hp nx
          | _, _ => False
        | _ => False
      | .v (.str s) => tyK E.ty t fun y => match y.k with
        | .str => inRange i s.length ∧ k (.v (.int .u8 (s.getD i.toNat 0).toNat)) hp nx
        | _ => False
      | _ => False
    | _ => False
  | .extract x i => evalK fr x fun
    | .tup ts => tupGetK i ts fun t => k t hp nx
    | _ => False
  | .makeSlice t l c => tyK E.ty t fun y => match y.k with
    | .sl et => tyK E.ty et fun z => evalK fr l fun
      | .v (.int _ n) => evalK fr c fun
        | .v (.int _ m) => match z.el with
          | some e => (n = m ∧ 0 ≤ n ∧ n ≤ maxLen ∧ n.toNat * z.bytes ≤ 140737488355328) ∧ lappK hp [(nx, .row et e (List.replicate n.toNat e.dflt))] fun hp => k (.v (.own nx)) hp (nx + 1)
          | none => False
        | _ => False
      | _ => False
    | _ => False
  | .call c => match c.callee with
    | .builtin .len => match c.argTypes.toList with
      | [t] => tyK E.ty t fun y => evalsK fr c.args.toList fun
        | [.v (.rd _ xs)] => slK y.k (k (.v (.int .i64 xs.length)) hp nx)
        | [.v .nils] => slK y.k (k (.v (.int .i64 0)) hp nx)
        | [.v (.str s)] => strK y.k (k (.v (.int .i64 s.length)) hp nx)
        | [.v (.own r)] => slK y.k (lookK hp r fun
          | .row _ _ xs => k (.v (.int .i64 xs.length)) hp nx
          | .fz _ _ xs => k (.v (.int .i64 xs.length)) hp nx
          | .own _ => False)
        | [.v (.sl _ _ _ len _)] => slK y.k (k (.v (.int .i64 len)) hp nx)
        | _ => False
      | _ => False
    | .builtin .min => evalsK fr c.args.toList fun
      | [.v (.int ik x), .v (.int _ y)] => k (.v (.int ik (if y < x then y else x))) hp nx
      | _ => False
    | .builtin .max => evalsK fr c.args.toList fun
      | [.v (.int ik x), .v (.int _ y)] => k (.v (.int ik (if x < y then y else x))) hp nx
      | _ => False
    | .builtin .append => evalsK fr c.args.toList fun
      | [.v x, .v y] => match c.argTypes.toList with
        | [tx, ty'] => tyK E.ty tx fun ti => match ti.k with
          | .sl et => tyK E.ty et fun z => match z.el with
            | some e => tyK E.ty ty' fun t2 => srcTyK z tx ty' t2 y fun _ => srcK e hp y fun ys => match x with
              | .nils => (ys.length * z.bytes ≤ 140737488355328 ∧ ys.length ≤ maxLen) ∧ lappK hp [(nx, .row et e ys)] fun hp => k (.v (.own nx)) hp (nx + 1)
              | .own r => lookK hp r fun
                | .row et' e' xs => match Nat.beq et' et with
                  | true => castK e' e xs fun xs => ((xs.length + ys.length) * z.bytes ≤ 140737488355328 ∧ xs.length + ys.length ≤ maxLen) ∧
                      delK hp r fun hp => lappK hp [(nx, .row et e (xs ++ ys))] fun hp => k (.v (.own nx)) hp (nx + 1)
                  | false => False
                | _ => False
              | _ => False
            | none => False
          | _ => False
        | _ => False
      | _ => False
    | .builtin .copy => match c.argTypes.toList with
      | [tx, _] => tyK E.ty tx fun ti => match ti.k with
        | .sl et => tyK E.ty et fun z => match Nat.beq z.size 1 with
          | true => evalsK fr c.args.toList fun
            | [.v (.own r), .v y] => lookK hp r fun
              | .row ty e xs => match Nat.beq e.sz 1 with
                | true => rdK e hp y fun ys => updK hp r (.row ty e (ys.take xs.length ++ xs.drop ys.length)) fun hp => k (.v (.int .i64 (min ys.length xs.length : Nat))) hp nx
                | false => False
              | _ => False
            | [.v (.sl r p off len sz), .v y] => lookK hp r fun
              | .own t => tgetK p t fun
                | .arr e xs n => match Nat.beq e.sz 1 && Nat.beq sz 1 with
                  | true => rdK e hp y fun ys => off + len ≤ xs.length ∧
                      tsetK p t (.arr e (xs.take off ++ ys.take len ++ xs.drop (off + min ys.length len)) n) hp fun t => updK hp r (.own t) fun hp => k (.v (.int .i64 (min ys.length len : Nat))) hp nx
                  | false => False
                | _ => False
              | _ => False
            | _ => False
          | false => False
        | _ => False
      | _ => False
    | .value (.func f) => callK E.call f fun g => evalsK fr c.args.toList fun vs => g vs hp nx k
    | .value (.tmp x) => lgetK fr x fun
      | .v (.fn f cs) => callK E.call f fun g => evalsK fr c.args.toList fun vs => g (addCaps cs vs) hp nx k
      | _ => False
    | _ => False
  | .makeFunc fn first cap => match fn, first.toList with
    | .func f, [] => evalsK fr cap.toList fun ts => capsK ts fun cs => k (.v (.fn f cs)) hp nx
    | _, _ => False
  | _ => False
where
  eqOpK (op : BinOp) (r : V) (k : V → Prop) : Prop :=
    match op with
    | .eql => k r
    | .neq => k (notV r)
    | _ => False
  eqTyOk (y : TyI) (x : T) : Bool :=
    match x with
    | .v x => (boolV x).isSome
    | .tup _ => false
    | _ => y.eqok
  tupGetK (i : Nat) (t : T) (k : T → Prop) : Prop :=
    match i, t with
    | 0, .cons t _ => k t
    | i + 1, .cons _ ts => tupGetK i ts k
    | _, _ => False
  srcTyK (z : TyI) (tx ty' : TypeId) (t2 : TyI) (y : V) (k : Unit → Prop) : Prop :=
    match y with
    | .str _ => match z.zero, t2.k, Nat.beq z.bytes 1, Nat.beq z.size 1 with
      | .int ik, .str, true, true => match ik == .u8 with
        | true => k ()
        | false => False
      | _, _, _, _ => False
    | _ => match Nat.beq tx ty' with
      | true => k ()
      | false => False
  srcK (e : El) (hp : Hp) (y : V) (k : List e.ty → Prop) : Prop :=
    match y with
    | .str s => castK .u8 e s k
    | y => rdK e hp y k
  callK (l : List (Nat × (List T → Hp → Nat → (T → Hp → Nat → Prop) → Prop))) (f : FuncId) (k : (List T → Hp → Nat → (T → Hp → Nat → Prop) → Prop) → Prop) : Prop :=
    match l with
    | [] => False
    | (f', g) :: l => match Nat.beq f' f with
      | true => k g
      | false => callK l f k

end Go.J

set_option linter.unusedSimpArgs false
set_option linter.unusedVariables false
set_option linter.unusedSectionVars false

namespace Go.J

/-! What the lists' words say. -/
theorem lgetK_out {α : Type} {k : α → Prop} : ∀ {l : List α} {n : Nat}, lgetK l n k → ∃ x, l[n]? = some x ∧ k x
  | [], _, h => by simp [lgetK] at h
  | x :: _, 0, h => ⟨x, rfl, h⟩
  | _ :: l, n + 1, h => by simpa using lgetK_out (l := l) (n := n) h

theorem lsetK_out {α : Type} : ∀ {l : List α} {n : Nat} {x : α} {k : List α → Prop}, lsetK l n x k → n < l.length ∧ k (l.set n x)
  | [], _, _, _, h => by simp [lsetK] at h
  | _ :: _, 0, _, _, h => ⟨by simp, h⟩
  | y :: l, n + 1, x, k, h => by
    have h := lsetK_out (l := l) (n := n) (k := fun l => k (y :: l)) h
    exact ⟨by simpa using h.1, by simpa using h.2⟩

theorem lappK_out {α : Type} : ∀ {l m : List α} {k : List α → Prop}, lappK l m k → k (l ++ m)
  | [], _, _, h => h
  | y :: l, m, k, h => by simpa using lappK_out (l := l) (k := fun l => k (y :: l)) h

theorem lpadK_out : ∀ {n : Nat} {l : List T} {k : List T → Prop}, lpadK n l k → l.length ≤ n ∧ k (l ++ List.replicate (n - l.length) (.v .any))
  | 0, [], _, h => ⟨by simp, by simpa [lpadK] using h⟩
  | 0, _ :: _, _, h => by simp [lpadK] at h
  | n + 1, [], k, h => by
    have h := lpadK_out (n := n) (l := []) (k := fun l => k (.v .any :: l)) h
    refine ⟨by simp, ?_⟩
    have h2 := h.2
    simp only [List.length_nil, Nat.sub_zero, List.nil_append] at h2 ⊢
    rwa [List.replicate_succ]
  | n + 1, x :: l, k, h => by
    have h := lpadK_out (n := n) (l := l) (k := fun l => k (x :: l)) h
    refine ⟨by simpa using h.1, ?_⟩
    have h2 := h.2
    simp only [List.length_cons, List.cons_append] at h2 ⊢
    rwa [Nat.add_sub_add_right]

theorem nat_beq_eq0 {a b : Nat} (h : Nat.beq a b = true) : a = b := Nat.eq_of_beq_eq_true h

class BeqOut (b : Bool) (p : outParam Prop) where
  out : b = true → p
instance (a b : Nat) : BeqOut (Nat.beq a b) (a = b) := ⟨nat_beq_eq0⟩
instance (t : T) (n : Nat) : BeqOut (sizeEq t n) (t.size = n) := ⟨sizeEq_out⟩
instance (t u : T) : BeqOut (sizeSame t u) (t.size = u.size) := ⟨sizeSame_out⟩
theorem nat_beq_eq {b : Bool} {p : Prop} [i : BeqOut b p] (h : b = true) : p := i.out h

theorem lookK_out {k : Chunk → Prop} : ∀ {hp : Hp} {r : Nat}, lookK hp r k → ∃ c, (r, c) ∈ hp ∧ k c
  | [], _, h => by simp [lookK] at h
  | (r', c) :: hp, r, h => by
    unfold lookK at h
    cases hb : Nat.beq r' r with
    | true =>
      have hb' := hb
      obtain rfl := nat_beq_eq hb'
      rw [hb] at h
      exact ⟨c, by simp, h⟩
    | false =>
      rw [hb] at h
      obtain ⟨c', hm, hk⟩ := lookK_out (hp := hp) h
      exact ⟨c', by simp [hm], hk⟩

/-- One chunk in another's place. -/
theorem updK_out : ∀ {hp : Hp} {r : Nat} {c : Chunk} {k : Hp → Prop}, updK hp r c k → ∃ l1 c0 l2, hp = l1 ++ (r, c0) :: l2 ∧ k (l1 ++ (r, c) :: l2)
  | [], _, _, _, h => by simp [updK] at h
  | (r', c') :: hp, r, c, k, h => by
    unfold updK at h
    cases hb : Nat.beq r' r with
    | true =>
      obtain rfl := nat_beq_eq hb
      rw [hb] at h
      exact ⟨[], c', hp, rfl, h⟩
    | false =>
      rw [hb] at h
      obtain ⟨l1, c0, l2, e, hk⟩ := updK_out (hp := hp) (k := fun hp => k ((r', c') :: hp)) h
      exact ⟨(r', c') :: l1, c0, l2, by simp [e], hk⟩

theorem delK_out : ∀ {hp : Hp} {r : Nat} {k : Hp → Prop}, delK hp r k → ∃ l1 c0 l2, hp = l1 ++ (r, c0) :: l2 ∧ k (l1 ++ l2)
  | [], _, _, h => by simp [delK] at h
  | (r', c') :: hp, r, k, h => by
    unfold delK at h
    cases hb : Nat.beq r' r with
    | true =>
      obtain rfl := nat_beq_eq hb
      rw [hb] at h
      exact ⟨[], c', hp, rfl, h⟩
    | false =>
      rw [hb] at h
      obtain ⟨l1, c0, l2, e, hk⟩ := delK_out (hp := hp) (k := fun hp => k ((r', c') :: hp)) h
      exact ⟨(r', c') :: l1, c0, l2, by simp [e], hk⟩

theorem castK_out {e' e : El} {xs : List e'.ty} {k : List e.ty → Prop} (h : castK e' e xs k) : ∃ he : e' = e, k (he ▸ xs) := by
  have h := castK_iff h
  split at h
  · exact ⟨El.same_eq (by assumption), h⟩
  · exact h.elim

theorem castK_eq {e' e : El} {xs : List e'.ty} {k : List e.ty → Prop} (h : castK e' e xs k) : e' = e := (castK_out h).1
theorem castK_self {e : El} {xs : List e.ty} {k : List e.ty → Prop} (h : castK e e xs k) : k xs := by
  obtain ⟨he, hk⟩ := castK_out h
  exact hk

theorem tyK0_one : ∀ (l : List (Nat × TyI)) (t : TypeId), (∃ y, (t, y) ∈ l ∧ ∀ k : TyI → Prop, tyK0 l t k ↔ k y) ∨ ∀ k : TyI → Prop, ¬ tyK0 l t k
  | [], t => .inr fun k h => h
  | (t', i) :: l, t => by
    cases hb : Nat.beq t' t with
    | true =>
      obtain rfl := nat_beq_eq hb
      exact .inl ⟨i, by simp, fun k => by unfold tyK0; rw [hb]⟩
    | false =>
      rcases tyK0_one l t with ⟨y, h1, h2⟩ | h
      · exact .inl ⟨y, by simp [h1], fun k => by unfold tyK0; rw [hb]; exact h2 k⟩
      · exact .inr fun k hk => by unfold tyK0 at hk; rw [hb] at hk; exact h k hk
theorem tyK_one : ∀ (m : Nat) (l : List (Nat × TyI)) (t : TypeId), l.length ≤ m → (∃ y, (t, y) ∈ l ∧ ∀ k : TyI → Prop, tyK l t k ↔ k y) ∨ ∀ k : TyI → Prop, ¬ tyK l t k
  | 0, [], t, _ => .inr fun k h => by unfold tyK at h; exact h
  | m + 1, l, t, hm => by
    unfold tyK
    split
    · next a b c d e f g t' i l =>
      simp only [List.length_cons] at hm
      split
      · rcases tyK_one m l t (by omega) with ⟨y, h1, h2⟩ | h
        · exact .inl ⟨y, by simp [h1], h2⟩
        · exact .inr h
      · rcases tyK0_one _ t with ⟨y, h1, h2⟩ | h
        · refine .inl ⟨y, ?_, h2⟩
          simp only [List.mem_cons, List.not_mem_nil, or_false] at h1
          simp only [List.mem_cons]
          rcases h1 with h1 | h1 | h1 | h1 | h1 | h1 | h1 | h1 <;> simp [h1]
        · exact .inr h
    · exact tyK0_one _ t
theorem tyK_out {k : TyI → Prop} {l : List (Nat × TyI)} {t : TypeId} (h : tyK l t k) : ∃ i, (t, i) ∈ l ∧ k i := by
  rcases tyK_one _ l t (Nat.le_refl _) with ⟨y, h1, h2⟩ | h3
  · exact ⟨y, h1, (h2 k).1 h⟩
  · exact (h3 k h).elim
theorem tyK_both {p q : TyI → Prop} {l : List (Nat × TyI)} {t : TypeId} (h : tyK l t p) (h' : tyK l t q) : ∃ y, (t, y) ∈ l ∧ p y ∧ q y ∧ ∀ k : TyI → Prop, k y → tyK l t k := by
  rcases tyK_one _ l t (Nat.le_refl _) with ⟨y, h1, h2⟩ | h3
  · exact ⟨y, h1, (h2 p).1 h, (h2 q).1 h', fun k => (h2 k).2⟩
  · exact (h3 p h).elim

/-! A state. -/
def B.val (b : B) : Value := .slice (if b.nil then none else some ⟨b.blk, 0, none⟩) b.len b.cap

def chunkOk (G : Cx) : Chunk → B → Prop
  | .own t, b => b.nil = false ∧ ∃ cs ty, G.w.heap[b.blk]? = some (.cells ⟨cs⟩ ty (0, 0)) ∧ tCells G t cs
  | .row ty e xs, b => b.len = xs.length ∧ b.cap ≤ maxLen ∧ ∃ css, G.w.ownsRow 0 ty e.sz b.val xs.length css ∧ listOf (cellsOf G.im G.w e) xs css
  | .fz _ e xs, b => b.len = xs.length ∧ b.len ≤ b.cap ∧ b.cap ≤ maxLen ∧
      (0 < b.len → b.nil = false ∧ G.im b.blk ∧ b.blk < G.w.heap.size ∧ ∃ css, cellsAt G.w b.blk 0 css ∧ listOf (cellsOf G.im G.w e) xs css)

def Chunk.rw : Chunk → Bool
  | .own _ => true
  | .row _ _ _ => true
  | .fz _ _ _ => false

/-- What the call may write of what was there; what nobody writes. -/
structure Base where
  f : Nat → Prop
  im : Nat → Prop
instance : CoeFun Base (fun _ => Nat → Prop) := ⟨Base.f⟩

structure Mdl (w0 : World) (F0 : Base) (G : Cx) (hp : Hp) (nx : Nat) : Prop where
  os : G.w.os = w0.os
  tape : G.w.tape = w0.tape
  output : G.w.output = w0.output
  size : w0.heap.size ≤ G.w.heap.size
  keep : ∀ b, b < w0.heap.size → ¬ F0 b → G.w.heap[b]? = w0.heap[b]?
  imLt : ∀ b, G.im b → b < G.w.heap.size
  fresh : ∀ r, nx ≤ r → G.rho r = none
  chunk : ∀ r c, (r, c) ∈ hp → ∃ b, G.rho r = some b ∧ chunkOk G c b
  ids : (hp.map (·.1)).Nodup
  apart : ∀ r c s d b b', (r, c) ∈ hp → (s, d) ∈ hp → r ≠ s → c.rw = true → d.rw = true → G.rho r = some b → G.rho s = some b' → b.nil = false → b'.nil = false → b.blk ≠ b'.blk
  mine : ∀ r c b, (r, c) ∈ hp → c.rw = true → G.rho r = some b → b.nil = false → (w0.heap.size ≤ b.blk ∨ F0 b.blk) ∧ b.blk < G.w.heap.size ∧ ¬ G.im b.blk
  imNew : ∀ b, G.im b → F0.im b ∨ w0.heap.size ≤ b ∨ F0 b

def frOk (G : Cx) (fr : List T) (vs : Array Value) : Prop := fr.length = vs.size ∧ ∀ (i : Nat) (t : T), fr[i]? = some t → ∃ v : Value, vs[i]? = some v ∧ tVal G t v

theorem frOk.ext {G G' : Cx} {fr : List T} {vs : Array Value} (h : frOk G fr vs) (k : Ext G G') : frOk G' fr vs :=
  ⟨h.1, fun i t ht => by
    obtain ⟨v, e, hv⟩ := h.2 i t ht
    exact ⟨v, e, k.tVal hv⟩⟩

theorem frOk.set {G : Cx} {fr : List T} {vs : Array Value} (h : frOk G fr vs) {i : Nat} {t : T} {v : Value} (hv : tVal G t v) : frOk G (fr.set i t) (vs.setIfInBounds i v) := by
  refine ⟨by simp [h.1], fun j u hu => ?_⟩
  rw [List.getElem?_set] at hu
  by_cases hij : i = j
  · subst hij
    by_cases hlt : i < fr.length
    · simp [hlt] at hu
      subst hu
      have : i < vs.size := by rw [← h.1]; exact hlt
      exact ⟨v, by simp [this], hv⟩
    · simp [hlt] at hu
  · rw [if_neg hij] at hu
    obtain ⟨v', e, hv'⟩ := h.2 j u hu
    exact ⟨v', by rw [Array.getElem?_setIfInBounds_ne hij]; exact e, hv'⟩

theorem Ext.chunkOk {G G' : Cx} (h : Ext G G') {c : Chunk} {b : B} (hc : chunkOk G c b) (hk : c.rw = true → b.nil = false → G'.w.heap[b.blk]? = G.w.heap[b.blk]?) : J.chunkOk G' c b := by
  cases c with
  | own t =>
    obtain ⟨h1, cs, ty, h2, h3⟩ := hc
    exact ⟨h1, cs, ty, by rw [hk rfl h1]; exact h2, h.tCells h3⟩
  | row ty e xs =>
    obtain ⟨h1, h0, css, h2, h3⟩ := hc
    refine ⟨h1, h0, css, ⟨h2.1, ?_⟩, h.listOf h3⟩
    rcases h2.2 with h2 | ⟨g, cap, cur, e1, e2, e3, e4⟩
    · exact .inl h2
    · refine .inr ⟨g, cap, cur, e1, e2, ?_, e4⟩
      have hn : b.nil = false := by
        cases hb : b.nil with
        | false => rfl
        | true => simp [B.val, hb] at e1
      have hg : b.blk = g := by simp [B.val, hn] at e1; exact e1.1
      rw [← hg, hk rfl hn, hg]
      exact e3
  | fz ty e xs =>
    obtain ⟨h1, h2, h3, h4⟩ := hc
    exact ⟨h1, h2, h3, fun hp => by
      obtain ⟨k1, k2, k3, css, k4, k5⟩ := h4 hp
      exact ⟨k1, h.im _ k2, Nat.lt_of_lt_of_le k3 h.size, css, k4.keep (h.keep _ k2), h.listOf k5⟩⟩

/-- The same state in a world that has grown, or was drawn from. -/
theorem Mdl.next {w0 : World} {F0 : Base} {G : Cx} {hp : Hp} {nx : Nat} (h : Mdl w0 F0 G hp nx) {w' : World} (ho : w'.os = G.w.os) (ht : w'.tape = G.w.tape) (hu : w'.output = G.w.output) (hs : G.w.heap.size ≤ w'.heap.size)
    (hb : ∀ b, b < G.w.heap.size → w'.heap[b]? = G.w.heap[b]?) : Ext G ⟨G.rho, G.im, w'⟩ ∧ Mdl w0 F0 ⟨G.rho, G.im, w'⟩ hp nx := by
  have hx : Ext G ⟨G.rho, G.im, w'⟩ := ⟨fun _ _ h => h, fun _ h => h, fun b hi => hb b (h.imLt b hi), hs⟩
  refine ⟨hx, ho.trans h.os, ht.trans h.tape, hu.trans h.output, Nat.le_trans h.size hs, fun b hlt hF => (hb b (Nat.lt_of_lt_of_le hlt h.size)).trans (h.keep b hlt hF),
    fun b hi => Nat.lt_of_lt_of_le (h.imLt b hi) hs, h.fresh, fun r c hm => ?_, h.ids, h.apart, fun r c b hm hc hr hn => ?_, h.imNew⟩
  · obtain ⟨b, hr, hc⟩ := h.chunk r c hm
    exact ⟨b, hr, hx.chunkOk hc fun hw hn => hb _ (h.mine r c b hm hw hr hn).2.1⟩
  · have := h.mine r c b hm hc hr hn
    exact ⟨this.1, Nat.lt_of_lt_of_le this.2.1 hs, this.2.2⟩

theorem Mdl.drew {w0 : World} {F0 : Base} {G : Cx} {hp : Hp} {nx : Nat} (h : Mdl w0 F0 G hp nx) : Ext G ⟨G.rho, G.im, G.w.drew⟩ ∧ Mdl w0 F0 ⟨G.rho, G.im, G.w.drew⟩ hp nx :=
  h.next rfl rfl rfl (Nat.le_refl _) fun _ _ => rfl

/-- A new chunk, at the next number. -/
theorem Mdl.new {w0 : World} {F0 : Base} {G : Cx} {hp : Hp} {nx : Nat} (h : Mdl w0 F0 G hp nx) {w' : World} (ho : w'.os = G.w.os) (ht : w'.tape = G.w.tape) (hu : w'.output = G.w.output) (hs : G.w.heap.size ≤ w'.heap.size)
    (hb : ∀ b, b < G.w.heap.size → w'.heap[b]? = G.w.heap[b]?) (c : Chunk) (b : B) (hbl : b.nil = false → G.w.heap.size ≤ b.blk ∧ b.blk < w'.heap.size)
    (hc : ∀ G' : Cx, Ext G G' → G'.w = w' → (c.rw = true) → chunkOk G' c b) (hrw : c.rw = true) :
    ∃ G', Ext G G' ∧ G'.w = w' ∧ G'.rho nx = some b ∧ Mdl w0 F0 G' (hp ++ [(nx, c)]) (nx + 1) := by
  obtain ⟨hx, hm⟩ := h.next ho ht hu hs hb
  let G' : Cx := ⟨fun r => if r = nx then some b else G.rho r, G.im, w'⟩
  have hr : ∀ r b', G.rho r = some b' → G'.rho r = some b' := fun r b' hr => by
    have : r ≠ nx := by rintro rfl; rw [h.fresh r (Nat.le_refl _)] at hr; cases hr
    simp [G', this, hr]
  have hx' : Ext G G' := ⟨hr, fun _ h => h, hx.keep, hs⟩
  have hold : ∀ r c, (r, c) ∈ hp → r ≠ nx := fun r c hmem => by
    obtain ⟨b', hr', _⟩ := h.chunk r c hmem
    rintro rfl
    rw [h.fresh r (Nat.le_refl _)] at hr'
    cases hr'
  have hrho : ∀ r, r ≠ nx → G'.rho r = G.rho r := fun r hne => by simp [G', hne]
  refine ⟨G', hx', rfl, by simp [G'], hm.os, hm.tape, hm.output, hm.size, hm.keep, hm.imLt, fun r hle => ?_, fun r c' hmem => ?_, ?_, ?_, ?_, hm.imNew⟩
  · have : r ≠ nx := by omega
    rw [hrho r this]
    exact h.fresh r (by omega)
  · rcases List.mem_append.1 hmem with hmem | hmem
    · obtain ⟨b', hr', hc'⟩ := h.chunk r c' hmem
      exact ⟨b', hr _ _ hr', hx'.chunkOk hc' fun hw hn => hb _ (h.mine r c' b' hmem hw hr' hn).2.1⟩
    · simp at hmem
      obtain ⟨rfl, rfl⟩ := hmem
      exact ⟨b, by simp [G'], hc G' hx' rfl hrw⟩
  · rw [List.map_append, List.nodup_append]
    refine ⟨h.ids, by simp, ?_⟩
    intro a ha b' hb'
    simp at hb'
    obtain ⟨⟨r, c'⟩, hmem, rfl⟩ := List.mem_map.1 ha
    subst hb'
    exact hold _ _ hmem
  · intro r c1 s c2 b1 b2 hx1 hx2 hne hw1 hw2 hr1 hr2 hn1 hn2
    rcases List.mem_append.1 hx1 with hm1 | hm1 <;> rcases List.mem_append.1 hx2 with hm2 | hm2
    · rw [hrho _ (hold _ _ hm1)] at hr1
      rw [hrho _ (hold _ _ hm2)] at hr2
      exact h.apart r c1 s c2 b1 b2 hm1 hm2 hne hw1 hw2 hr1 hr2 hn1 hn2
    · rw [hrho _ (hold _ _ hm1)] at hr1
      simp at hm2
      obtain ⟨rfl, rfl⟩ := hm2
      simp [G'] at hr2
      subst hr2
      have := (h.mine r c1 b1 hm1 hw1 hr1 hn1).2.1
      have := (hbl hn2).1
      omega
    · rw [hrho _ (hold _ _ hm2)] at hr2
      simp at hm1
      obtain ⟨rfl, rfl⟩ := hm1
      simp [G'] at hr1
      subst hr1
      have := (h.mine s c2 b2 hm2 hw2 hr2 hn2).2.1
      have := (hbl hn1).1
      omega
    · simp at hm1 hm2
      exact (hne (hm1.1.trans hm2.1.symm)).elim
  · intro r c1 b1 hm1 hw1 hr1 hn1
    rcases List.mem_append.1 hm1 with hm1 | hm1
    · rw [hrho _ (hold _ _ hm1)] at hr1
      have := h.mine r c1 b1 hm1 hw1 hr1 hn1
      exact ⟨this.1, Nat.lt_of_lt_of_le this.2.1 hs, this.2.2⟩
    · simp at hm1
      obtain ⟨rfl, rfl⟩ := hm1
      simp [G'] at hr1
      subst hr1
      refine ⟨.inl (Nat.le_trans h.size (hbl hn1).1), (hbl hn1).2, fun hi => ?_⟩
      have := h.imLt _ hi
      have := (hbl hn1).1
      omega

/-- A chunk written: its block, and no other. -/
theorem Mdl.write {w0 : World} {F0 : Base} {G : Cx} {l1 l2 : Hp} {r : Nat} {c0 c : Chunk} {nx : Nat} (h : Mdl w0 F0 G (l1 ++ (r, c0) :: l2) nx) {b : B} (hr : G.rho r = some b) (hw0 : c0.rw = true) (hn : b.nil = false) {w' : World}
    (ho : w'.os = G.w.os) (ht : w'.tape = G.w.tape) (hu : w'.output = G.w.output) (hs : w'.heap.size = G.w.heap.size)
    (hb : ∀ k, k ≠ b.blk → w'.heap[k]? = G.w.heap[k]?) (hc : Ext G ⟨G.rho, G.im, w'⟩ → chunkOk ⟨G.rho, G.im, w'⟩ c b) (hw : c.rw = true) :
    Ext G ⟨G.rho, G.im, w'⟩ ∧ Mdl w0 F0 ⟨G.rho, G.im, w'⟩ (l1 ++ (r, c) :: l2) nx := by
  have hm0 : (r, c0) ∈ l1 ++ (r, c0) :: l2 := by simp
  have hmine := h.mine r c0 b hm0 hw0 hr hn
  have hx : Ext G ⟨G.rho, G.im, w'⟩ := ⟨fun _ _ h => h, fun _ h => h, fun k hi => hb k (by rintro rfl; exact hmine.2.2 hi), Nat.le_of_eq hs.symm⟩
  have hids : ((l1 ++ (r, c) :: l2).map (·.1)).Nodup := by simpa using h.ids
  have hnd := h.ids
  simp only [List.map_append, List.map_cons] at hnd
  have hone : ∀ s d, (s, d) ∈ l1 ++ (r, c) :: l2 → (s = r ∧ d = c) ∨ (s ≠ r ∧ (s, d) ∈ l1 ++ (r, c0) :: l2) := by
    intro s d hq
    rcases List.mem_append.1 hq with hm | hm
    · refine .inr ⟨?_, by simp [hm]⟩
      rintro rfl
      have := (List.nodup_append.1 hnd).2.2 s (List.mem_map.2 ⟨(s, d), hm, rfl⟩) s (by simp)
      exact this rfl
    · rcases List.mem_cons.1 hm with hm2 | hm2
      · cases hm2; exact .inl ⟨rfl, rfl⟩
      · refine .inr ⟨?_, by simp [hm2]⟩
        rintro rfl
        have := (List.nodup_cons.1 (List.nodup_append.1 hnd).2.1).1
        exact this (List.mem_map.2 ⟨(s, d), hm2, rfl⟩)
  refine ⟨hx, ho.trans h.os, ht.trans h.tape, hu.trans h.output, by show w0.heap.size ≤ w'.heap.size; rw [hs]; exact h.size, fun k hlt hF => ?_, fun k hi => by show k < w'.heap.size; rw [hs]; exact h.imLt k hi, h.fresh, fun s d hm => ?_, hids, ?_, ?_, h.imNew⟩
  · refine (hb k ?_).trans (h.keep k hlt hF)
    rintro rfl
    rcases hmine.1 with h1 | h1
    · omega
    · exact hF h1
  · rcases hone s d hm with ⟨rfl, rfl⟩ | ⟨hne, hm'⟩
    · exact ⟨b, hr, hc hx⟩
    · obtain ⟨b', hr', hc'⟩ := h.chunk s d hm'
      exact ⟨b', hr', hx.chunkOk hc' fun hwd hnd' => hb _ (h.apart s d r c0 b' b hm' hm0 hne hwd hw0 hr' hr hnd' hn)⟩
  · intro s1 d1 s2 d2 b1 b2 hm1 hm2 hne hw1 hw2 hr1 hr2 hn1 hn2
    rcases hone s1 d1 hm1 with ⟨rfl, rfl⟩ | ⟨hne1, hm1'⟩ <;> rcases hone s2 d2 hm2 with ⟨rfl, rfl⟩ | ⟨hne2, hm2'⟩
    · exact (hne rfl).elim
    · exact h.apart s1 c0 s2 d2 b1 b2 hm0 hm2' hne hw0 hw2 hr1 hr2 hn1 hn2
    · exact h.apart s1 d1 s2 c0 b1 b2 hm1' hm0 hne hw1 hw0 hr1 hr2 hn1 hn2
    · exact h.apart s1 d1 s2 d2 b1 b2 hm1' hm2' hne hw1 hw2 hr1 hr2 hn1 hn2
  · intro s d b' hm' hw' hr' hn'
    show _ ∧ b'.blk < w'.heap.size ∧ _
    rw [hs]
    rcases hone s d hm' with ⟨rfl, rfl⟩ | ⟨hne, hm''⟩
    · exact h.mine s c0 b' hm0 hw0 hr' hn'
    · exact h.mine s d b' hm'' hw' hr' hn'

/-- A chunk let go. -/
theorem Mdl.drop {w0 : World} {F0 : Base} {G : Cx} {l1 l2 : Hp} {r : Nat} {c0 : Chunk} {nx : Nat} (h : Mdl w0 F0 G (l1 ++ (r, c0) :: l2) nx) : Mdl w0 F0 G (l1 ++ l2) nx := by
  have hsub : ∀ s d, (s, d) ∈ l1 ++ l2 → (s, d) ∈ l1 ++ (r, c0) :: l2 := fun s d hm => by
    rcases List.mem_append.1 hm with hm | hm <;> simp [hm]
  refine ⟨h.os, h.tape, h.output, h.size, h.keep, h.imLt, h.fresh, fun s d hm => h.chunk s d (hsub s d hm), ?_, fun _ _ _ _ _ _ h1 h2 => h.apart _ _ _ _ _ _ (hsub _ _ h1) (hsub _ _ h2), fun _ _ _ h1 => h.mine _ _ _ (hsub _ _ h1), h.imNew⟩
  refine List.Nodup.sublist ?_ h.ids
  exact List.Sublist.map _ (List.Sublist.append (List.Sublist.refl _) (List.sublist_cons_self _ _))

/-- A new chunk, at the next number; blocks that no chunk has any more may have been written. -/
theorem Mdl.new2 {w0 : World} {F0 : Base} {G : Cx} {hp : Hp} {nx : Nat} (h : Mdl w0 F0 G hp nx) (tch : Nat → Prop) (ht1 : ∀ k, tch k → (w0.heap.size ≤ k ∨ F0 k) ∧ k < G.w.heap.size ∧ ¬ G.im k)
    (ht2 : ∀ r c b, (r, c) ∈ hp → c.rw = true → G.rho r = some b → b.nil = false → ¬ tch b.blk) {w' : World} (ho : w'.os = G.w.os) (ht : w'.tape = G.w.tape) (hu : w'.output = G.w.output) (hs : G.w.heap.size ≤ w'.heap.size)
    (hb : ∀ b, b < G.w.heap.size → ¬ tch b → w'.heap[b]? = G.w.heap[b]?) (c : Chunk) (b : B) (hbl : b.nil = false → (G.w.heap.size ≤ b.blk ∧ b.blk < w'.heap.size) ∨ tch b.blk)
    (hc : ∀ G' : Cx, Ext G G' → G'.w = w' → chunkOk G' c b) (hrw : c.rw = true) :
    ∃ G', Ext G G' ∧ G'.w = w' ∧ G'.rho nx = some b ∧ Mdl w0 F0 G' (hp ++ [(nx, c)]) (nx + 1) := by
  let G' : Cx := ⟨fun r => if r = nx then some b else G.rho r, G.im, w'⟩
  have hr : ∀ r b', G.rho r = some b' → G'.rho r = some b' := fun r b' hr => by
    have : r ≠ nx := by rintro rfl; rw [h.fresh r (Nat.le_refl _)] at hr; cases hr
    simp [G', this, hr]
  have hx' : Ext G G' := ⟨hr, fun _ h => h, fun k hi => hb k (h.imLt k hi) (fun hk => (ht1 k hk).2.2 hi), hs⟩
  have hold : ∀ r c, (r, c) ∈ hp → r ≠ nx := fun r c hmem => by
    obtain ⟨b', hr', _⟩ := h.chunk r c hmem
    rintro rfl
    rw [h.fresh r (Nat.le_refl _)] at hr'
    cases hr'
  have hrho : ∀ r, r ≠ nx → G'.rho r = G.rho r := fun r hne => by simp [G', hne]
  refine ⟨G', hx', rfl, by simp [G'], ho.trans h.os, ht.trans h.tape, hu.trans h.output, Nat.le_trans h.size hs, fun k hlt hF => ?_, fun k hi => Nat.lt_of_lt_of_le (h.imLt k hi) hs, fun r hle => ?_, fun r c' hmem => ?_, ?_, ?_, ?_, h.imNew⟩
  · refine (hb k (Nat.lt_of_lt_of_le hlt h.size) fun hk => ?_).trans (h.keep k hlt hF)
    rcases (ht1 k hk).1 with h1 | h1
    · omega
    · exact hF h1
  · have : r ≠ nx := by omega
    rw [hrho r this]
    exact h.fresh r (by omega)
  · rcases List.mem_append.1 hmem with hmem | hmem
    · obtain ⟨b', hr', hc'⟩ := h.chunk r c' hmem
      exact ⟨b', hr _ _ hr', hx'.chunkOk hc' fun hw hn => hb _ (h.mine r c' b' hmem hw hr' hn).2.1 (ht2 r c' b' hmem hw hr' hn)⟩
    · simp at hmem
      obtain ⟨rfl, rfl⟩ := hmem
      exact ⟨b, by simp [G'], hc G' hx' rfl⟩
  · rw [List.map_append, List.nodup_append]
    refine ⟨h.ids, by simp, ?_⟩
    intro a ha b' hb'
    simp at hb'
    obtain ⟨⟨r, c'⟩, hmem, rfl⟩ := List.mem_map.1 ha
    subst hb'
    exact hold _ _ hmem
  · intro r c1 s c2 b1 b2 hx1 hx2 hne hw1 hw2 hr1 hr2 hn1 hn2
    rcases List.mem_append.1 hx1 with hm1 | hm1 <;> rcases List.mem_append.1 hx2 with hm2 | hm2
    · rw [hrho _ (hold _ _ hm1)] at hr1
      rw [hrho _ (hold _ _ hm2)] at hr2
      exact h.apart r c1 s c2 b1 b2 hm1 hm2 hne hw1 hw2 hr1 hr2 hn1 hn2
    · rw [hrho _ (hold _ _ hm1)] at hr1
      simp at hm2
      obtain ⟨rfl, rfl⟩ := hm2
      simp [G'] at hr2
      subst hr2
      have h1 := (h.mine r c1 b1 hm1 hw1 hr1 hn1).2.1
      rcases hbl hn2 with h2 | h2
      · omega
      · intro e
        exact ht2 r c1 b1 hm1 hw1 hr1 hn1 (e ▸ h2)
    · rw [hrho _ (hold _ _ hm2)] at hr2
      simp at hm1
      obtain ⟨rfl, rfl⟩ := hm1
      simp [G'] at hr1
      subst hr1
      have h1 := (h.mine s c2 b2 hm2 hw2 hr2 hn2).2.1
      rcases hbl hn1 with h2 | h2
      · omega
      · intro e
        exact ht2 s c2 b2 hm2 hw2 hr2 hn2 (e ▸ h2)
    · simp at hm1 hm2
      exact (hne (hm1.1.trans hm2.1.symm)).elim
  · intro r c1 b1 hm1 hw1 hr1 hn1
    rcases List.mem_append.1 hm1 with hm1 | hm1
    · rw [hrho _ (hold _ _ hm1)] at hr1
      have := h.mine r c1 b1 hm1 hw1 hr1 hn1
      exact ⟨this.1, Nat.lt_of_lt_of_le this.2.1 hs, this.2.2⟩
    · simp at hm1
      obtain ⟨rfl, rfl⟩ := hm1
      simp [G'] at hr1
      subst hr1
      rcases hbl hn1 with h2 | h2
      · refine ⟨.inl (Nat.le_trans h.size h2.1), h2.2, fun hi => ?_⟩
        have := h.imLt _ hi
        omega
      · have := ht1 _ h2
        exact ⟨this.1, Nat.lt_of_lt_of_le this.2.1 hs, this.2.2⟩

/-- The blocks of a chunk that was let go. -/
theorem Mdl.gone {w0 : World} {F0 : Base} {G : Cx} {l1 l2 : Hp} {r : Nat} {c0 : Chunk} {nx : Nat} (h : Mdl w0 F0 G (l1 ++ (r, c0) :: l2) nx) {b0 : B} (hr : G.rho r = some b0) (hw : c0.rw = true) :
    (∀ k, (b0.nil = false ∧ k = b0.blk) → (w0.heap.size ≤ k ∨ F0 k) ∧ k < G.w.heap.size ∧ ¬ G.im k) ∧
    (∀ s c b, (s, c) ∈ l1 ++ l2 → c.rw = true → G.rho s = some b → b.nil = false → ¬ (b0.nil = false ∧ b.blk = b0.blk)) := by
  have hm0 : (r, c0) ∈ l1 ++ (r, c0) :: l2 := by simp
  refine ⟨fun k ⟨hn, hk⟩ => hk ▸ h.mine r c0 b0 hm0 hw hr hn, fun s c b hm hwc hrs hn ⟨hn0, he⟩ => ?_⟩
  have hm' : (s, c) ∈ l1 ++ (r, c0) :: l2 := by
    rcases List.mem_append.1 hm with hm | hm <;> simp [hm]
  have hne : s ≠ r := by
    have hnd := h.ids
    simp only [List.map_append, List.map_cons] at hnd
    rintro rfl
    rcases List.mem_append.1 hm with hm | hm
    · exact (List.nodup_append.1 hnd).2.2 s (List.mem_map.2 ⟨(s, c), hm, rfl⟩) s (by simp) rfl
    · exact (List.nodup_cons.1 (List.nodup_append.1 hnd).2.1).1 (List.mem_map.2 ⟨(s, c), hm, rfl⟩)
  exact h.apart s c r c0 b b0 hm' hm0 hne hwc hw hrs hr hn hn0 he

end Go.J

set_option linter.unusedSimpArgs false
set_option linter.unusedVariables false
set_option linter.unusedSectionVars false

namespace Go.J

/-! What is asked of the tables. -/
structure TyOk (P : Program) (t : TypeId) (y : TyI) : Prop where
  info : ∃ i, P.info? t = some i ∧ i.size = y.size ∧ i.bytes = y.bytes ∧ ∃ z, i.zero = some z ∧ ∀ G, tVal G y.zero.toT z ∧ tCells G y.zero.toT z.cells.toList
  und : match y.k with
    | .int k => P.underlying t = some (.int k)
    | .bool => P.underlying t = some .bool
    | .str => P.underlying t = some .string
    | .ptr e => P.underlying t = some (.pointer e)
    | .sl e => P.underlying t = some (.slice e)
    | .ar n e => P.underlying t = some (.array n e)
    | .st fs => ∃ fields : Array Field, P.underlying t = some (.struct fields) ∧ fields.toList.map (fun f => (f.type, f.offset)) = fs ∧ (∀ f ∈ fields.toList, f.name ≠ "_" ∧ ∃ i, P.info? f.type = some i ∧ i.size ≠ 0) ∧ P.stoodInHeld t = false ∧
        (∀ (i : Nat) (tt : TypeId) (d : Nat), fs[i]? = some (tt, d) → ∃ c inf, fieldK i d y.zero.toT (fun u => u = c) ∧ P.info? tt = some inf ∧ inf.size = c.size)
    | .fn => ∃ a b c, P.underlying t = some (.func a b c)
    | .other => ∃ d, P.underlying t = some d ∧ d.isRow = false
  kid : ∀ fs, y.k = .st fs → kids y.zero.toT = fs.length
  arr : ∀ n e e' m, y.k = .ar n e → y.zero = .arr e' m → ∃ ie, P.info? e = some ie ∧ ie.size = e'.sz
  eqg : y.eqok = true → P.eqGuardType P.depth t = false
  el : ∀ e, y.el = some e → e.sz = y.size ∧ 0 < y.size ∧ ∃ i z, P.info? t = some i ∧ i.zero = some z ∧ ∀ im w, cellsOf im w e e.dflt z.cells.toList

/-- A call's contract, as the engine wants it. -/
def CallOk (P : Program) (f : FuncId) (g : List T → Hp → Nat → (T → Hp → Nat → Prop) → Prop) : Prop :=
  ∀ (w0 : World) (F0 : Base) (G : Cx) (hp : Hp) (nx : Nat) (args : List T) (vs : List Value) (k : T → Hp → Nat → Prop), Mdl w0 F0 G hp nx → frOk G args ⟨vs⟩ → g args hp nx k →
    Calls P f ⟨vs⟩ G.w fun e w' => ∃ G' x v hp' nx', e = .returned v ∧ G'.w = w' ∧ Ext G G' ∧ Mdl w0 F0 G' hp' nx' ∧ tVal G' x v ∧ k x hp' nx'

/-- A function with a text of its own. -/
def FnIs (P : Program) (f : FuncId) : Prop := ∃ fn, P.funcs[f]? = some fn ∧ (fn.name == "runtime.NumGoroutine") = false ∧ fn.body.isNone = false

/-- A function of the library's that has no text: what the model does for it. -/
def ExtOk (P : Program) (f : FuncId) (g : List T → Hp → Nat → (T → Hp → Nat → Prop) → Prop) : Prop :=
  ∀ (w0 : World) (F0 : Base) (G : Cx) (hp : Hp) (nx : Nat) (args : List T) (vs : List Value) (k : T → Hp → Nat → Prop), Mdl w0 F0 G hp nx → frOk G args ⟨vs⟩ → g args hp nx k →
    ∃ v G' x hp' nx', (callFunc f ⟨vs⟩).run P G.w = .ok (.value v) G'.w ∧ Ext G G' ∧ Mdl w0 F0 G' hp' nx' ∧ tVal G' x v ∧ k x hp' nx'

structure EnvOk (P : Program) (E : Env) : Prop where
  ty : ∀ t i, (t, i) ∈ E.ty → TyOk P t i
  call : ∀ f g, (f, g) ∈ E.call → (FnIs P f ∧ CallOk P f g) ∨ ExtOk P f g

/-- Whatever the operation leaves, the rest is met. -/
def Goes (P : Program) (w0 : World) (F0 : Base) (G : Cx) (o : Oper) (a : Act) (k : T → Hp → Nat → Prop) : Prop :=
  ∀ (next : Act → World → Prop) (Q : Exit → Act → World → Prop),
    (∀ G' x v hp' nx', Ext G G' → Mdl w0 F0 G' hp' nx' → tVal G' x v → k x hp' nx' → next (a.put o.dst v) G'.w) → o.wp P a G.w next Q

section
variable {P : Program} {E : Env} {w0 : World} {F0 : Base} {G : Cx} {hp : Hp} {nx : Nat} {o : Oper} {a : Act} {fr : List T} {k : T → Hp → Nat → Prop}

theorem goes_value {v : Value} {x : T} (h : (execOp a.eval o).run P G.w = .ok (.value v) G.w) (hm : Mdl w0 F0 G hp nx) (hv : tVal G x v) (hk : k x hp nx) : Goes P w0 F0 G o a k := by
  intro next Q hn
  unfold Oper.wp
  rw [h]
  exact hn G x v hp nx (Ext.refl G) hm hv hk

theorem goes_world {v : Value} {x : T} {G' : Cx} {hp' : Hp} {nx' : Nat} (h : (execOp a.eval o).run P G.w = .ok (.value v) G'.w) (he : Ext G G') (hm : Mdl w0 F0 G' hp' nx') (hv : tVal G' x v) (hk : k x hp' nx') : Goes P w0 F0 G o a k := by
  intro next Q hn
  unfold Oper.wp
  rw [h]
  exact hn G' x v hp' nx' he hm hv hk

theorem goes_skip {G' : Cx} {hp' : Hp} {nx' : Nat} (h : (execOp a.eval o).run P G.w = .ok .skip G'.w) (he : Ext G G') (hm : Mdl w0 F0 G' hp' nx') (hk : k (.v .any) hp' nx') : Goes P w0 F0 G o a k := by
  intro next Q hn
  unfold Oper.wp
  rw [h]
  exact hn G' (.v .any) undef hp' nx' he hm trivial hk

theorem constT_ok (c : Value) : tVal G (constT c) c := by
  unfold constT
  split <;> first | rfl | trivial

theorem evalK_out {x : Operand} {k : T → Prop} (hf : frOk G fr a.tmps) (h : evalK fr x k) : ∃ t, k t ∧ tVal G t (a.eval x) := by
  cases x with
  | tmp i =>
    obtain ⟨t, ht, hk⟩ := lgetK_out h
    obtain ⟨v, hv, hvt⟩ := hf.2 i t ht
    refine ⟨t, hk, ?_⟩
    have : a.eval (.tmp i) = v := by simp [Act.eval, hv]
    rw [this]
    exact hvt
  | const c => exact ⟨_, h, constT_ok c⟩
  | global g => exact h.elim
  | func f => exact ⟨_, h, [], rfl, rfl⟩

theorem evalsK_out (hf : frOk G fr a.tmps) : ∀ {xs : List Operand} {k : List T → Prop}, evalsK fr xs k → ∃ ts, k ts ∧ frOk G ts ⟨xs.map a.eval⟩
  | [], k, h => ⟨[], h, by simp, fun i t ht => by simp at ht⟩
  | x :: xs, k, h => by
    obtain ⟨t, h1, ht⟩ := evalK_out hf h
    obtain ⟨ts, h2, hts⟩ := evalsK_out hf (k := fun xs => k (t :: xs)) h1
    refine ⟨t :: ts, h2, by simpa using hts.1, fun i u hu => ?_⟩
    cases i with
    | zero => simp at hu; subst hu; exact ⟨_, by simp, ht⟩
    | succ i => obtain ⟨v, e, hv⟩ := hts.2 i u (by simpa using hu); exact ⟨v, by simpa using e, hv⟩

/-! Inside a value. -/
theorem fieldK_out {k : T → Prop} : ∀ {i o : Nat} {t : T}, fieldK i o t k → ∃ t', k t' ∧ (∀ G cs, tCells G t cs → tCells G t' ((cs.drop o).take t'.size) ∧ o + t'.size ≤ cs.length)
  | 0, 0, .cons t ts, h => ⟨t, h, fun G cs ⟨c1, c2, e, h1, _⟩ => by
      subst e
      have := tCells.length h1
      simp only [List.drop_zero]
      rw [← this, List.take_left]
      exact ⟨h1, by simp⟩⟩
  | 0, _ + 1, .cons _ _, h => by simp [fieldK] at h
  | i + 1, o, .cons t ts, h => by
    unfold fieldK at h
    split at h
    · next o' hb =>
      have hle := T.eat_out hb
      obtain rfl : o' = o - t.size := by omega
      obtain ⟨t', hk, h2⟩ := fieldK_out h
      refine ⟨t', hk, fun G cs ⟨c1, c2, e, h1, h3⟩ => ?_⟩
      subst e
      have hl := tCells.length h1
      obtain ⟨k1, k2⟩ := h2 G c2 h3
      have : (c1 ++ c2).drop o = c2.drop (o - t.size) := by
        rw [List.drop_append, List.drop_eq_nil_of_le (by omega), hl]
        simp
      rw [this]
      exact ⟨k1, by simp; omega⟩
    · exact h.elim
  | 0, _, .v _, h => by simp [fieldK] at h
  | 0, _, .nil, h => by simp [fieldK] at h
  | 0, _, .arr _ _ _, h => by simp [fieldK] at h
  | 0, _, .tup _, h => by simp [fieldK] at h
  | _ + 1, _, .v _, h => by simp [fieldK] at h
  | _ + 1, _, .nil, h => by simp [fieldK] at h
  | _ + 1, _, .arr _ _ _, h => by simp [fieldK] at h
  | _ + 1, _, .tup _, h => by simp [fieldK] at h

theorem enc_getD {G : Cx} {e : El} {xs : List e.ty} {cs : List Value} {i : Nat} (h : listOf (cellsOf G.im G.w e) xs cs) (hi : i < xs.length) :
    tCells G (e.enc (xs.getD i e.dflt)) ((cs.drop (i * e.sz)).take e.sz) ∧ i * e.sz + e.sz ≤ cs.length := by
  have hx : xs[i]? = some (xs.getD i e.dflt) := by simp [List.getD, hi]
  refine ⟨(tCells_enc _ _ _).2 (listOf_get (fun x cs => cellsOf.length e x cs) h hx), ?_⟩
  rw [listOf.length (fun x cs => cellsOf.length e x cs) xs cs h, ← Nat.succ_mul]
  exact Nat.mul_le_mul_right _ hi

theorem tgetK_out {k : T → Prop} : ∀ {p : List Stp} {t : T}, tgetK p t k → ∃ t', k t' ∧ (∀ G cs, tCells G t cs → tCells G t' ((cs.drop (poff p)).take t'.size) ∧ poff p + t'.size ≤ cs.length)
  | [], t, h => ⟨t, h, fun G cs hc => by
      have := tCells.length hc
      simp only [poff, List.drop_zero]
      rw [← this, List.take_length]
      exact ⟨hc, by simp⟩⟩
  | .f i o :: p, t, h => by
    obtain ⟨t1, h1, k1⟩ := fieldK_out (show fieldK i o t fun t => tgetK p t k from h)
    obtain ⟨t2, h2, k2⟩ := tgetK_out h1
    refine ⟨t2, h2, fun G cs hc => ?_⟩
    obtain ⟨m1, m2⟩ := k1 G cs hc
    obtain ⟨m3, m4⟩ := k2 G _ m1
    rw [List.drop_take, List.drop_drop, List.take_take, List.length_take, List.length_drop] at *
    simp only [poff]
    rw [Nat.min_eq_left (by omega)] at m3
    exact ⟨m3, by omega⟩
  | .x i sz :: p, .arr e xs n, h => by
    unfold tgetK at h
    split at h
    · rename_i hb
      have hsz := nat_beq_eq hb
      obtain ⟨hi, h1⟩ := h
      obtain ⟨t2, h2, k2⟩ := tgetK_out h1
      refine ⟨t2, h2, fun G cs hc => ?_⟩
      obtain ⟨m1, m2⟩ := enc_getD hc.2 hi
      obtain ⟨m3, m4⟩ := k2 G _ m1
      rw [List.drop_take, List.drop_drop, List.take_take, List.length_take, List.length_drop] at *
      simp only [poff, hsz]
      rw [Nat.min_eq_left (by omega)] at m3
      exact ⟨m3, by omega⟩
    · exact h.elim
  | .x i sz :: p, .cons t ts, h => by
    obtain ⟨t1, h1, k1⟩ := fieldK_out (show fieldK i (i * sz) (.cons t ts) fun t => tgetK p t k from h)
    obtain ⟨t2, h2, k2⟩ := tgetK_out h1
    refine ⟨t2, h2, fun G cs hc => ?_⟩
    obtain ⟨m1, m2⟩ := k1 G cs hc
    obtain ⟨m3, m4⟩ := k2 G _ m1
    rw [List.drop_take, List.drop_drop, List.take_take, List.length_take, List.length_drop] at *
    simp only [poff]
    rw [Nat.min_eq_left (by omega)] at m3
    exact ⟨m3, by omega⟩
  | .x _ _ :: _, .v _, h => by simp [tgetK] at h
  | .x _ _ :: _, .nil, h => by simp [tgetK] at h
  | .x _ _ :: _, .tup _, h => by simp [tgetK] at h

/-- Where a chunk's tree lies. -/
theorem tree_cells {c : Chunk} {b : B} (h : chunkOk G c b) : ∃ cs, tCells G c.tree cs ∧ (cs ≠ [] → b.nil = false ∧ cellsAt G.w b.blk 0 cs) := by
  cases c with
  | own t =>
    obtain ⟨h1, cs, ty, h2, h3⟩ := h
    refine ⟨cs, h3, fun _ => ⟨h1, fun j v hv => ?_⟩⟩
    rw [Nat.zero_add, cell_of_row G.w b.blk j _ ty (0, 0) h2]
    simpa using hv
  | row ty e xs =>
    obtain ⟨h1, h0, css, h2, h3⟩ := h
    refine ⟨css, ⟨rfl, h3⟩, fun hne => ?_⟩
    have hl := listOf.length (fun x cs => cellsOf.length e x cs) xs css h3
    rcases h2.2 with ⟨_, h4⟩ | ⟨g, cap, cur, e1, _, e2, e3, e4, e5, e6⟩
    · rw [h4] at hl
      exact (hne (List.eq_nil_of_length_eq_zero (by simpa using hl))).elim
    · have hn : b.nil = false := by
        cases hb : b.nil with
        | false => rfl
        | true => simp [B.val, hb] at e1
      have hg : b.blk = g := by simp [B.val, hn] at e1; exact e1.1
      refine ⟨hn, fun j v hv => ?_⟩
      rw [Nat.zero_add, hg, cell_of_row G.w g j _ ty (0, 0) e2]
      rw [← e6, List.getElem?_take] at hv
      split at hv
      · simpa using hv
      · cases hv
  | fz ty e xs =>
    obtain ⟨h1, h2, h3, h4⟩ := h
    by_cases h0 : 0 < b.len
    · obtain ⟨k1, k2, k3, css, k4, k5⟩ := h4 h0
      exact ⟨css, ⟨rfl, k5⟩, fun _ => ⟨k1, k4⟩⟩
    · have : xs = [] := List.eq_nil_of_length_eq_zero (by omega)
      subst this
      exact ⟨[], ⟨rfl, rfl⟩, fun hne => (hne rfl).elim⟩

theorem cellsAt.drop {w : World} {b o : Nat} {cs : List Value} (h : cellsAt w b o cs) (n m : Nat) : cellsAt w b (o + n) ((cs.drop n).take m) := by
  intro j v hv
  rw [List.getElem?_take] at hv
  split at hv
  · rw [List.getElem?_drop] at hv
    have := h _ _ hv
    rwa [← Nat.add_assoc] at this
  · cases hv

theorem tVal_of_v {x : V} {v : Value} (h : tVal G (.v x) v) : vOk G x v := h

theorem ty_size {t : TypeId} {y : TyI} (h : TyOk P t y) : (P.info? t).map (·.size) = some y.size := by
  obtain ⟨i, h1, h2, _⟩ := h.info
  simp [h1, h2]

/-- A part of memory that holds a value is read as it. -/
theorem run_load_t {t : TypeId} {y : TyI} {x : T} {b o : Nat} {cs : List Value} {kk : T → Prop} (ht : TyOk P t y) (hs : sizeEq x y.size = true) (hsh : shapeK y.k x kk) (hc : tCells G x cs) (hat : cellsAt G.w b o cs) :
    ∃ v, (Instr.loadAt t (.pointer (some ⟨b, o, none⟩))).run P G.w = .ok v G.w ∧ tVal G x v ∧ kk x := by
  have hsz := nat_beq_eq hs
  have hlen := tCells.length hc
  have hagg : ∀ (d : TypeDesc), P.underlying t = some d → d.isRow = true → (∀ v, tVal G x v ↔ ∃ cs : List Value, v = .agg ⟨cs⟩ ∧ tCells G x cs) →
      ∃ v, (Instr.loadAt t (.pointer (some ⟨b, o, none⟩))).run P G.w = .ok v G.w ∧ tVal G x v := by
    intro d hu hd hx
    exact ⟨_, run_loadAt_mid G.w b o t cs d hat hu hd (by rw [ty_size ht, hlen, hsz]), (hx _).2 ⟨cs, rfl, hc⟩⟩
  have hone : ∀ (d : TypeDesc), P.underlying t = some d → d.isRow = false → ∀ y', x = .v y' →
      ∃ v, (Instr.loadAt t (.pointer (some ⟨b, o, none⟩))).run P G.w = .ok v G.w ∧ tVal G x v := by
    intro d hu hd y' hx
    subst hx
    obtain ⟨c, rfl, _, hv⟩ := hc
    have h0 := hat 0 c rfl
    have hi : (isAgg t).run P G.w = .ok false G.w := by
      unfold isAgg
      rw [Sem.run_bind, run_underlying hu G.w]
      cases d <;> simp_all
    refine ⟨c, ?_, hv⟩
    simp only [Nat.add_zero] at h0
    simp [Instr.loadAt, Instr.sureAddr, loadVar, hi, h0]
  have hund := ht.und
  unfold shapeK at hsh
  cases hk : y.k <;> rw [hk] at hund hsh <;> simp only at hund hsh
  case st fs =>
    obtain ⟨fields, hu, _⟩ := hund
    cases x <;> simp only at hsh
    case nil => obtain ⟨v, h1, h2⟩ := hagg _ hu rfl (fun v => Iff.rfl); exact ⟨v, h1, h2, hsh⟩
    case cons => obtain ⟨v, h1, h2⟩ := hagg _ hu rfl (fun v => Iff.rfl); exact ⟨v, h1, h2, hsh⟩
  case ar n e =>
    cases x <;> simp only at hsh
    case nil => obtain ⟨v, h1, h2⟩ := hagg _ hund rfl (fun v => Iff.rfl); exact ⟨v, h1, h2, hsh⟩
    case cons => obtain ⟨v, h1, h2⟩ := hagg _ hund rfl (fun v => Iff.rfl); exact ⟨v, h1, h2, hsh⟩
    case arr => obtain ⟨v, h1, h2⟩ := hagg _ hund rfl (fun v => Iff.rfl); exact ⟨v, h1, h2, hsh⟩
  case fn =>
    obtain ⟨_, _, _, hu⟩ := hund
    cases x <;> simp only at hsh
    case v y' => obtain ⟨v, h1, h2⟩ := hone _ hu rfl _ rfl; exact ⟨v, h1, h2, hsh⟩
  case other =>
    obtain ⟨d, hu, hd⟩ := hund
    cases x <;> simp only at hsh
    case v y' => obtain ⟨v, h1, h2⟩ := hone _ hu hd _ rfl; exact ⟨v, h1, h2, hsh⟩
  all_goals
    cases x <;> simp only at hsh
    case v y' => obtain ⟨v, h1, h2⟩ := hone _ hund rfl _ rfl; exact ⟨v, h1, h2, hsh⟩

end
end Go.J

set_option linter.unusedSimpArgs false
set_option linter.unusedVariables false
set_option linter.unusedSectionVars false

namespace Go.J

section
variable {P : Program} {E : Env} {w0 : World} {F0 : Base} {G : Cx} {hp : Hp} {nx : Nat} {o : Oper} {a : Act} {fr : List T} {k : T → Hp → Nat → Prop}

theorem appPath_eq : ∀ (p : List Stp) (s : Stp), appPath p s = p ++ [s]
  | [], _ => rfl
  | t :: p, s => by simp [appPath, appPath_eq p s]

theorem poff_app (p : List Stp) (s : Stp) : poff (p ++ [s]) = poff p + poff [s] := by
  induction p with
  | nil => simp [poff]
  | cons t p ih => cases t <;> simp [poff, ih, Nat.add_assoc]

theorem ok_move {x : Operand} (ho : o.op = .move x ∨ o.op = .assign x) (hm : Mdl w0 F0 G hp nx) (hf : frOk G fr a.tmps) (h : evalK fr x fun x => k x hp nx) : Goes P w0 F0 G o a k := by
  obtain ⟨t, hk, ht⟩ := evalK_out hf h
  refine goes_value (v := a.eval x) ?_ hm ht hk
  rcases ho with ho | ho <;> simp [execOp, ho]

theorem ok_pick {c x y : Operand} (ho : o.op = .pick c x y) (hm : Mdl w0 F0 G hp nx) (hf : frOk G fr a.tmps) (h : denOp E (.pick c x y) fr hp nx k) : Goes P w0 F0 G o a k := by
  obtain ⟨t, h, ht⟩ := evalK_out hf h
  have yes : a.eval c = .bool true → (evalK fr x fun x => k x hp nx) → Goes P w0 F0 G o a k := fun hc h => by
    obtain ⟨t, hk, ht⟩ := evalK_out hf h
    exact goes_value (v := a.eval x) (by simp [execOp, ho, hc, asBool]) hm ht hk
  have no : a.eval c = .bool false → (evalK fr y fun x => k x hp nx) → Goes P w0 F0 G o a k := fun hc h => by
    obtain ⟨t, hk, ht⟩ := evalK_out hf h
    exact goes_value (v := a.eval y) (by simp [execOp, ho, hc, asBool]) hm ht hk
  split at h
  · exact yes ht h
  · exact no ht h
  · rename_i b
    cases b with
    | true => exact yes ht (h.1 rfl)
    | false => exact no ht (h.2 rfl)
  · exact h.elim

theorem ok_nilCheck {x : Operand} (ho : o.op = .nilCheck x) (hm : Mdl w0 F0 G hp nx) (hf : frOk G fr a.tmps) (h : denOp E (.nilCheck x) fr hp nx k) : Goes P w0 F0 G o a k := by
  obtain ⟨t, h, ht⟩ := evalK_out hf h
  split at h
  · obtain ⟨b, h1, h2, h3⟩ := id ht
    exact goes_value (v := a.eval x) (by simp [execOp, ho, h3]) hm ht h
  · obtain ⟨h0, b, oo, css, h1, _⟩ := id ht
    exact goes_value (v := a.eval x) (by simp [execOp, ho, h1]) hm ht h
  · exact h.elim

theorem placeK_out {kk : TypeId → Nat → Prop} : ∀ {fs : List (TypeId × Nat)} {f : Nat}, placeK fs f kk → ∃ t d, fs[f]? = some (t, d) ∧ kk t d
  | [], _, h => by simp [placeK] at h
  | (t, d) :: _, 0, h => ⟨t, d, rfl, h⟩
  | _ :: fs, f + 1, h => by simpa using placeK_out (fs := fs) (f := f) h

theorem ok_fieldAddr (hE : EnvOk P E) {t : TypeId} {x : Operand} {f : Nat} (ho : o.op = .fieldAddr t x f) (hm : Mdl w0 F0 G hp nx) (hf : frOk G fr a.tmps) (h0 : denOp E (.fieldAddr t x f) fr hp nx k) : Goes P w0 F0 G o a k := by
  obtain ⟨tx, h1, ht⟩ := evalK_out hf h0
  obtain ⟨y, hy, h2⟩ := tyK_out h1
  have hty := hE.ty t y hy
  have hund := hty.und
  split at h2
  · next fs hk =>
    rw [hk] at hund
    obtain ⟨fields, hu, hfs, hne, _⟩ := hund
    obtain ⟨ft, d, hd, h3⟩ := placeK_out h2
    have hfield : ∃ fd, fields[f]? = some fd ∧ fd.type = ft ∧ fd.offset = d := by
      rw [← hfs, List.getElem?_map] at hd
      cases hq : fields.toList[f]? with
      | none => simp [hq] at hd
      | some fd => simp [hq] at hd; exact ⟨fd, by simpa using hq, hd.1, hd.2⟩
    obtain ⟨fd, hfd, rfl, rfl⟩ := hfield
    obtain ⟨_, i, hi, hi0⟩ := hne fd (by simpa using Array.mem_of_getElem? hfd)
    have run : ∀ b oo, a.eval x = .pointer (some ⟨b, oo, none⟩) → (execOp a.eval o).run P G.w = .ok (.value (.pointer (some ⟨b, oo + fd.offset, none⟩))) G.w := fun b oo he => by
      simp [execOp, ho, he, Instr.fieldAt, run_underlying hu, hfd, Instr.sureAddr, fieldPlace, sizeOf, typeInfo, hi, hi0, Addr.add_mid]
    split at h3
    · next r p =>
      obtain ⟨b, k1, k2, k3⟩ := tVal_of_v ht
      refine goes_value (run _ _ k3) hm (x := .v (.ptr r (appPath p (.f f fd.offset)))) ⟨b, k1, k2, ?_⟩ h3
      rw [appPath_eq, poff_app]
      simp [poff]
    · next e xs i p =>
      obtain ⟨k0, b, oo, css, k1, k2⟩ := tVal_of_v ht
      refine goes_value (run _ _ k1) hm (x := .v (.rp e xs i (appPath p (.f f fd.offset)))) ⟨k0, b, oo, css, ?_, k2⟩ h3
      rw [appPath_eq, poff_app]
      simp [poff, Nat.add_assoc]
    · exact h3.elim
  · exact h2.elim

theorem run_part {t : TypeId} {d : Nat} {i : TypeInfo} {cs : List Value} {x : T} (hi : P.info? t = some i) (hu : ∃ u, P.underlying t = some u) (hc : tCells G x ((cs.drop d).take x.size)) (hl : d + x.size ≤ cs.length) (hs : i.size = x.size)
    (hsh : ∀ u, P.underlying t = some u → (u.isRow = true ↔ ∀ y, x ≠ .v y)) (hnt : ∀ y, x ≠ .tup y) : ∃ v, (part t ⟨cs⟩ d).run P G.w = .ok v G.w ∧ tVal G x v := by
  obtain ⟨u, hu⟩ := hu
  have hsh := hsh u hu
  by_cases hr : u.isRow = true
  · have hagg : (isAgg t).run P G.w = .ok true G.w := by
      unfold isAgg
      rw [Sem.run_bind, run_underlying hu G.w]
      cases u <;> simp_all
    have hx := hsh.1 hr
    refine ⟨.agg ⟨(cs.drop d).take x.size⟩, ?_, ?_⟩
    · simp only [part, Sem.run_bind, hagg, Result.andThen_ok, sizeOf, typeInfo, run_program, hi, hs, if_true, Sem.run_pure]
      congr 2
      apply Array.ext'
      simp [List.extract_eq_take_drop]
    · cases x with
      | v y => exact (hx y rfl).elim
      | tup y => exact (hnt y rfl).elim
      | nil => exact ⟨_, rfl, hc⟩
      | cons _ _ => exact ⟨_, rfl, hc⟩
      | arr _ _ _ => exact ⟨_, rfl, hc⟩
  · have hagg : (isAgg t).run P G.w = .ok false G.w := by
      unfold isAgg
      rw [Sem.run_bind, run_underlying hu G.w]
      cases u <;> simp_all
    have hx : ∃ y, x = .v y := by
      cases x with
      | v y => exact ⟨y, rfl⟩
      | _ => exact (hr (hsh.2 (by simp))).elim
    obtain ⟨y, rfl⟩ := hx
    obtain ⟨c, he, _, hv⟩ := hc
    refine ⟨c, ?_, hv⟩
    have : cs[d]? = some c := by
      have h1 := congrArg (fun l => l[0]?) he
      simp only [T.size, List.getElem?_take, List.getElem?_drop] at h1
      simpa using h1
    simp [part, hagg, this]

theorem ok_load (hE : EnvOk P E) {t : TypeId} {x : Operand} (ho : o.op = .load t x) (hm : Mdl w0 F0 G hp nx) (hf : frOk G fr a.tmps) (h0 : denOp E (.load t x) fr hp nx k) : Goes P w0 F0 G o a k := by
  obtain ⟨tx, h1, ht⟩ := evalK_out hf h0
  obtain ⟨y, hy, h2⟩ := tyK_out h1
  have hty := hE.ty t y hy
  split at h2
  · next r p =>
    obtain ⟨c, hc, h3⟩ := lookK_out h2
    obtain ⟨x', h4, hx⟩ := tgetK_out h3
    obtain ⟨b, hr, hck⟩ := hm.chunk r c hc
    obtain ⟨b', k1, k2, k3⟩ := tVal_of_v ht
    obtain rfl : b = b' := Option.some.inj (hr.symm.trans k1)
    obtain ⟨cs, hcs, hat⟩ := tree_cells hck
    obtain ⟨m1, m2⟩ := hx G cs hcs
    split at h4
    · next hs =>
      by_cases hne : cs = []
      · subst hne
        simp only [List.length_nil] at m2
        obtain ⟨v, hv1, hv2, hv3⟩ := run_load_t (b := b.blk) (o := poff p) hty hs h4 (cs := []) (by simpa using m1) (fun j v hv => by simp at hv)
        exact goes_value (v := v) (by simp [execOp, ho, k3, hv1]) hm hv2 hv3
      · have h5 := ((hat hne).2.drop (poff p) x'.size)
        rw [Nat.zero_add] at h5
        obtain ⟨v, hv1, hv2, hv3⟩ := run_load_t hty hs h4 m1 h5
        exact goes_value (v := v) (by simp [execOp, ho, k3, hv1]) hm hv2 hv3
    · exact h4.elim
  · next e xs i p =>
    obtain ⟨x', h4, hx⟩ := tgetK_out h2
    obtain ⟨k0, b, oo, css, k1, _, _, hat, hl⟩ := tVal_of_v ht
    obtain ⟨m1, m2⟩ := enc_getD hl k0
    obtain ⟨m3, m4⟩ := hx G _ m1
    split at h4
    · next hs =>
      have h5 := ((hat.drop (i * e.sz) e.sz).drop (poff p) x'.size)
      obtain ⟨v, hv1, hv2, hv3⟩ := run_load_t hty hs h4 m3 h5
      exact goes_value (v := v) (by simp [execOp, ho, k1, hv1]) hm hv2 hv3
    · exact h4.elim
  · exact h2.elim

/-! Numbers. -/
theorem run_cmp {op : BinOp} {t : TypeId} {ik : IntKind} {x y : Int} {kk : V → Prop} (h : cmpI op x y kk) : ∃ v r, (binOp op t (.int ik x) (.int ik y)).run P G.w = .ok v G.w ∧ vOk G r v ∧ kk r := by
  cases op <;> simp only [cmpI] at h
  case eql => exact ⟨.bool (x == y), .bool (decide (x = y)), by simp [binOp, Op.intCmp], by simp [vOk]; rfl, h⟩
  case neq => exact ⟨.bool (x != y), .bool (!decide (x = y)), by simp [binOp, Op.intCmp], by simp [vOk]; rfl, h⟩
  case lss => exact ⟨.bool (decide (x < y)), .bool (decide (x < y)), by simp [binOp, Op.intCmp], rfl, h⟩
  case leq => exact ⟨.bool (decide (x ≤ y)), .bool (decide (x ≤ y)), by simp [binOp, Op.intCmp], rfl, h⟩
  case gtr => exact ⟨.bool (decide (y < x)), .bool (decide (y < x)), by simp [binOp, Op.intCmp], rfl, h⟩
  case geq => exact ⟨.bool (decide (y ≤ x)), .bool (decide (y ≤ x)), by simp [binOp, Op.intCmp], rfl, h⟩

theorem run_binI {op : BinOp} {t : TypeId} {ik : IntKind} {x y : Int} {kk : V → Prop} (h : binI op ik x y kk) : ∃ v r, (binOp op t (.int ik x) (.int ik y)).run P G.w = .ok v G.w ∧ vOk G r v ∧ kk r := by
  have one : ∀ n, kk (.int ik n) → (binOp op t (.int ik x) (.int ik y)).run P G.w = .ok (.int ik n) G.w → ∃ v r, (binOp op t (.int ik x) (.int ik y)).run P G.w = .ok v G.w ∧ vOk G r v ∧ kk r :=
    fun n hk hr => ⟨_, .int ik n, hr, rfl, hk⟩
  cases op <;> simp only [binI] at h
  case quo => exact one _ h.2 (by simp [binOp, Op.intDiv, h.1])
  case rem => exact one _ h.2 (by simp [binOp, Op.intDiv, h.1])
  case shl => simp [cmpI] at h
  case shr => simp [cmpI] at h
  case add => exact one _ h (by simp [binOp, Op.intArith])
  case sub => exact one _ h (by simp [binOp, Op.intArith])
  case mul => exact one _ h (by simp [binOp, Op.intArith])
  case and => exact one _ h (by simp [binOp, Op.intBits, bits])
  case or => exact one _ h (by simp [binOp, Op.intBits, bits])
  case xor => exact one _ h (by simp [binOp, Op.intBits, bits])
  case andNot => exact one _ h (by simp [binOp, Op.intBits, bits])
  all_goals exact run_cmp (P := P) (G := G) h

theorem run_shI {op : BinOp} {t : TypeId} {ik jk : IntKind} {x y : Int} {kk : V → Prop} (h : shI op ik x y kk) : ∃ v r, (binOp op t (.int ik x) (.int jk y)).run P G.w = .ok v G.w ∧ vOk G r v ∧ kk r := by
  have one : ∀ n, kk (.int ik n) → (binOp op t (.int ik x) (.int jk y)).run P G.w = .ok (.int ik n) G.w → ∃ v r, (binOp op t (.int ik x) (.int jk y)).run P G.w = .ok v G.w ∧ vOk G r v ∧ kk r :=
    fun n hk hr => ⟨_, .int ik n, hr, rfl, hk⟩
  cases op <;> simp only [shI] at h
  · exact one _ h.2 (by simp [binOp, Op.shift, show ¬ y < 0 by omega])
  · exact one _ h.2 (by simp [binOp, Op.shift, show ¬ y < 0 by omega])


/-! Comparisons. -/
theorem boolV_ok {x : V} {b : Bool} {v : Value} (h : boolV x = some b) (hv : vOk G x v) : v = .bool b := by
  cases x <;> simp only [boolV, Option.some.injEq] at h <;> first | (cases h; done) | (subst h; exact hv)

theorem notV_ok {x : V} {b : Bool} (h : vOk G x (.bool b)) (hx : x ≠ .any) : vOk G (notV x) (.bool (!b)) := by
  cases x <;> simp_all [vOk, notV, cellsOf]

theorem eqBool_ok {x y : V} {b c : Bool} (hx : boolV x = some b) (hy : boolV y = some c) : vOk G (eqBool x y) (.bool (b == c)) ∧ eqBool x y ≠ .any := by
  cases x <;> simp only [boolV, Option.some.injEq] at hx <;> (try cases hx) <;> cases y <;> simp only [boolV, Option.some.injEq] at hy <;> (try cases hy) <;> simp [eqBool, vOk]
  case bool.refl.bool.refl => cases b <;> cases c <;> rfl

theorem andV_ok {x y : V} {b c : Bool} (hx : vOk G x (.bool b)) (hx' : x ≠ .any) (hy : vOk G y (.bool c)) (hy' : y ≠ .any) : vOk G (andV x y) (.bool (b && c)) ∧ andV x y ≠ .any := by
  cases x <;> cases y <;> simp_all [vOk, andV, cellsOf]

end
end Go.J

set_option linter.unusedSimpArgs false
set_option linter.unusedVariables false
set_option linter.unusedSectionVars false

namespace Go.J
open Go.RowKit

section
variable {P : Program} {E : Env} {w0 : World} {F0 : Base} {G : Cx} {hp : Hp} {nx : Nat} {o : Oper} {a : Act} {fr : List T} {k : T → Hp → Nat → Prop}

theorem ok_alloc (hE : EnvOk P E) {t : TypeId} (ho : o.op = .alloc t) (hm : Mdl w0 F0 G hp nx) (h0 : denOp E (.alloc t) fr hp nx k) : Goes P w0 F0 G o a k := by
  obtain ⟨y, hy, h1⟩ := tyK_out h0
  have h2 := lappK_out h1
  obtain ⟨i, hi, _, _, z, hz, hz2⟩ := (hE.ty t y hy).info
  obtain ⟨G', hx, hw, hr, hm'⟩ := hm.new (w' := G.w.alloc (.cells z.cells t)) rfl rfl rfl (by simp) (fun b hb => Below.heap_alloc _ _ _ hb) (.own y.zero.toT) ⟨G.w.heap.size, false, 0, 0⟩ (fun _ => by simp)
    (fun G' _ hw _ => ⟨rfl, z.cells.toList, t, by rw [hw]; exact heap_alloc_new _ _, (hz2 G').2⟩) rfl
  refine goes_world (v := .pointer (some ⟨G.w.heap.size, 0, none⟩)) (x := .v (.ptr nx [])) ?_ hx hm' ⟨_, hr, rfl, rfl⟩ h2
  rw [hw]
  simp [execOp, ho, Instr.alloc, zeroValue, typeInfo, hi, hz, newVar, newRow]

theorem toCells {x : T} {v : Value} (hx : x.known = true) (hv : tVal G x v) : tCells G x v.cells.toList := by
  cases x with
  | v y =>
    have hone : one v ∧ v.cells = #[v] := by
      cases y <;> simp only [tVal, tVal1, vOk] at hv <;> first
        | (simp [T.known] at hx; done)
        | (subst hv; exact ⟨rfl, rfl⟩)
        | (obtain ⟨_, _, _, rfl⟩ := hv; exact ⟨rfl, rfl⟩)
        | (obtain ⟨_, _, _, _, rfl, _⟩ := hv; exact ⟨rfl, rfl⟩)
        | (obtain ⟨_, _, rfl⟩ := hv; exact ⟨rfl, rfl⟩)
        | (obtain ⟨_, rfl, _⟩ := hv; exact ⟨rfl, rfl⟩)
        | (obtain ⟨_, rfl⟩ := hv; exact ⟨rfl, rfl⟩)
        | (obtain ⟨_, _, e, _⟩ := hv; simp at e; subst e; exact ⟨rfl, rfl⟩)
        | (obtain ⟨_, _, _, _, _, _, rfl, _⟩ := hv; exact ⟨rfl, rfl⟩)
    exact ⟨v, by simp [hone.2], hone.1, hv⟩
  | nil => obtain ⟨cs, rfl, h⟩ := hv; exact h
  | cons t ts => obtain ⟨cs, rfl, h⟩ := hv; exact h
  | arr e xs n => obtain ⟨cs, rfl, h⟩ := hv; exact h
  | tup t => simp [T.known] at hx

theorem ok_box (hE : EnvOk P E) {t : TypeId} {x : Operand} (ho : o.op = .box t x) (hm : Mdl w0 F0 G hp nx) (hf : frOk G fr a.tmps) (h0 : denOp E (.box t x) fr hp nx k) : Goes P w0 F0 G o a k := by
  obtain ⟨tx, h1, ht⟩ := evalK_out hf h0
  obtain ⟨y, hy, h2⟩ := tyK_out h1
  split at h2
  · exact h2.elim
  · next hany =>
    split at h2
    · next hs =>
      have h3 := lappK_out h2
      have hc := toCells hany ht
      obtain ⟨G', hx, hw, hr, hm'⟩ := hm.new (w' := G.w.alloc (.cells (a.eval x).cells t)) rfl rfl rfl (by simp) (fun b hb => Below.heap_alloc _ _ _ hb) (.own tx) ⟨G.w.heap.size, false, 0, 0⟩ (fun _ => by simp)
        (fun G' he hw _ => ⟨rfl, (a.eval x).cells.toList, t, by rw [hw]; exact heap_alloc_new _ _, he.tCells hc⟩) rfl
      refine goes_world (v := .pointer (some ⟨G.w.heap.size, 0, none⟩)) (x := .v (.ptr nx [])) ?_ hx hm' ⟨_, hr, rfl, rfl⟩ h3
      rw [hw]
      simp [execOp, ho, Instr.box, newVar, newRow]
    · exact h2.elim

/-- A part of a tree, put in another's place. -/
theorem setFieldK_out {kk : T → Prop} {new : T} : ∀ {i o : Nat} {t t1 : T}, fieldK i o t (fun u => u = t1) → t1.size = new.size → setFieldK i t new kk →
    ∃ t', kk t' ∧ t'.size = t.size ∧ ∀ G cs ds, tCells G t cs → tCells G new ds → tCells G t' (cs.take o ++ ds ++ cs.drop (o + ds.length))
  | 0, 0, .cons t ts, t1, h, hs, h' => ⟨.cons new ts, h', by have : t = t1 := h; simp [T.size, this, hs], fun G cs ds ⟨c1, c2, e, k1, k2⟩ hd => by
      have : t = t1 := h
      subst this
      subst e
      have l1 := tCells.length k1
      have l2 := tCells.length hd
      refine ⟨ds, c2, ?_, hd, k2⟩
      simp only [List.take_zero, List.nil_append, Nat.zero_add]
      rw [List.drop_append, List.drop_eq_nil_of_le (by omega)]
      simp [show ds.length - c1.length = 0 by omega]⟩
  | 0, _ + 1, .cons _ _, _, h, _, _ => by simp [fieldK] at h
  | i + 1, o, .cons t ts, t1, h, hs, h' => by
    unfold fieldK at h
    split at h
    · next o' hb =>
      have hle := T.eat_out hb
      obtain rfl : o' = o - t.size := by omega
      obtain ⟨t', hk, hsz, hc⟩ := setFieldK_out (kk := fun ts => kk (.cons t ts)) h hs h'
      refine ⟨_, hk, by simp [T.size, hsz], fun G cs ds ⟨c1, c2, e, k1, k2⟩ hd => ?_⟩
      subst e
      have l1 := tCells.length k1
      refine ⟨c1, _, ?_, k1, hc G c2 ds k2 hd⟩
      rw [List.take_append, List.take_of_length_le (by omega), List.drop_append, List.drop_eq_nil_of_le (by omega), l1, show o + ds.length - t.size = o - t.size + ds.length by omega]
      simp
    · exact h.elim
  | 0, _, .v _, _, h, _, _ => by simp [fieldK] at h
  | 0, _, .nil, _, h, _, _ => by simp [fieldK] at h
  | 0, _, .arr _ _ _, _, h, _, _ => by simp [fieldK] at h
  | 0, _, .tup _, _, h, _, _ => by simp [fieldK] at h
  | _ + 1, _, .v _, _, h, _, _ => by simp [fieldK] at h
  | _ + 1, _, .nil, _, h, _, _ => by simp [fieldK] at h
  | _ + 1, _, .arr _ _ _, _, h, _, _ => by simp [fieldK] at h
  | _ + 1, _, .tup _, _, h, _, _ => by simp [fieldK] at h

theorem fieldK_eq {kk : T → Prop} : ∀ {i o : Nat} {t : T}, fieldK i o t kk → ∃ t1, kk t1 ∧ fieldK i o t (fun u => u = t1)
  | 0, 0, .cons t ts, h => ⟨t, h, rfl⟩
  | 0, _ + 1, .cons _ _, h => by simp [fieldK] at h
  | i + 1, o, .cons t ts, h => by
    unfold fieldK at h
    split at h
    · rename_i hb
      obtain ⟨t1, h1, h2⟩ := fieldK_eq h
      refine ⟨t1, h1, ?_⟩
      unfold fieldK
      rw [hb]
      exact h2
    · exact h.elim
  | 0, _, .v _, h => by simp [fieldK] at h
  | 0, _, .nil, h => by simp [fieldK] at h
  | 0, _, .arr _ _ _, h => by simp [fieldK] at h
  | 0, _, .tup _, h => by simp [fieldK] at h
  | _ + 1, _, .v _, h => by simp [fieldK] at h
  | _ + 1, _, .nil, h => by simp [fieldK] at h
  | _ + 1, _, .arr _ _ _, h => by simp [fieldK] at h
  | _ + 1, _, .tup _, h => by simp [fieldK] at h

/-- An element, told by its value: the same cells. -/
theorem decK_out {e : El} : ∀ {t : T} {kk : e.ty → Prop}, decK e t hp kk → ∃ x, kk x ∧ ∀ (G : Cx) cs, tCells G t cs → cellsOf G.im G.w e x cs := by
  induction e with
  | u8 =>
    intro t kk h
    cases t with
    | v x =>
      cases x <;> simp only [decK] at h
      rename_i ik n
      split at h
      · rename_i hk
        obtain rfl := eq_of_beq hk
        refine ⟨_, h.2, fun G cs ⟨c, e1, _, e2⟩ => ?_⟩
        subst e1
        have : ((UInt8.ofNat n.toNat).toNat : Int) = n := by
          rw [UInt8.toNat_ofNat']
          omega
        exact congrArg (fun c => [c]) ((show c = .int .u8 n from e2).trans (congrArg (Value.int IntKind.u8) this.symm))
      · exact h.elim
    | _ => simp [decK] at h
  | int ik =>
    intro t kk h
    cases t with
    | v x =>
      cases x <;> simp only [decK] at h
      rename_i ik' n
      split at h
      · rename_i hk
        obtain rfl := eq_of_beq hk
        exact ⟨_, h, fun G cs ⟨c, e1, _, e2⟩ => by subst e1; simp [cellsOf]; exact e2⟩
      · exact h.elim
    | _ => simp [decK] at h
  | bool =>
    intro t kk h
    cases t with
    | v x =>
      cases x <;> simp only [decK] at h
      all_goals exact ⟨_, h, fun G cs ⟨c, e1, _, e2⟩ => by subst e1; simp [cellsOf]; exact e2⟩
    | _ => simp [decK] at h
  | str =>
    intro t kk h
    cases t with
    | v x =>
      cases x <;> simp only [decK] at h
      all_goals exact ⟨_, h, fun G cs ⟨c, e1, _, e2⟩ => by subst e1; simp [cellsOf]; exact e2⟩
    | _ => simp [decK] at h
  | rd e _ =>
    intro t kk h
    cases t with
    | v x =>
      cases x <;> simp only [decK] at h
      case nils =>
        refine ⟨_, h, fun G cs ⟨c, e1, _, e2⟩ => ?_⟩
        subst e1
        have e2 : c = .slice none 0 0 := e2
        exact ⟨none, 0, by simp [e2], by simp, by simp, fun hh => by simp at hh⟩
      case rd =>
        obtain ⟨he, hk⟩ := castK_out h
        subst he
        exact ⟨_, hk, fun G cs ⟨c, e1, _, e2⟩ => by subst e1; exact e2⟩
    | _ => simp [decK] at h
  | nil =>
    intro t kk h
    cases t with
    | nil => exact ⟨_, h, fun G cs hc => hc⟩
    | v x => cases x <;> simp [decK] at h
    | _ => simp [decK] at h
  | cons e es ih1 ih2 =>
    intro t kk h
    cases t with
    | cons t ts =>
      obtain ⟨x, h1, hx⟩ := ih1 (show decK e t hp fun x => decK es ts hp fun y => kk (x, y) from h)
      obtain ⟨y, h2, hy⟩ := ih2 h1
      exact ⟨(x, y), h2, fun G cs ⟨c1, c2, e1, k1, k2⟩ => ⟨c1, c2, e1, hx G _ k1, hy G _ k2⟩⟩
    | v x => cases x <;> simp [decK] at h
    | _ => simp [decK] at h
  | ar n e _ =>
    intro t kk h
    cases t with
    | arr e' xs n' =>
      simp only [decK] at h
      split at h
      · rename_i hn
        obtain rfl := nat_beq_eq hn
        obtain ⟨he, hk⟩ := castK_out h
        subst he
        exact ⟨_, hk, fun G cs hc => hc⟩
      · exact h.elim
    | v x => cases x <;> simp [decK] at h
    | _ => simp [decK] at h

theorem drop_split {α : Type} (cs : List α) {m n : Nat} (h : m ≤ n) : cs.drop m = (cs.drop m).take (n - m) ++ cs.drop n := by
  have h1 := List.take_append_drop (n - m) (cs.drop m)
  rw [List.drop_drop, show m + (n - m) = n by omega] at h1
  exact h1.symm

theorem splice_in {α : Type} (cs L : List α) {c s p : Nat} (h1 : p + L.length ≤ s) (h2 : c + s ≤ cs.length) :
    cs.take c ++ (((cs.drop c).take s).take p ++ L ++ ((cs.drop c).take s).drop (p + L.length)) ++ cs.drop (c + s) = cs.take (c + p) ++ L ++ cs.drop (c + p + L.length) := by
  rw [List.take_take, List.drop_take, List.drop_drop, Nat.min_eq_left (by omega)]
  rw [show cs.take (c + p) = cs.take c ++ (cs.drop c).take p from List.take_add]
  rw [drop_split cs (show c + p + L.length ≤ c + s by omega), show c + s - (c + p + L.length) = s - (p + L.length) by omega, Nat.add_assoc c]
  simp [List.append_assoc]

theorem take_splice {α : Type} (cs L : List α) {c m : Nat} (h1 : c + L.length ≤ m) (h2 : m ≤ cs.length) :
    (cs.take c ++ L ++ cs.drop (c + L.length)).take m = (cs.take m).take c ++ L ++ (cs.take m).drop (c + L.length) := by
  have hl : (cs.take c ++ L).length = c + L.length := by simp; omega
  rw [List.take_append, List.take_of_length_le (by omega), hl, List.take_take, Nat.min_eq_left (by omega), List.drop_take]

/-- A store into a tree. -/
theorem tsetK_out {new : T} {kk : T → Prop} : ∀ {p : List Stp} {t : T}, tsetK p t new hp kk →
    ∃ t', kk t' ∧ t'.size = t.size ∧ ∀ (G : Cx) cs ds, tCells G t cs → tCells G new ds → poff p + ds.length ≤ cs.length ∧ tCells G t' (cs.take (poff p) ++ ds ++ cs.drop (poff p + ds.length)) := by
  intro p
  induction p generalizing kk with
  | nil =>
    intro t h
    simp only [tsetK] at h
    split at h
    · rename_i hs
      have hs := nat_beq_eq hs
      refine ⟨new, h, hs.symm, fun G cs ds hc hd => ?_⟩
      have l1 := tCells.length hc
      have l2 := tCells.length hd
      simp only [poff, List.take_zero, List.nil_append, Nat.zero_add]
      rw [List.drop_eq_nil_of_le (by omega), List.append_nil]
      exact ⟨by omega, hd⟩
    · exact h.elim
  | cons s p ih =>
    have field : ∀ {i o : Nat} {t : T}, (fieldK i o t fun t' => tsetK p t' new hp fun t' => setFieldK i t t' kk) →
        ∃ t', kk t' ∧ t'.size = t.size ∧ ∀ (G : Cx) cs ds, tCells G t cs → tCells G new ds → o + poff p + ds.length ≤ cs.length ∧ tCells G t' (cs.take (o + poff p) ++ ds ++ cs.drop (o + poff p + ds.length)) := by
      intro i o t h
      obtain ⟨t1, h1, hf⟩ := fieldK_eq h
      obtain ⟨t2, h2, hs2, hc2⟩ := ih h1
      obtain ⟨t3, h3, hs3, hc3⟩ := setFieldK_out hf hs2.symm h2
      refine ⟨t3, h3, hs3, fun G cs ds hc hd => ?_⟩
      obtain ⟨u, hu, huc⟩ := fieldK_out hf
      subst hu
      obtain ⟨m1, m2⟩ := huc G cs hc
      obtain ⟨m3, m4⟩ := hc2 G _ ds m1 hd
      rw [List.length_take, List.length_drop] at m3
      have m5 := hc3 G cs _ hc m4
      refine ⟨by omega, ?_⟩
      have e : ∀ (A B : List Value), A = B → tCells G t3 A → tCells G t3 B := fun A B e h => e ▸ h
      refine e _ _ ?_ m5
      have l1 : (((cs.drop o).take u.size).take (poff p) ++ ds ++ ((cs.drop o).take u.size).drop (poff p + ds.length)).length = u.size := by
        simp only [List.length_append, List.length_take, List.length_drop]
        omega
      rw [l1]
      exact splice_in cs ds (by omega) (by omega)
    intro t h
    cases s with
    | f i o =>
      obtain ⟨t', h1, h2, h3⟩ := field (show fieldK i o t fun t' => tsetK p t' new hp fun t' => setFieldK i t t' kk from h)
      exact ⟨t', h1, h2, h3⟩
    | x i sz =>
      cases t with
      | arr e xs n =>
        simp only [tsetK] at h
        split at h
        · rename_i hb
          have hsz := nat_beq_eq hb
          obtain ⟨hi, h1⟩ := h
          obtain ⟨t2, h2, hs2, hc2⟩ := ih h1
          obtain ⟨x, h3, hx⟩ := decK_out h2
          refine ⟨_, h3, rfl, fun G cs ds hc hd => ?_⟩
          obtain ⟨m1, m2⟩ := enc_getD hc.2 hi
          obtain ⟨m3, m4⟩ := hc2 G _ ds m1 hd
          rw [List.length_take, List.length_drop] at m3
          have m5 := listOf_set (fun x cs => cellsOf.length e x cs) hc.2 hi (hx G _ m4)
          simp only [poff, hsz]
          refine ⟨by omega, by simpa using hc.1, ?_⟩
          refine (congrArg (listOf (cellsOf G.im G.w e) (xs.set i x)) ?_).mp m5
          rw [Nat.succ_mul]
          exact splice_in cs ds (by omega) m2
        · exact h.elim
      | cons t ts =>
        obtain ⟨t', h1, h2, h3⟩ := field (show fieldK i (i * sz) (.cons t ts) fun t' => tsetK p t' new hp fun t' => setFieldK i (.cons t ts) t' kk from h)
        exact ⟨t', h1, h2, h3⟩
      | _ => simp [tsetK] at h


theorem setCells_heap {g : Nat} {ty : TypeId} : ∀ (vs : List Value) {cs : List Value} {o : Nat} {w : World}, w.heap[g]? = some (.cells ⟨cs⟩ ty (0, 0)) → o + vs.length ≤ cs.length →
    (w.setCells g o vs).heap[g]? = some (.cells ⟨cs.take o ++ vs ++ cs.drop (o + vs.length)⟩ ty (0, 0))
  | [], cs, o, w, h, hl => by simpa [World.setCells] using h
  | v :: vs, cs, o, w, h, hl => by
    simp only [List.length_cons] at hl
    rw [World.setCells]
    have h1 : (w.setCell ⟨g, o, none⟩ v).heap[g]? = some (.cells ⟨cs.set o v⟩ ty (0, 0)) := by
      simp [World.setCell, Array.getElem?_modify, h]
    rw [setCells_heap vs h1 (by simp; omega)]
    congr 3
    rw [List.take_set, List.drop_set_of_lt (by omega)]
    simp only [List.length_cons]
    have ho : o < cs.length := by omega
    have e1 : (List.take (o + 1) cs).set o v = List.take o cs ++ [v] := by
      rw [List.take_succ_eq_append_getElem ho, List.set_append_right _ _ (by simp; omega)]
      simp [Nat.min_eq_left (Nat.le_of_lt ho)]
    rw [e1, show o + (vs.length + 1) = o + 1 + vs.length by omega]
    simp

theorem setCells_other {g : Nat} : ∀ (vs : List Value) {o : Nat} {w : World} {k : Nat}, k ≠ g → (w.setCells g o vs).heap[k]? = w.heap[k]?
  | [], _, _, _, _ => rfl
  | v :: vs, o, w, k, h => by
    rw [World.setCells, setCells_other vs h]
    exact Below.heap_setCell _ _ _ _ h

theorem setCells_size {g : Nat} : ∀ (vs : List Value) {o : Nat} {w : World}, (w.setCells g o vs).heap.size = w.heap.size
  | [], _, _ => rfl
  | v :: vs, o, w => by rw [World.setCells, setCells_size vs]; simp

theorem setCells_rest {g : Nat} : ∀ (vs : List Value) {o : Nat} {w : World}, (w.setCells g o vs).os = w.os ∧ (w.setCells g o vs).tape = w.tape ∧ (w.setCells g o vs).output = w.output
  | [], _, _ => ⟨rfl, rfl, rfl⟩
  | v :: vs, o, w => by rw [World.setCells]; exact setCells_rest vs

theorem run_store_t {t : TypeId} {y : TyI} {g oo : Nat} {v : Value} {cur : List Value} {ty : TypeId} (ht : TyOk P t y) (hb : G.w.heap[g]? = some (.cells ⟨cur⟩ ty (0, 0))) (hs : v.cells.toList.length = y.size) (h1 : ∀ c ∈ v.cells.toList, one c) (hl : oo + v.cells.toList.length ≤ cur.length) :
    (Instr.storeAt t (.pointer (some ⟨g, oo, none⟩)) v).run P G.w = .ok () (G.w.setCells g oo v.cells.toList) := by
  have hc : ∀ j, j < v.cells.toList.length → (G.w.cell? ⟨g, oo + 0 + j, none⟩).isSome = true := fun j hj => by
    rw [cell_of_row G.w g _ _ ty (0, 0) hb]
    simp
    omega
  have hf : ∀ j, j < v.cells.toList.length → G.w.frozen? ⟨g, oo + 0 + j, none⟩ = false := fun j _ => by simp [World.frozen?, hb]
  have hst := run_storeCells_cells (P := P) g oo v.cells.toList 0 G.w hc hf h1
  obtain ⟨i, hi, hisz, _⟩ := ht.info
  have : v.cells.size = i.size := by rw [hisz, ← hs]; simp
  simp only [Nat.add_zero] at hst
  simp [Instr.storeAt, Instr.sureAddr, storeVar, sizeOf, typeInfo, hi, this, hst]

theorem mem_mid {l1 l2 : Hp} {r : Nat} {c : Chunk} : (r, c) ∈ l1 ++ (r, c) :: l2 := by simp

theorem same_chunk (hm : Mdl w0 F0 G hp nx) {r : Nat} {c d : Chunk} (h1 : (r, c) ∈ hp) (h2 : (r, d) ∈ hp) : c = d := by
  have hn := hm.ids
  clear hm
  induction hp with
  | nil => simp at h1
  | cons x l ih =>
    simp only [List.map_cons, List.nodup_cons] at hn
    rcases List.mem_cons.1 h1 with e1 | e1 <;> rcases List.mem_cons.1 h2 with e2 | e2
    · rw [← e1] at e2; exact (Prod.mk.inj e2).2.symm
    · exact (hn.1 (List.mem_map.2 ⟨(r, d), e2, by rw [← e1]⟩)).elim
    · exact (hn.1 (List.mem_map.2 ⟨(r, c), e1, by rw [← e2]⟩)).elim
    · exact ih e1 e2 hn.2

theorem ok_store (hE : EnvOk P E) {t : TypeId} {x z : Operand} (ho : o.op = .store t x z) (hm : Mdl w0 F0 G hp nx) (hf : frOk G fr a.tmps) (h0 : denOp E (.store t x z) fr hp nx k) : Goes P w0 F0 G o a k := by
  obtain ⟨tx, h1, htx⟩ := evalK_out hf h0
  obtain ⟨y, hy, h2⟩ := tyK_out h1
  obtain ⟨tz, h3, htz⟩ := evalK_out hf h2
  have hty := hE.ty t y hy
  split at h3
  · exact h3.elim
  · next hkn =>
    have hcz := toCells hkn htz
    split at h3
    · next hs =>
      have hsz := nat_beq_eq hs
      have hlz := tCells.length hcz
      split at h3
      · next r p =>
        obtain ⟨c, hc, h4⟩ := lookK_out h3
        obtain ⟨b, k1, k2, k3⟩ := tVal_of_v htx
        obtain ⟨b', hr, hck⟩ := hm.chunk r c hc
        obtain rfl : b = b' := Option.some.inj (k1.symm.trans hr)
        split at h4
        · next t0 =>
          obtain ⟨t', h5, hs', hset⟩ := tsetK_out h4
          obtain ⟨l1, c0, l2, rfl, h6⟩ := updK_out h5
          obtain rfl : c0 = .own t0 := same_chunk hm mem_mid hc
          obtain ⟨_, cs, ty, hb, hcs⟩ := hck
          obtain ⟨m1, m2⟩ := hset G cs _ hcs hcz
          have hrun := run_store_t (oo := poff p) hty hb (by rw [hlz, hsz]) (tCells.one hcz) m1
          obtain ⟨r1, r2, r3⟩ := setCells_rest (g := b.blk) (a.eval z).cells.toList (o := poff p) (w := G.w)
          obtain ⟨hx, hm'⟩ := hm.write (c := .own t') hr rfl k2 r1 r2 r3 (setCells_size _) (fun k hk => setCells_other _ hk)
            (fun hx => ⟨k2, _, ty, setCells_heap _ hb m1, hx.tCells m2⟩) rfl
          exact goes_skip (G' := ⟨G.rho, G.im, _⟩) (by simp [execOp, ho, k3, hrun]) hx hm' h6
        · next ty e xs =>
          split at h4
          · next i sz q =>
            split at h4
            · next hb0 =>
              obtain rfl := nat_beq_eq hb0
              obtain ⟨hi, h5⟩ := h4
              obtain ⟨t', h6, hs', hset⟩ := tsetK_out h5
              obtain ⟨x', h7, hx'⟩ := decK_out h6
              obtain ⟨l1, c0, l2, rfl, h8⟩ := updK_out h7
              obtain rfl : c0 = .row ty e xs := same_chunk hm mem_mid hc
              obtain ⟨q1, q2, css, hown, hlist⟩ := hck
              have hlen := listOf.length (fun x cs => cellsOf.length e x cs) xs css hlist
              obtain ⟨m1, m2⟩ := enc_getD hlist hi
              obtain ⟨m3, m4⟩ := hset G _ _ m1 hcz
              rw [List.length_take, List.length_drop] at m3
              rcases hown.2 with ⟨hv, _⟩ | ⟨g, cap, cur, e1, _, e2, e3, e4, e5, e6⟩
              · simp [B.val, k2] at hv
              · have hg : b.blk = g := by simp [B.val, k2] at e1; exact e1.1
                subst hg
                have hcl : xs.length * e.sz ≤ cur.toList.length := by
                  have e8 : cur.toList.length = cap * e.sz := by simpa using e5
                  rw [e8]
                  exact Nat.mul_le_mul_right _ e3
                have hfit : i * e.sz + poff q + (a.eval z).cells.toList.length ≤ xs.length * e.sz := by omega
                have hrun := run_store_t (oo := i * e.sz + poff q) (cur := cur.toList) hty (by simpa using e2) (by rw [hlz, hsz]) (tCells.one hcz) (by omega)
                obtain ⟨r1, r2, r3⟩ := setCells_rest (g := b.blk) (a.eval z).cells.toList (o := i * e.sz + poff q) (w := G.w)
                have m5 := listOf_set (fun x cs => cellsOf.length e x cs) hlist hi (hx' G _ m4)
                have e7 : (i + 1) * e.sz = i * e.sz + e.sz := Nat.succ_mul _ _
                rw [e7, splice_in css _ (by omega) (by omega), ← e6, ← take_splice cur.toList _ hfit hcl] at m5
                have hnew := setCells_heap (ty := ty) (a.eval z).cells.toList (cs := cur.toList) (o := i * e.sz + poff q) (w := G.w) (g := b.blk) (by simpa using e2) (by omega)
                have hwr := fun hc => hm.write (c := .row ty e (xs.set i x')) hr rfl k2 r1 r2 r3 (setCells_size _) (fun k hk => setCells_other (g := b.blk) _ hk) hc rfl
                obtain ⟨hx, hm'⟩ := hwr (fun hx => by
                  refine ⟨by simpa using q1, q2, _, ⟨?_, .inr ⟨b.blk, cap, _, by simpa [B.val, k2] using e1, Nat.zero_le _, hnew, by simpa using e3, e4, ?_, by simp⟩⟩, hx.listOf m5⟩
                  · exact listOf.length (fun x cs => cellsOf.length e x cs) _ _ m5
                  · have e8 : cur.toList.length = cap * e.sz := by simpa using e5
                    have e9 := hfit
                    generalize (a.eval z).cells.toList = L at *
                    show (cur.toList.take _ ++ L ++ cur.toList.drop _).length = _
                    simp only [List.length_append, List.length_take, List.length_drop]
                    omega)
                exact goes_skip (G' := ⟨G.rho, G.im, _⟩) (by simp [execOp, ho, k3, poff, hrun]) hx hm' h8
            · exact h4.elim
          · exact h4.elim
        · exact h4.elim
      · exact h3.elim
    · exact h3.elim

end
end Go.J

set_option linter.unusedSimpArgs false
set_option linter.unusedVariables false
set_option linter.unusedSectionVars false

namespace Go.J
open Go.RowKit

section
variable {P : Program} {E : Env} {w0 : World} {F0 : Base} {G : Cx} {hp : Hp} {nx : Nat} {o : Oper} {a : Act} {fr : List T} {k : T → Hp → Nat → Prop}

/-- A slice that holds these elements. -/
def Holds (G : Cx) (e : El) (xs : List e.ty) (v : Value) : Prop :=
  ∃ A c, v = .slice A xs.length c ∧ xs.length ≤ c ∧ c ≤ maxLen ∧ (0 < xs.length → ∃ b oo css, A = some ⟨b, oo, none⟩ ∧ cellsAt G.w b oo css ∧ listOf (cellsOf G.im G.w e) xs css)

theorem own_row {ty : TypeId} {e : El} {xs : List e.ty} {b : B} (h : chunkOk G (.row ty e xs) b) : Holds G e xs b.val := by
  obtain ⟨h1, h0, css, h2, h3⟩ := id h
  have hc : xs.length ≤ b.cap := by
    rcases h2.2 with ⟨_, h4⟩ | ⟨g, cap, cur, e1, _, _, e3, e4, _⟩
    · omega
    · simp [B.val] at e1
      omega
  refine ⟨_, b.cap, by rw [← h1]; rfl, hc, h0, fun hp => ?_⟩
  obtain ⟨cs, hcs, hat⟩ := tree_cells h
  have hne : cs ≠ [] ∨ e.sz = 0 := by
    have := tCells.length hcs
    by_cases h0 : e.sz = 0
    · exact .inr h0
    · refine .inl fun he => ?_
      rw [he] at this
      simp only [Chunk.tree, T.size, List.length_nil] at this
      have := Nat.mul_pos hp (Nat.pos_of_ne_zero h0)
      omega
  rcases h2.2 with ⟨_, h4⟩ | ⟨g, cap, cur, e1, _, e2, e3, e4, e5, e6⟩
  · omega
  · have hn : b.nil = false := by
      cases hb : b.nil with
      | false => rfl
      | true => simp [B.val, hb] at e1
    have hg : b.blk = g := by simp [B.val, hn] at e1; exact e1.1
    refine ⟨b.blk, 0, css, by simp [hn], fun j v hv => ?_, h3⟩
    rw [Nat.zero_add, hg, cell_of_row G.w g j _ ty (0, 0) e2]
    rw [← e6, List.getElem?_take] at hv
    split at hv
    · simpa using hv
    · cases hv

theorem rdK_out {e : El} {x : V} {v : Value} {kk : List e.ty → Prop} (hm : Mdl w0 F0 G hp nx) (hv : vOk G x v) (h : rdK e hp x kk) : ∃ xs, kk xs ∧ Holds G e xs v := by
  unfold rdK at h
  split at h
  · obtain rfl := castK_eq h
    have hk := castK_self h
    obtain ⟨A, c, e1, e2, e3, e4⟩ := hv
    simp at e1
    exact ⟨_, hk, A, c, e1, e2, e3, fun hp => by
      obtain ⟨b, oo, css, k1, _, _, k4, k5⟩ := e4 hp
      exact ⟨b, oo, css, k1, k4, k5⟩⟩
  · exact ⟨[], h, none, 0, hv, by simp, by simp, fun hh => by simp at hh⟩
  · next r =>
    obtain ⟨c, hc, h2⟩ := lookK_out h
    obtain ⟨b, hr, hck⟩ := hm.chunk r c hc
    obtain ⟨b', k1, k2⟩ := hv
    obtain rfl : b = b' := Option.some.inj (hr.symm.trans k1)
    split at h2
    · obtain rfl := castK_eq h2
      have hk := castK_self h2
      refine ⟨_, hk, ?_⟩
      have := own_row hck
      rw [B.val, ← k2] at this
      exact this
    · obtain rfl := castK_eq h2
      have hk := castK_self h2
      obtain ⟨q1, q2, q3, q4⟩ := hck
      exact ⟨_, hk, _, b.cap, by rw [k2, q1], by omega, q3, fun hp => by
        obtain ⟨m1, m2, m3, css, m4, m5⟩ := q4 (by omega)
        exact ⟨b.blk, 0, css, by simp [m1], m4, m5⟩⟩
    · exact h2.elim
  · next r p off len sz =>
    obtain ⟨c, hc, h2⟩ := lookK_out h
    obtain ⟨t', h3, ht'⟩ := tgetK_out h2
    obtain ⟨b, hr, hck⟩ := hm.chunk r c hc
    obtain ⟨b', c', A, k1, k3, k4, k5, k6⟩ := hv
    obtain rfl : b = b' := Option.some.inj (hr.symm.trans k1)
    split at h3
    · next e' xs' n' =>
      split at h3
      · next hb =>
        obtain rfl := nat_beq_eq hb
        obtain ⟨hle, h4⟩ := h3
        obtain rfl := castK_eq h4
        have hk := castK_self h4
        refine ⟨_, hk, ?_⟩
        have hlen : ((xs'.drop off).take len).length = len := by simp; omega
        refine ⟨A, c', by rw [hlen]; exact k5, by omega, k4, fun hp => ?_⟩
        rw [hlen] at hp
        obtain ⟨cs, hcs, hat⟩ := tree_cells hck
        obtain ⟨m1, m2⟩ := ht' G cs hcs
        have m3 := listOf_take (fun x cs => cellsOf.length e' x cs) len (listOf_drop (fun x cs => cellsOf.length e' x cs) off m1.2)
        refine ⟨b.blk, poff p + off * e'.sz, _, (k6 hp).2, ?_, m3⟩
        by_cases hne : cs = []
        · subst hne
          intro j v hv
          simp at hv
        · have h5 := ((hat hne).2.drop (poff p) (T.arr e' xs' n').size)
          rw [Nat.zero_add] at h5
          exact h5.drop (off * e'.sz) (len * e'.sz)
      · exact h3.elim
    · exact h3.elim
  · exact h.elim

/-- The cells of what a slice holds. -/
theorem Holds.first {e : El} {xs : List e.ty} {v : Value} (h : Holds G e xs v) (hpos : 0 < xs.length) : ∃ b oo c css, v = .slice (some ⟨b, oo, none⟩) xs.length c ∧ css.length = xs.length * e.sz ∧ (∀ (j : Nat) (u : Value), css[j]? = some u → G.w.cell? ((⟨b, oo, none⟩ : Addr).add j) = some u) ∧ (∀ u ∈ css, u.oneCell' = true) ∧ listOf (cellsOf G.im G.w e) xs css := by
  obtain ⟨A, c, e1, _, _, e3⟩ := h
  obtain ⟨b, oo, css, rfl, k1, k2⟩ := e3 hpos
  refine ⟨b, oo, c, css, e1, listOf.length (fun x cs => cellsOf.length e x cs) _ _ k2, fun j u hu => ?_, listOf.one (fun x cs => cellsOf.one e x cs) _ _ k2, k2⟩
  rw [Addr.add_mid]
  exact k1 j u hu

/-- Appending to a row of the call's own. -/
theorem run_append_t {tx ty et : TypeId} {z : TyI} {e : El} {xs ys : List e.ty} {v u : Value} {css : List Value} (hu0 : P.underlying tx = some (.slice et)) (hz : TyOk P et z) (he : z.el = some e)
    (hown : G.w.ownsRow 0 et e.sz v xs.length css) (hx : listOf (cellsOf G.im G.w e) xs css) (hy : Holds G e ys u) (h1 : (xs.length + ys.length) * z.bytes ≤ 140737488355328) (h2 : xs.length + ys.length ≤ maxLen) :
    ∃ v' w' css', (Builtin.append_ #[tx, tx] ty #[v, u]).run P G.w = .ok v' w' ∧ w'.ownsRow 0 et e.sz v' (xs.length + ys.length) css' ∧ listOf (cellsOf G.im G.w e) (xs ++ ys) css' ∧ G.w.grownBy w' v.ownBlock ∧ (v'.ownBlock = v.ownBlock ∨ ∀ g, v'.ownBlock = some g → G.w.heap.size ≤ g) := by
  obtain ⟨i, hi, hi1, hi2, zz, hz1, hz2⟩ := hz.info
  obtain ⟨hsz, hpos, i', z', hi', hz', hzc⟩ := hz.el e he
  obtain rfl : i = i' := Option.some.inj (hi.symm.trans hi')
  obtain rfl : zz = z' := Option.some.inj (hz1.symm.trans hz')
  have hzs : zz.cells.size = e.sz := by
    have := cellsOf.length e e.dflt zz.cells.toList (hzc G.im G.w)
    simpa using this
  by_cases hpy : 0 < ys.length
  · obtain ⟨b, oo, c, cs2, rfl, l2, hat, h1c, hl⟩ := hy.first hpy
    obtain ⟨v', w', hr, ho, hg, _, hat2⟩ := run_append_own_at (P := P) G.w 0 tx ty et i zz e.sz z.bytes hu0 hi hz1 (by rw [hi1, hsz]) hi2 hzs (by rw [hsz]; exact hpos) v xs.length css hown
      ⟨b, oo, none⟩ ys.length c cs2 l2 hat h1c h2 h1 (Nat.zero_le _)
    exact ⟨v', w', _, hr, ho, listOf_append hx hl, hg, hat2.imp id fun h g hg => by rw [h] at hg; cases hg; exact Nat.le_refl _⟩
  · obtain rfl : ys = [] := List.eq_nil_of_length_eq_zero (by omega)
    obtain ⟨A, c, rfl, _⟩ := hy
    refine ⟨v, G.w, css, ?_, by simpa using hown, by simpa using hx, World.grownBy.refl _ _, .inl rfl⟩
    rcases hown.2 with ⟨rfl, h0⟩ | ⟨g, cap, cur, rfl, _, _, hnc, _⟩
    · cases A <;> simp [Builtin.append_, run_underlying hu0, sizeOf, typeInfo, hi, Builtin.lenOf, Builtin.firstCells, loadCells, loadCellsFrom]
    · cases A <;> simp [Builtin.append_, run_underlying hu0, sizeOf, typeInfo, hi, Builtin.lenOf, Builtin.firstCells, hnc, storeCells, loadCells, loadCellsFrom]


theorem owns_b {et : TypeId} {e : El} {v : Value} {n : Nat} {css : List Value} {w : World} (h : w.ownsRow 0 et e.sz v n css) : ∃ b : B, b.val = v ∧ b.len = n ∧ b.cap ≤ maxLen ∧ (b.nil = false → v.ownBlock = some b.blk ∧ b.blk < w.heap.size) := by
  rcases h.2 with ⟨rfl, h0⟩ | ⟨g, cap, cur, rfl, _, h1, h2, h3, _⟩
  · exact ⟨⟨0, true, 0, 0⟩, rfl, h0.symm, by simp, fun hh => by simp at hh⟩
  · refine ⟨⟨g, false, n, cap⟩, rfl, rfl, h3, fun _ => ⟨rfl, ?_⟩⟩
    rcases Nat.lt_or_ge g w.heap.size with hlt | hge
    · exact hlt
    · rw [Array.getElem?_eq_none hge] at h1; cases h1

theorem B.val_block {b : B} : b.val.ownBlock = if b.nil then none else some b.blk := by
  unfold B.val
  cases b.nil <;> rfl

theorem append_string_at (w : World) {t u ty e : TypeId} {i : TypeInfo} (ht : P.underlying t = some (.slice e)) (hu : P.underlying u = some .string) (hi : P.info? e = some i) (hz : i.zero = some (.int .u8 0))
    (hsize : i.size = 1) (hby : i.bytes = 1) {v : Value} {n : Nat} {xs : List Value} (hown : w.ownsRow 0 e 1 v n xs) (s : ByteArray) (h63 : n + s.size ≤ maxLen) (hbytes : n + s.size ≤ 140737488355328) :
    ∃ v' w', (Builtin.append_ #[t, u] ty #[v, .string s]).run P w = .ok v' w' ∧ w'.ownsRow 0 e 1 v' (n + s.size) (xs ++ Lib.strCells s) ∧ w.grownBy w' v.ownBlock ∧ (v'.ownBlock = v.ownBlock ∨ ∀ g, v'.ownBlock = some g → w.heap.size ≤ g) := by
  have hsm : n + s.size ≤ 9223372036854775807 := by simp only [maxLen] at h63; omega
  rcases hown.2 with ⟨hv, h0⟩ | ⟨g, cap, cur, hv, hbg, hg, hnc, hcm, hcs, htake⟩
  · have hown' : w.ownsRow w.heap.size e 1 v n xs := ⟨hown.1, .inl ⟨hv, h0⟩⟩
    obtain ⟨v', w', hr, ho, hgr, _⟩ := Lib.run_append_own_string (P := P) w w.heap.size t u ty e i ht hu hi hz hsize hby v n xs hown' s h63 hbytes (Nat.le_refl _)
    refine ⟨v', w', hr, ⟨ho.1, ho.2.imp id fun ⟨g, cap, cur, e1, e2, e3⟩ => ⟨g, cap, cur, e1, Nat.zero_le _, e3⟩⟩, hgr, .inr fun g hg => ?_⟩
    exact (ho.lt g hg).1
  · obtain ⟨v', w', hr, ho, hgr, _⟩ := Lib.run_append_own_string (P := P) w 0 t u ty e i ht hu hi hz hsize hby v n xs hown s h63 hbytes (Nat.zero_le _)
    refine ⟨v', w', hr, ho, hgr, ?_⟩
    subst hv
    by_cases hroom : n + s.size ≤ cap
    · have h1 := Lib.run_append_room_string (P := P) w t u ty e i ht hu hi hsize g n cap cur hg s hroom (by omega)
      rw [h1] at hr
      injection hr with hr _
      exact .inl (by rw [← hr]; rfl)
    · have holds : ∀ j u, xs[j]? = some u → w.cell? ((⟨g, 0, none⟩ : Addr).add j) = some u := hown.cells (g := g) rfl
      have h1 := Lib.run_append_grow_string (P := P) w t u ty e i _ ht hu hi hz ⟨g, 0, none⟩ n cap xs (by rw [hsize]; exact hown.1) holds s (by omega) (by omega) (growslice_fits (by omega) (by rw [hby]; omega))
      rw [h1] at hr
      injection hr with hr _
      exact .inr fun g' hg' => by rw [← hr] at hg'; simp [Value.ownBlock] at hg'; omega

/-- What is appended: a slice's elements, or a string's bytes. -/
theorem run_append_src {tx ty' ty et : TypeId} {z t2 : TyI} {e : El} {u : Value} {y : V} {kk : List e.ty → Prop} (hm : Mdl w0 F0 G hp nx) (hu0 : P.underlying tx = some (.slice et)) (hz : TyOk P et z) (he : z.el = some e) (h2 : TyOk P ty' t2)
    (hu : vOk G y u) (hk : denOp.srcTyK z tx ty' t2 y fun _ => denOp.srcK e hp y kk) :
    ∃ ys, kk ys ∧ ∀ {xs : List e.ty} {v : Value} {css : List Value}, G.w.ownsRow 0 et e.sz v xs.length css → listOf (cellsOf G.im G.w e) xs css → (xs.length + ys.length) * z.bytes ≤ 140737488355328 → xs.length + ys.length ≤ maxLen →
      ∃ v' w' css', (Builtin.append_ #[tx, ty'] ty #[v, u]).run P G.w = .ok v' w' ∧ w'.ownsRow 0 et e.sz v' (xs.length + ys.length) css' ∧ listOf (cellsOf G.im G.w e) (xs ++ ys) css' ∧ G.w.grownBy w' v.ownBlock ∧ (v'.ownBlock = v.ownBlock ∨ ∀ g, v'.ownBlock = some g → G.w.heap.size ≤ g) := by
  unfold denOp.srcTyK at hk
  split at hk
  · next s =>
    split at hk
    · next ik hzz hk2 hb hs =>
      split at hk
      · next hik =>
        obtain rfl := eq_of_beq hik
        have hb := nat_beq_eq hb
        have hs := nat_beq_eq hs
        unfold denOp.srcK at hk
        obtain rfl := castK_eq hk
        have hk := castK_self hk
        refine ⟨s, hk, @fun xs v css hown hx b1 b2 => ?_⟩
        obtain ⟨i, hi, hi1, hi2, zz, hz1, hz2⟩ := hz.info
        have hz3 : zz = .int .u8 0 := by
          have := (hz2 G).1
          rw [hzz] at this
          exact this
        have hund := h2.und
        rw [hk2] at hund
        have hu : u = .string ⟨⟨s⟩⟩ := hu
        subst hu
        obtain ⟨v', w', hr, ho, hg, hwh⟩ := append_string_at (P := P) G.w (ty := ty) hu0 hund hi (by rw [hz1, hz3]) (by rw [hi1, hs]) (by rw [hi2, hb]) hown ⟨⟨s⟩⟩ b2 (by rw [hb, Nat.mul_one] at b1; exact b1)
        refine ⟨v', w', _, hr, ho, listOf_append hx ?_, hg, hwh⟩
        have : ∀ l : List UInt8, listOf (cellsOf G.im G.w .u8) l (l.map fun b => Value.int .u8 b.toNat) := by
          intro l
          induction l with
          | nil => rfl
          | cons x l ih => exact ⟨[_], _, rfl, rfl, ih⟩
        exact this s
      · exact hk.elim
    · exact hk.elim
  · next hns =>
    split at hk
    · next hb =>
      obtain rfl := nat_beq_eq hb
      have hk2 : rdK e hp y kk := by
        unfold denOp.srcK at hk
        split at hk
        · exact (hns _ rfl).elim
        · exact hk
      obtain ⟨ys, hk3, hh⟩ := rdK_out hm hu hk2
      exact ⟨ys, hk3, fun hown hx b1 b2 => run_append_t hu0 hz he hown hx hh b1 b2⟩
    · exact hk.elim

theorem ok_append (hE : EnvOk P E) {c : Call} (ho : o.op = .call c) (hc : c.callee = .builtin .append) (hm : Mdl w0 F0 G hp nx) (hf : frOk G fr a.tmps) (h0 : denOp E (.call c) fr hp nx k) : Goes P w0 F0 G o a k := by
  obtain ⟨callee, args, argTypes⟩ := c
  simp only at hc
  subst hc
  obtain ⟨ts, h1, hts⟩ := evalsK_out hf (show evalsK fr args.toList _ from h0)
  split at h1
  · next x y =>
    obtain ⟨va, vb, hargs, hx, hy⟩ : ∃ va vb, args.toList.map a.eval = [va, vb] ∧ vOk G x va ∧ vOk G y vb := by
      obtain ⟨hl, ht⟩ := hts
      obtain ⟨va, h2, h3⟩ := ht 0 _ rfl
      obtain ⟨vb, h4, h5⟩ := ht 1 _ rfl
      refine ⟨va, vb, ?_, h3, h5⟩
      generalize args.toList.map a.eval = L at *
      match L, hl, h2, h4 with
      | [p, q], _, h2, h4 => simp at h2 h4; rw [h2, h4]
    have hargs' : args.map a.eval = #[va, vb] := by
      apply Array.ext'
      simpa using hargs
    split at h1
    · next tx ty' hat =>
      obtain ⟨ti, hti, h2⟩ := tyK_out h1
      have hat' : argTypes = #[tx, ty'] := Array.ext' (by simpa using hat)
      split at h2
      · next et hk =>
        have hu0 := (hE.ty tx ti hti).und
        rw [hk] at hu0
        obtain ⟨z, hz, h3⟩ := tyK_out h2
        have hzo := hE.ty et z hz
        split at h3
        · next e he =>
          obtain ⟨t2, ht2, h4⟩ := tyK_out h3
          have ht2o := hE.ty ty' t2 ht2
          have hexec : ∀ v' w', (Builtin.append_ #[tx, ty'] o.type #[va, vb]).run P G.w = .ok v' w' → (execOp a.eval o).run P G.w = .ok (.value v') w' := fun v' w' hr => by
            simp [execOp, ho, resolve, invoke, builtin, hargs', hat', hr]
          have fin : ∀ {l1 l2 : Hp} {xs : List e.ty} {ys : List e.ty} (tch : Nat → Prop), Mdl w0 F0 G (l1 ++ l2) nx → (∀ k, tch k → (w0.heap.size ≤ k ∨ F0 k) ∧ k < G.w.heap.size ∧ ¬ G.im k) →
              (∀ s c b, (s, c) ∈ l1 ++ l2 → c.rw = true → G.rho s = some b → b.nil = false → ¬ tch b.blk) → (∀ k, va.ownBlock = some k → tch k) →
              (∃ v' w' css', (Builtin.append_ #[tx, ty'] o.type #[va, vb]).run P G.w = .ok v' w' ∧ w'.ownsRow 0 et e.sz v' (xs.length + ys.length) css' ∧ listOf (cellsOf G.im G.w e) (xs ++ ys) css' ∧ G.w.grownBy w' va.ownBlock ∧ (v'.ownBlock = va.ownBlock ∨ ∀ g, v'.ownBlock = some g → G.w.heap.size ≤ g)) →
              k (.v (.own nx)) (l1 ++ l2 ++ [(nx, .row et e (xs ++ ys))]) (nx + 1) → Goes P w0 F0 G o a k := by
            intro l1 l2 xs ys tch hmm t1 t2 t3 ⟨v', w', css', hr, ho', hl, hg, hwh⟩ hk
            obtain ⟨b, e1, e2, e3, e4⟩ := owns_b ho'
            obtain ⟨G', hx', hw, hr', hm'⟩ := hmm.new2 tch t1 t2 hg.os hg.tape hg.output hg.size (fun k hk hnt => hg.block k hk (fun hh => hnt (t3 k hh.symm))) (.row et e (xs ++ ys)) b
              (fun hn => by
                rcases hwh with h | h
                · exact .inr (t3 _ (h ▸ (e4 hn).1))
                · exact .inl ⟨h _ (e4 hn).1, (e4 hn).2⟩)
              (fun G' hx' hw => ⟨by rw [e2]; simp, e3, css', by rw [hw, e1, List.length_append]; exact ho', hx'.listOf hl⟩) rfl
            exact goes_world (v := v') (x := .v (.own nx)) (by rw [hw]; exact hexec _ _ hr) hx' hm' ⟨b, hr', e1.symm⟩ hk
          obtain ⟨ys, h5, hrun⟩ := run_append_src (ty := o.type) hm hu0 hzo he ht2o hy h4
          cases x with
          | nils =>
            obtain ⟨⟨b1, b2⟩, h6⟩ := h5
            have h7 := lappK_out h6
            have hva : va = .slice none 0 0 := hx
            subst hva
            exact fin (l1 := hp) (l2 := []) (xs := []) (ys := ys) (fun _ => False) (by simpa using hm) (fun _ h => h.elim) (fun _ _ _ _ _ _ _ h => h) (fun k hk => by simp [Value.ownBlock] at hk)
              (hrun (xs := []) (World.ownsRow_nil _ _ _ _) rfl (by simpa using b1) (by simpa using b2)) (by simpa using h7)
          | own r =>
            obtain ⟨b0, hr0, hv0⟩ := hx
            obtain ⟨c, hcm, h6⟩ := lookK_out h5
            split at h6
            · next et' e' xs =>
              split at h6
              · next hb =>
                obtain rfl := nat_beq_eq hb
                obtain rfl := castK_eq h6
                obtain ⟨⟨b1, b2⟩, h7⟩ := castK_self h6
                obtain ⟨l1, c0, l2, rfl, h8⟩ := delK_out h7
                have h9 := lappK_out h8
                obtain rfl : c0 = .row et' e' xs := same_chunk hm mem_mid hcm
                obtain ⟨b, hrb, hck⟩ := hm.chunk r _ hcm
                obtain rfl : b = b0 := Option.some.inj (hrb.symm.trans hr0)
                obtain ⟨q1, q2, css, hown, hl⟩ := hck
                obtain ⟨t1, t2⟩ := hm.gone hr0 rfl
                have hv1 : va = b.val := hv0
                refine fin (xs := xs) (ys := ys) (fun k => b.nil = false ∧ k = b.blk) hm.drop t1 t2 (fun k hk => ?_) (by rw [hv1]; exact hrun hown hl b1 b2) h9
                rw [hv1, B.val_block] at hk
                split at hk
                · cases hk
                · next hn => exact ⟨by simpa using hn, (Option.some.inj hk).symm⟩
              · exact h6.elim
            · exact h6.elim
          | _ => exact h5.elim
        · exact h3.elim
      · exact h2.elim
    · exact h1.elim
  · exact h1.elim

end
end Go.J

set_option linter.unusedSimpArgs false
set_option linter.unusedVariables false
set_option linter.unusedSectionVars false

namespace Go.J
open Go.RowKit

section
variable {P : Program} {E : Env} {w0 : World} {F0 : Base} {G : Cx} {hp : Hp} {nx : Nat} {o : Oper} {a : Act} {fr : List T} {k : T → Hp → Nat → Prop}

/-- A part of a value of many cells. -/
theorem run_part_t {t : TypeId} {y : TyI} {x : T} {d : Nat} {cs : List Value} {kk : T → Prop} (ht : TyOk P t y) (hs : sizeEq x y.size = true) (hsh : shapeK y.k x kk) (hc : tCells G x ((cs.drop d).take x.size)) (hl : d + x.size ≤ cs.length) :
    ∃ v, (part t ⟨cs⟩ d).run P G.w = .ok v G.w ∧ tVal G x v ∧ kk x := by
  obtain ⟨i, hi, hi1, _⟩ := ht.info
  have hsz := nat_beq_eq hs
  have hund := ht.und
  have go : ∀ u, P.underlying t = some u → (u.isRow = true ↔ ∀ y, x ≠ .v y) → (∀ y, x ≠ .tup y) → kk x → ∃ v, (part t ⟨cs⟩ d).run P G.w = .ok v G.w ∧ tVal G x v ∧ kk x := by
    intro u hu h1 h2 h3
    obtain ⟨v, h4, h5⟩ := run_part (P := P) hi ⟨u, hu⟩ hc hl (by rw [hi1, hsz]) (fun u' hu' => by obtain rfl : u = u' := Option.some.inj (hu.symm.trans hu'); exact h1) h2
    exact ⟨v, h4, h5, h3⟩
  unfold shapeK at hsh
  cases hk : y.k <;> rw [hk] at hund hsh <;> simp only at hund hsh
  case st fs =>
    obtain ⟨fields, hu, _⟩ := hund
    cases x <;> simp only at hsh
    all_goals exact go _ hu (by simp [TypeDesc.isRow]) (by simp) hsh
  case ar n e =>
    cases x <;> simp only at hsh
    all_goals exact go _ hund (by simp [TypeDesc.isRow]) (by simp) hsh
  case fn =>
    obtain ⟨_, _, _, hu⟩ := hund
    cases x <;> simp only at hsh
    exact go _ hu (by simp [TypeDesc.isRow]) (by simp) hsh
  case other =>
    obtain ⟨d, hu, hd⟩ := hund
    cases x <;> simp only at hsh
    exact go _ hu (by simp [hd]) (by simp) hsh
  all_goals
    cases x <;> simp only at hsh
    exact go _ hund (by simp [TypeDesc.isRow]) (by simp) hsh

theorem agg_of {x : T} {v : Value} (hv : tVal G x v) (h1 : ∀ y, x ≠ .v y) (h2 : ∀ y, x ≠ .tup y) : ∃ cs : List Value, v = .agg ⟨cs⟩ ∧ tCells G x cs := by
  cases x with
  | v y => exact (h1 y rfl).elim
  | tup y => exact (h2 y rfl).elim
  | _ => exact hv

theorem fieldK_row {i d : Nat} {x : T} {kk : T → Prop} (h : fieldK i d x kk) : (∀ y, x ≠ .v y) ∧ (∀ y, x ≠ .tup y) := by
  cases x <;> first | (cases i <;> simp [fieldK] at h; done) | exact ⟨by simp, by simp⟩

theorem ok_field (hE : EnvOk P E) {t : TypeId} {x : Operand} {f : Nat} (ho : o.op = .field t x f) (hm : Mdl w0 F0 G hp nx) (hf : frOk G fr a.tmps) (h0 : denOp E (.field t x f) fr hp nx k) : Goes P w0 F0 G o a k := by
  obtain ⟨tx, h1, ht⟩ := evalK_out hf h0
  obtain ⟨y, hy, h2⟩ := tyK_out h1
  have hund := (hE.ty t y hy).und
  split at h2
  · next fs hk =>
    rw [hk] at hund
    obtain ⟨fields, hu, hfs, hne, _⟩ := hund
    obtain ⟨ft, d, hd, h3⟩ := placeK_out h2
    have hfield : ∃ fd, fields[f]? = some fd ∧ fd.type = ft ∧ fd.offset = d := by
      rw [← hfs, List.getElem?_map] at hd
      cases hq : fields.toList[f]? with
      | none => simp [hq] at hd
      | some fd => simp [hq] at hd; exact ⟨fd, by simpa using hq, hd.1, hd.2⟩
    obtain ⟨fd, hfd, rfl, rfl⟩ := hfield
    obtain ⟨z, hz, h4⟩ := tyK_out h3
    obtain ⟨r1, r2⟩ := fieldK_row h4
    obtain ⟨cs, hv, hcs⟩ := agg_of ht r1 r2
    obtain ⟨x', h5, hx⟩ := fieldK_out h4
    obtain ⟨m1, m2⟩ := hx G cs hcs
    split at h5
    · next hs =>
      obtain ⟨v, e1, e2, e3⟩ := run_part_t (hE.ty _ z hz) hs h5 m1 m2
      exact goes_value (v := v) (by simp [execOp, ho, hv, Instr.field, run_underlying hu, hfd, asAgg, e1]) hm e2 e3
    · exact h5.elim
  · exact h2.elim

theorem ok_index (hE : EnvOk P E) {t : TypeId} {x i : Operand} (ho : o.op = .index t x i) (hm : Mdl w0 F0 G hp nx) (hf : frOk G fr a.tmps) (h0 : denOp E (.index t x i) fr hp nx k) : Goes P w0 F0 G o a k := by
  obtain ⟨tx, h1, ht⟩ := evalK_out hf h0
  obtain ⟨ti, h2, hti⟩ := evalK_out hf h1
  split at h2
  · next ik n =>
    have hi : a.eval i = .int ik n := hti
    split at h2
    · next e xs m =>
      obtain ⟨y, hy, h3⟩ := tyK_out h2
      have hund := (hE.ty t y hy).und
      split at h3
      · next m' et hk =>
        rw [hk] at hund
        obtain ⟨z, hz, h4⟩ := tyK_out h3
        split at h4
        · next hb1 hb2 =>
          obtain rfl := nat_beq_eq hb1
          obtain ⟨hr, h5⟩ := h4
          obtain ⟨cs, hv, hl, hc⟩ := ht
          have hlt : n.toNat < xs.length := by rw [hl]; have := hr.1; have := hr.2; omega
          obtain ⟨m1, m2⟩ := enc_getD hc hlt
          have hzo := hE.ty et z hz
          obtain ⟨inf, hinf, hinf1, _⟩ := hzo.info
          have hse : (e.enc (xs.getD n.toNat e.dflt)).size = e.sz := El.size_enc _ _
          obtain ⟨v, e1, e2, e3⟩ := run_part_t (d := n.toNat * e.sz) hzo (sizeEq_mk (hse.trans (nat_beq_eq hb2))) h5 (by rw [hse]; exact m1) (by rw [hse]; exact m2)
          have hsz := nat_beq_eq hb2
          refine goes_value (v := v) ?_ hm e2 e3
          have hr1 := hr.1
          have hr2 := hr.2
          simp [execOp, ho, hv, hi, Instr.index, asIntOf, run_underlying hund, hr1, hr2, sizeOf, typeInfo, hinf, hinf1, ← hsz, e1]
        · exact h4.elim
      · exact h3.elim
    · next s =>
      obtain ⟨y, hy, h3⟩ := tyK_out h2
      have hund := (hE.ty t y hy).und
      split at h3
      · next hk =>
        rw [hk] at hund
        obtain ⟨hr, h4⟩ := h3
        have hv : a.eval x = .string ⟨⟨s⟩⟩ := ht
        have hr1 := hr.1
        have hlt : n.toNat < s.length := by have := hr.2; omega
        refine goes_value (v := .int .u8 (s.getD n.toNat 0).toNat) (x := .v (.int .u8 (s.getD n.toNat 0).toNat)) ?_ hm rfl h4
        have hb : (⟨⟨s⟩⟩ : ByteArray)[n.toNat]? = some (s.getD n.toNat 0) := by
          rw [getElem?_pos (⟨⟨s⟩⟩ : ByteArray) n.toNat hlt]
          have : (⟨⟨s⟩⟩ : ByteArray)[n.toNat] = s[n.toNat] := rfl
          rw [this]
          simp [List.getD, hlt]
        simp only [execOp, ho, hv, hi, Instr.index, asIntOf, Sem.run_bind, Sem.run_pure, Result.andThen_ok, run_underlying hund, hr1, if_true, hb]
      · exact h3.elim
    · exact h2.elim
  · exact h2.elim

theorem tupGetK_out {kk : T → Prop} : ∀ {i : Nat} {t : T} {vs : List Value}, denOp.tupGetK i t kk → tTup G t vs → ∃ t' v, kk t' ∧ vs[i]? = some v ∧ tVal1 G t' v
  | 0, .cons t ts, _, h, ⟨v, vs, e, h1, _⟩ => ⟨t, v, h, by simp [e], h1⟩
  | i + 1, .cons t ts, _, h, ⟨v, vs, e, _, h2⟩ => by
    obtain ⟨t', v', k1, k2, k3⟩ := tupGetK_out (i := i) (t := ts) h h2
    exact ⟨t', v', k1, by simpa [e] using k2, k3⟩
  | 0, .v _, _, h, _ => by simp [denOp.tupGetK] at h
  | 0, .nil, _, h, _ => by simp [denOp.tupGetK] at h
  | 0, .arr _ _ _, _, h, _ => by simp [denOp.tupGetK] at h
  | 0, .tup _, _, h, _ => by simp [denOp.tupGetK] at h
  | _ + 1, .v _, _, h, _ => by simp [denOp.tupGetK] at h
  | _ + 1, .nil, _, h, _ => by simp [denOp.tupGetK] at h
  | _ + 1, .arr _ _ _, _, h, _ => by simp [denOp.tupGetK] at h
  | _ + 1, .tup _, _, h, _ => by simp [denOp.tupGetK] at h

theorem tVal_of1 {t : T} {v : Value} (h : tVal1 G t v) : tVal G t v := by
  cases t <;> first | exact h | exact h.elim

theorem ok_extract {x : Operand} {i : Nat} (ho : o.op = .extract x i) (hm : Mdl w0 F0 G hp nx) (hf : frOk G fr a.tmps) (h0 : denOp E (.extract x i) fr hp nx k) : Goes P w0 F0 G o a k := by
  obtain ⟨tx, h1, ht⟩ := evalK_out hf h0
  split at h1
  · next ts =>
    obtain ⟨vs, hv, hts⟩ := ht
    obtain ⟨t', v, k1, k2, k3⟩ := tupGetK_out h1 hts
    refine goes_value (v := v) ?_ hm (tVal_of1 k3) k1
    have : (⟨vs⟩ : Array Value)[i]? = some v := by simpa using k2
    simp [execOp, ho, hv, Instr.extract, this]
  · exact h1.elim

end
end Go.J

set_option linter.unusedSimpArgs false
set_option linter.unusedVariables false
set_option linter.unusedSectionVars false

namespace Go.J
open Go.RowKit

section
variable {P : Program} {E : Env} {w0 : World} {F0 : Base} {G : Cx} {hp : Hp} {nx : Nat} {o : Oper} {a : Act} {fr : List T} {k : T → Hp → Nat → Prop}

theorem loK_out {lo : Option Operand} {d : Int} {kk : Int → Prop} (hf : frOk G fr a.tmps) (h : loK fr lo d kk) : ∃ n, kk n ∧ ((lo = none ∧ n = d) ∨ ∃ x ik, lo = some x ∧ a.eval x = .int ik n) := by
  cases lo with
  | none => exact ⟨d, h, .inl ⟨rfl, rfl⟩⟩
  | some x =>
    obtain ⟨t, h1, ht⟩ := evalK_out hf h
    split at h1
    · next ik n => exact ⟨n, h1, .inr ⟨x, ik, rfl, ht⟩⟩
    · exact h1.elim

theorem run_bounds {isS : Bool} {len cap : Nat} {lo hi : Option Operand} {x y : Int} (h1 : (lo = none ∧ x = 0) ∨ ∃ o ik, lo = some o ∧ a.eval o = .int ik x) (h2 : (hi = none ∧ y = (len : Int)) ∨ ∃ o ik, hi = some o ∧ a.eval o = .int ik y)
    (hx : 0 ≤ x) (hxy : x ≤ y) (hy : y ≤ cap) : (Instr.sliceBounds isS len cap (lo.map a.eval) (hi.map a.eval) none).run P G.w = .ok (x.toNat, y.toNat, cap) G.w := by
  have hy0 : 0 ≤ y := by omega
  have e1 : ∀ code, ((y.toNat : Nat) : Int) = y := fun _ => by omega
  rcases h1 with ⟨rfl, rfl⟩ | ⟨o1, ik1, rfl, he1⟩ <;> rcases h2 with ⟨rfl, rfl⟩ | ⟨o2, ik2, rfl, he2⟩
  · simp [Instr.sliceBounds]
  · simp [Instr.sliceBounds, he2, run_sliceBound (P := P) G.w ik2 y cap _ hy0 hy]
  · simp [Instr.sliceBounds, he1, run_sliceBound (P := P) G.w ik1 x len _ hx hxy]
  · simp [Instr.sliceBounds, he1, he2, run_sliceBound (P := P) G.w ik2 y cap _ hy0 hy, run_sliceBound (P := P) G.w ik1 x y.toNat _ hx (by omega)]

theorem run_slice_t {t et : TypeId} {z : TyI} {A : Option Addr} {len cap : Nat} {lo hi : Option Operand} {x y : Int} (hu : P.underlying t = some (.slice et)) (hz : TyOk P et z) (h1 : (lo = none ∧ x = 0) ∨ ∃ o ik, lo = some o ∧ a.eval o = .int ik x)
    (h2 : (hi = none ∧ y = (len : Int)) ∨ ∃ o ik, hi = some o ∧ a.eval o = .int ik y) (hx : 0 ≤ x) (hxy : x ≤ y) (hy : y ≤ cap) :
    (Instr.sliceAt t (.slice A len cap) (lo.map a.eval) (hi.map a.eval) none).run P G.w = .ok (.slice (if cap = x.toNat then A else A.map (·.add (x.toNat * z.size))) (y.toNat - x.toNat) (cap - x.toNat)) G.w := by
  obtain ⟨i, hi1, hi2, _⟩ := hz.info
  simp only [Instr.sliceAt, Sem.run_bind, run_underlying hu, Result.andThen_ok, Instr.slice, run_bounds (isS := true) h1 h2 hx hxy hy, sizeOf, typeInfo, run_program, hi1, hi2, Sem.run_pure]

theorem exec_slice {t : TypeId} {x : Operand} {lo hi : Option Operand} {v : Value} (ho : o.op = .slice t x lo hi none) (h : (Instr.sliceAt t (a.eval x) (lo.map a.eval) (hi.map a.eval) none).run P G.w = .ok v G.w) : (execOp a.eval o).run P G.w = .ok (.value v) G.w := by
  simp [execOp, ho, h]

/-- A part of what a slice holds. -/
theorem Holds.cut {e : El} {xs : List e.ty} {A : Option Addr} {c : Nat} {x y : Nat} (h : Holds G e xs (.slice A xs.length c)) (hxy : x ≤ y) (hy : y ≤ xs.length) : Holds G e ((xs.drop x).take (y - x)) (.slice (if c = x then A else A.map (·.add (x * e.sz))) (y - x) (c - x)) := by
  obtain ⟨A', c', e1, e2, e3, e4⟩ := h
  simp at e1
  obtain ⟨rfl, rfl⟩ := e1
  have hl : ((xs.drop x).take (y - x)).length = y - x := by simp; omega
  refine ⟨_, c - x, by rw [hl], by omega, by omega, fun hp => ?_⟩
  rw [hl] at hp
  obtain ⟨b, oo, css, rfl, k1, k2⟩ := e4 (by omega)
  rw [if_neg (by omega)]
  refine ⟨b, oo + x * e.sz, _, by simp [Addr.add_mid], k1.drop (x * e.sz) ((y - x) * e.sz), listOf_take (fun x cs => cellsOf.length e x cs) _ (listOf_drop (fun x cs => cellsOf.length e x cs) _ k2)⟩

theorem rd_of_im {e : El} {xs : List e.ty} {v : Value} (h : Holds G e xs v) (him : 0 < xs.length → ∀ b oo, (∃ c, v = .slice (some ⟨b, oo, none⟩) xs.length c) → G.im b ∧ b < G.w.heap.size) : vOk G (.rd e xs) v := by
  obtain ⟨A, c, rfl, e2, e3, e4⟩ := h
  exact ⟨A, c, rfl, e2, e3, fun hp => by
    obtain ⟨b, oo, css, rfl, k1, k2⟩ := e4 hp
    obtain ⟨m1, m2⟩ := him hp b oo ⟨c, rfl⟩
    exact ⟨b, oo, css, rfl, m1, m2, k1, k2⟩⟩

theorem holds_of_rd {e : El} {xs : List e.ty} {v : Value} (h : vOk G (.rd e xs) v) : Holds G e xs v ∧ (0 < xs.length → ∀ b oo, (∃ c, v = .slice (some ⟨b, oo, none⟩) xs.length c) → G.im b ∧ b < G.w.heap.size) := by
  obtain ⟨A, c, e1, e2, e3, e4⟩ := h
  simp at e1
  subst e1
  refine ⟨⟨A, c, rfl, e2, e3, fun hp => ?_⟩, fun hp b oo ⟨c', hc'⟩ => ?_⟩
  · obtain ⟨b, oo, css, rfl, _, _, k1, k2⟩ := e4 hp
    exact ⟨b, oo, css, rfl, k1, k2⟩
  · obtain ⟨b', oo', css, rfl, m1, m2, _, _⟩ := e4 hp
    simp at hc'
    rw [← hc'.1.1]
    exact ⟨m1, m2⟩

theorem ok_slice (hE : EnvOk P E) {t : TypeId} {x : Operand} {lo hi mx : Option Operand} (ho : o.op = .slice t x lo hi mx) (hm : Mdl w0 F0 G hp nx) (hf : frOk G fr a.tmps) (h0 : denOp E (.slice t x lo hi mx) fr hp nx k) : Goes P w0 F0 G o a k := by
  cases mx with
  | some m => exact h0.elim
  | none =>
  obtain ⟨tx, h1, ht⟩ := evalK_out hf h0
  obtain ⟨n, h2, hlo⟩ := loK_out hf h1
  obtain ⟨y, hy, h3⟩ := tyK_out h2
  have hund := (hE.ty t y hy).und
  split at h3
  · next hk =>
    rw [hk] at hund
    split at h3
    · next s =>
      obtain ⟨m, h4, hhi⟩ := loK_out hf h3
      obtain ⟨⟨b1, b2, b3⟩, h5⟩ := h4
      have hv : a.eval x = .string ⟨⟨s⟩⟩ := ht
      refine goes_value (v := .string ⟨⟨(s.drop n.toNat).take (m - n).toNat⟩⟩) (x := .v (.str ((s.drop n.toNat).take (m - n).toNat))) (exec_slice ho ?_) hm rfl h5
      have hb := run_bounds (P := P) (G := G) (isS := false) (cap := s.length) (len := s.length) hlo hhi b1 b2 b3
      have hsz : (⟨⟨s⟩⟩ : ByteArray).size = s.length := rfl
      simp only [hv, Instr.sliceAt, Sem.run_bind, run_underlying hund, Result.andThen_ok, Instr.slice, hsz, hb, Sem.run_pure, Option.isSome_none, Bool.false_eq_true, if_false]
      congr 2
      have := Lib.extract_data ⟨⟨s⟩⟩ n.toNat m.toNat
      apply ByteArray.ext
      apply Array.ext'
      rw [this]
      simp [List.extract_eq_take_drop, show (m - n).toNat = m.toNat - n.toNat by omega]
    · exact h3.elim
  · next et hk =>
    rw [hk] at hund
    obtain ⟨z, hz, h4⟩ := tyK_out h3
    have hzo := hE.ty et z hz
    split at h4
    · next e xs =>
      split at h4
      · next hb =>
        have hsz := nat_beq_eq hb
        obtain ⟨m, h5, hhi⟩ := loK_out hf h4
        obtain ⟨⟨b1, b2, b3⟩, h6⟩ := h5
        obtain ⟨hh, him⟩ := holds_of_rd ht
        obtain ⟨A, c, hv, c1, _⟩ := id hh
        have hrun := run_slice_t (P := P) (G := G) (A := A) (cap := c) hund hzo hlo hhi b1 b2 (by omega)
        rw [hv] at hh him
        have hcut := hh.cut (x := n.toNat) (y := m.toNat) (by omega) (by omega)
        rw [hsz] at hrun
        rw [show (m - n).toNat = m.toNat - n.toNat by omega] at h6
        refine goes_value (exec_slice ho (by rw [hv]; exact hrun)) hm (x := .v (.rd e ((xs.drop n.toNat).take (m.toNat - n.toNat)))) (rd_of_im hcut fun hp b oo ⟨c', hc'⟩ => ?_) h6
        have hl : ((xs.drop n.toNat).take (m.toNat - n.toNat)).length = m.toNat - n.toNat := by simp; omega
        rw [hl] at hp hc'
        obtain ⟨_, _, q1, _, _, q4⟩ := id hh
        obtain ⟨b', oo', css, q5, _⟩ := q4 (by omega)
        simp at q1
        obtain ⟨rfl, rfl⟩ := q1
        subst q5
        simp [Addr.add_mid, show ¬ c = n.toNat by omega] at hc'
        rw [← hc'.1.1]
        exact him (by omega) b' oo' ⟨c, rfl⟩
      · exact h4.elim
    · obtain ⟨m, h5, hhi⟩ := loK_out hf h4
      obtain ⟨⟨rfl, rfl⟩, h6⟩ := h5
      have hv : a.eval x = .slice none 0 0 := ht
      have hrun := run_slice_t (P := P) (G := G) (A := none) (len := 0) (cap := 0) hund hzo hlo hhi (by omega) (by omega) (by omega)
      exact goes_value (exec_slice ho (by rw [hv]; exact hrun)) hm (x := .v .nils) (by simp; rfl) h6
    · next r =>
      obtain ⟨c, hc, h5⟩ := lookK_out h4
      obtain ⟨b, hr, hck⟩ := hm.chunk r c hc
      obtain ⟨b', k1, k2⟩ := tVal_of_v ht
      obtain rfl : b = b' := Option.some.inj (hr.symm.trans k1)
      split at h5
      · next ty e xs =>
        split at h5
        · next hb =>
          have hsz := nat_beq_eq hb
          obtain ⟨m, h6, hhi⟩ := loK_out hf h5
          obtain ⟨⟨b1, b2, b3⟩, h7⟩ := h6
          have hh := own_row hck
          obtain ⟨A, cc, hv, c1, c2, c3⟩ := id hh
          have hvx : a.eval x = .slice A xs.length cc := by rw [k2]; exact hv
          have hrun := run_slice_t (P := P) (G := G) (A := A) (len := xs.length) (cap := cc) hund hzo hlo hhi b1 b2 (by omega)
          rw [hsz] at hrun
          refine goes_value (exec_slice ho (by rw [hvx]; exact hrun)) hm (x := .v (.sl r [] n.toNat (m - n).toNat e.sz)) ⟨b, cc - n.toNat, _, hr, by omega, by omega, by rw [show (m - n).toNat = m.toNat - n.toNat by omega], fun hp => ?_⟩ h7
          have hne : 0 < xs.length := by omega
          have hnn : b.nil = false := by
            cases hq : b.nil with
            | false => rfl
            | true =>
              obtain ⟨bb, oo, css, e9, _⟩ := c3 hne
              simp [B.val, hq, e9] at hv
          simp [B.val, hnn] at hv
          refine ⟨hnn, ?_⟩
          rw [if_neg (by omega), ← hv.1]
          simp [Addr.add_mid, poff]
        · exact h5.elim
      · next ty e xs =>
        split at h5
        · next hb =>
          have hsz := nat_beq_eq hb
          obtain ⟨m, h6, hhi⟩ := loK_out hf h5
          obtain ⟨⟨b1, b2, b3⟩, h7⟩ := h6
          obtain ⟨q1, q2, q3, q4⟩ := hck
          have hrd : vOk G (.rd e xs) (.slice (if b.nil then none else some ⟨b.blk, 0, none⟩) xs.length b.cap) :=
            ⟨_, b.cap, rfl, by omega, q3, fun hp => by
              obtain ⟨m1, m2, m3, css, m4, m5⟩ := q4 (by omega)
              exact ⟨b.blk, 0, css, by simp [m1], m2, m3, m4, m5⟩⟩
          obtain ⟨hh, him⟩ := holds_of_rd hrd
          have hvx : a.eval x = .slice (if b.nil then none else some ⟨b.blk, 0, none⟩) xs.length b.cap := by rw [k2, q1]
          have hrun := run_slice_t (P := P) (G := G) (A := if b.nil then none else some ⟨b.blk, 0, none⟩) (len := xs.length) (cap := b.cap) hund hzo hlo hhi b1 b2 (by omega)
          have hcut := hh.cut (x := n.toNat) (y := m.toNat) (by omega) (by omega)
          rw [hsz] at hrun
          rw [show (m - n).toNat = m.toNat - n.toNat by omega] at h7
          refine goes_value (exec_slice ho (by rw [hvx]; exact hrun)) hm (x := .v (.rd e ((xs.drop n.toNat).take (m.toNat - n.toNat)))) (rd_of_im hcut fun hp b3 oo ⟨c', hc'⟩ => ?_) h7
          have hl : ((xs.drop n.toNat).take (m.toNat - n.toNat)).length = m.toNat - n.toNat := by simp; omega
          rw [hl] at hp hc'
          obtain ⟨m1, m2, m3, css, m4, m5⟩ := q4 (by omega)
          simp [m1, Addr.add_mid, show ¬ b.cap = n.toNat by omega] at hc'
          rw [← hc'.1.1]
          exact ⟨m2, m3⟩
        · exact h5.elim
      · exact h5.elim
    · next r p off len sz =>
      split at h4
      · next hb =>
        have hsz := nat_beq_eq hb
        obtain ⟨m, h5, hhi⟩ := loK_out hf h4
        obtain ⟨⟨b1, b2, b3⟩, h6⟩ := h5
        obtain ⟨b, c, A, q1, q2, q3, q4, q5⟩ := tVal_of_v ht
        have hrun := run_slice_t (P := P) (G := G) (A := A) (len := len) (cap := c) hund hzo hlo hhi b1 b2 (by omega)
        rw [hsz] at hrun
        refine goes_value (exec_slice ho (by rw [q4]; exact hrun)) hm (x := .v (.sl r p (off + n.toNat) (m - n).toNat sz)) ⟨b, c - n.toNat, _, q1, by omega, by omega, by rw [show (m - n).toNat = m.toNat - n.toNat by omega], fun hp => ?_⟩ h6
        obtain ⟨q6, q7⟩ := q5 (by omega)
        refine ⟨q6, ?_⟩
        rw [if_neg (by omega), q7]
        simp [Addr.add_mid, Nat.add_mul, Nat.add_assoc]
      · exact h4.elim
    · exact h4.elim
  · next len et hk =>
    rw [hk] at hund
    obtain ⟨z, hz, h4⟩ := tyK_out h3
    have hzo := hE.ty et z hz
    split at h4
    · next r p =>
      split at h4
      · next hbl =>
        have hlen := Nat.le_of_ble_eq_true hbl
        obtain ⟨m, h5, hhi⟩ := loK_out hf h4
        obtain ⟨⟨b1, b2, b3⟩, h6⟩ := h5
        obtain ⟨b, q1, q2, q3⟩ := tVal_of_v ht
        obtain ⟨i, hi1, hi2, _⟩ := hzo.info
        have hb := run_bounds (P := P) (G := G) (isS := false) (cap := len) (len := len) hlo hhi b1 b2 b3
        have hrun : (Instr.sliceAt t (a.eval x) (lo.map a.eval) (hi.map a.eval) none).run P G.w = .ok (.slice (some (if len = n.toNat then ⟨b.blk, poff p, none⟩ else (⟨b.blk, poff p, none⟩ : Addr).add (n.toNat * z.size))) (m.toNat - n.toNat) (len - n.toNat)) G.w := by
          simp only [q3, Instr.sliceAt, Sem.run_bind, run_underlying hund, Result.andThen_ok, Instr.sureAddr, Sem.run_pure, hb, sizeOf, typeInfo, run_program, hi1, hi2]
        refine goes_value (exec_slice ho hrun) hm (x := .v (.sl r p n.toNat (m - n).toNat z.size)) ⟨b, len - n.toNat, _, q1, by omega, by simp only [maxLen]; omega, by rw [show (m - n).toNat = m.toNat - n.toNat by omega], fun hp => ?_⟩ h6
        refine ⟨q2, ?_⟩
        rw [if_neg (by omega)]
        simp [Addr.add_mid]
      · exact h4.elim
    · exact h4.elim
  · exact h3.elim

theorem ok_indexAddr (hE : EnvOk P E) {t : TypeId} {x i : Operand} (ho : o.op = .indexAddr t x i) (hm : Mdl w0 F0 G hp nx) (hf : frOk G fr a.tmps) (h0 : denOp E (.indexAddr t x i) fr hp nx k) : Goes P w0 F0 G o a k := by
  obtain ⟨tx, h1, ht⟩ := evalK_out hf h0
  obtain ⟨ti, h2, hti⟩ := evalK_out hf h1
  split at h2
  · next ik n =>
    have hi : a.eval i = .int ik n := hti
    obtain ⟨y, hy, h3⟩ := tyK_out h2
    have hund := (hE.ty t y hy).und
    split at h3
    · next et hk =>
      rw [hk] at hund
      obtain ⟨z, hz, h4⟩ := tyK_out h3
      obtain ⟨inf, hi1, hi2, _⟩ := (hE.ty et z hz).info
      have run : ∀ b oo len cap, a.eval x = .slice (some ⟨b, oo, none⟩) len cap → 0 ≤ n → n < len → (execOp a.eval o).run P G.w = .ok (.value (.pointer (some ⟨b, oo + n.toNat * z.size, none⟩))) G.w := by
        intro b oo len cap hv hn1 hn2
        simp [execOp, ho, hv, hi, Instr.indexAt, asIntOf, run_underlying hund, hn1, hn2, sizeOf, typeInfo, hi1, hi2, Addr.add_mid]
      split at h4
      · next e xs =>
        split at h4
        · next hb =>
          have hsz := nat_beq_eq hb
          obtain ⟨⟨b1, b2⟩, h5⟩ := h4
          obtain ⟨A, c, e1, e2, e3, e4⟩ := tVal_of_v ht
          simp at e1
          obtain ⟨b, oo, css, rfl, k1, k2, k3, k4⟩ := e4 (by omega)
          refine goes_value (run _ _ _ _ e1 b1 (by omega)) hm (x := .v (.rp e xs n.toNat [])) ⟨by omega, b, oo, css, by simp [hsz, poff], k1, k2, k3, k4⟩ h5
        · exact h4.elim
      · next r =>
        obtain ⟨c, hc, h5⟩ := lookK_out h4
        obtain ⟨b, hr, hck⟩ := hm.chunk r c hc
        obtain ⟨b', k1, k2⟩ := tVal_of_v ht
        obtain rfl : b = b' := Option.some.inj (hr.symm.trans k1)
        split at h5
        · next ty e xs =>
          split at h5
          · next hb =>
            have hsz := nat_beq_eq hb
            obtain ⟨⟨b1, b2⟩, h6⟩ := h5
            obtain ⟨A, cc, hv, c1, c2, c3⟩ := own_row hck
            have hn : b.nil = false := by
              cases hq : b.nil with
              | false => rfl
              | true =>
                obtain ⟨bb, oo, css, e9, _⟩ := c3 (by omega)
                simp [B.val, hq, e9] at hv
            simp [B.val, hn] at hv
            refine goes_value (run b.blk 0 b.len b.cap (by rw [k2]; simp [hn]) b1 (by omega)) hm (x := .v (.ptr r [.x n.toNat e.sz])) ⟨b, hr, hn, by simp [hsz, poff]⟩ h6
          · exact h5.elim
        · next ty e xs =>
          split at h5
          · next hb =>
            have hsz := nat_beq_eq hb
            obtain ⟨⟨b1, b2⟩, h6⟩ := h5
            obtain ⟨q1, q2, q3, q4⟩ := hck
            obtain ⟨hn, _⟩ := q4 (by omega)
            refine goes_value (run b.blk 0 b.len b.cap (by rw [k2]; simp [hn]) b1 (by omega)) hm (x := .v (.ptr r [.x n.toNat e.sz])) ⟨b, hr, hn, by simp [hsz, poff]⟩ h6
          · exact h5.elim
        · exact h5.elim
      · next r p off len sz =>
        split at h4
        · next hb =>
          have hsz := nat_beq_eq hb
          obtain ⟨⟨b1, b2⟩, h5⟩ := h4
          obtain ⟨b, c, A, q1, q2, q3, q4, q5⟩ := tVal_of_v ht
          obtain ⟨q6, q7⟩ := q5 (by omega)
          subst q7
          refine goes_value (run _ _ _ _ q4 b1 b2) hm (x := .v (.ptr r (appPath p (.x (off + n.toNat) sz)))) ⟨b, q1, q6, ?_⟩ h5
          rw [appPath_eq, poff_app, hsz]
          simp [poff, Nat.add_mul, Nat.add_assoc]
        · exact h4.elim
      · exact h4.elim
    · next len et hk =>
      rw [hk] at hund
      obtain ⟨z, hz, h4⟩ := tyK_out h3
      obtain ⟨inf, hi1, hi2, _⟩ := (hE.ty et z hz).info
      have run : ∀ b oo, a.eval x = .pointer (some ⟨b, oo, none⟩) → 0 ≤ n → n < len → (execOp a.eval o).run P G.w = .ok (.value (.pointer (some ⟨b, oo + n.toNat * z.size, none⟩))) G.w := by
        intro b oo hv hn1 hn2
        simp [execOp, ho, hv, hi, Instr.indexAt, asIntOf, run_underlying hund, hn1, hn2, sizeOf, typeInfo, hi1, hi2, Addr.add_mid, Instr.sureAddr]
      split at h4
      · next r p =>
        obtain ⟨⟨b1, b2⟩, h5⟩ := h4
        obtain ⟨b, q1, q2, q3⟩ := tVal_of_v ht
        refine goes_value (run _ _ q3 b1 b2) hm (x := .v (.ptr r (appPath p (.x n.toNat z.size)))) ⟨b, q1, q2, ?_⟩ h5
        rw [appPath_eq, poff_app]
        simp [poff]
      · next e xs j p =>
        obtain ⟨⟨b1, b2⟩, h5⟩ := h4
        obtain ⟨q0, b, oo, css, q1, q2⟩ := tVal_of_v ht
        refine goes_value (run _ _ q1 b1 b2) hm (x := .v (.rp e xs j (appPath p (.x n.toNat z.size)))) ⟨q0, b, oo, css, ?_, q2⟩ h5
        rw [appPath_eq, poff_app]
        simp [poff, Nat.add_assoc]
      · exact h4.elim
    · exact h3.elim
  · exact h2.elim

end
end Go.J

set_option linter.unusedSimpArgs false
set_option linter.unusedVariables false
set_option linter.unusedSectionVars false

namespace Go.J
open Go.RowKit

section
variable {P : Program} {E : Env} {w0 : World} {F0 : Base} {G : Cx} {hp : Hp} {nx : Nat} {o : Oper} {a : Act} {fr : List T} {k : T → Hp → Nat → Prop}

theorem splice_cells (cells vs : Array Value) (off : Nat) (h : off + vs.size ≤ cells.size) :
    (vs.zipIdx.foldl (fun (cs : Array Value) (x : Value × Nat) => cs.setIfInBounds (off + x.2) x.1) cells).toList = cells.toList.take off ++ vs.toList ++ cells.toList.drop (off + vs.size) := by
  have key : ∀ (l : List Value) (i : Nat) (cs : Array Value), off + i + l.length ≤ cs.size →
      ((l.zipIdx i).foldl (fun (cs : Array Value) (x : Value × Nat) => cs.setIfInBounds (off + x.2) x.1) cs).toList = cs.toList.take (off + i) ++ l ++ cs.toList.drop (off + i + l.length) := by
    intro l
    induction l with
    | nil => intro i cs _; simp
    | cons v l ih =>
      intro i cs hl
      simp only [List.length_cons] at hl
      rw [List.zipIdx_cons, List.foldl_cons, ih (i + 1) _ (by simp; omega)]
      simp only [Array.toList_setIfInBounds]
      have ho : off + i < cs.toList.length := by simp; omega
      rw [← Nat.add_assoc, List.take_set, List.drop_set_of_lt (by omega)]
      have e1 : (List.take (off + i + 1) cs.toList).set (off + i) v = List.take (off + i) cs.toList ++ [v] := by
        rw [List.take_succ_eq_append_getElem ho, List.set_append_right _ _ (by simp; omega)]
        simp [Nat.min_eq_left (show off + i ≤ cs.size by omega)]
      rw [e1, List.length_cons, show off + i + (l.length + 1) = off + i + 1 + l.length by omega]
      simp
  have := key vs.toList 0 cells (by simpa using h)
  rw [← Array.foldl_toList, Array.toList_zipIdx]
  simpa using this

theorem El.same_refl : ∀ e : El, e.same e = true
  | .u8 => rfl
  | .int k => by simp [El.same]
  | .bool => rfl
  | .str => rfl
  | .rd e => by simp only [El.same]; exact El.same_refl e
  | .nil => rfl
  | .cons e es => by simp only [El.same, El.same_refl e, El.same_refl es]; rfl
  | .ar n e => by simp only [El.same, El.same_refl e, Nat.beq_refl]; rfl
theorem castK_mk {e : El} {xs : List e.ty} {k : List e.ty → Prop} (h : k xs) : castK e e xs k := by
  have gen : (if hh : e.same e = true then k (El.same_eq hh ▸ xs) else False) := by
    rw [dif_pos (El.same_refl e)]
    exact h
  cases e <;> first | exact h | exact gen | skip
  simp only [castK, beq_self_eq_true]
  exact h

/-- The same blocks, other numbers. -/
theorem cells_move {im : Nat → Prop} {G' : Cx} (hw : G'.w = G.w) (him : ∀ b, im b → G'.im b) {e : El} {x : e.ty} {cs : List Value} (h : cellsOf im G.w e x cs) : cellsOf G'.im G'.w e x cs :=
  cellsOf.mono him (fun _ _ => by rw [hw]) (by rw [hw]; exact Nat.le_refl _) e x cs h
theorem list_move {im : Nat → Prop} {G' : Cx} (hw : G'.w = G.w) (him : ∀ b, im b → G'.im b) {e : El} {xs : List e.ty} {cs : List Value} (h : listOf (cellsOf im G.w e) xs cs) : listOf (cellsOf G'.im G'.w e) xs cs :=
  listOf.mono (fun _ _ k => cells_move hw him k) _ _ h

/-- A row that nobody writes from here on. -/
theorem Mdl.freeze {l1 l2 : Hp} {r : Nat} {ty : TypeId} {e : El} {xs : List e.ty} {b : B} (h : Mdl w0 F0 G (l1 ++ (r, .row ty e xs) :: l2) nx) (hr : G.rho r = some b) :
    Mdl w0 F0 ⟨G.rho, fun k => G.im k ∨ (b.nil = false ∧ k = b.blk), G.w⟩ (l1 ++ (r, .fz ty e xs) :: l2) nx := by
  have hm0 : (r, Chunk.row ty e xs) ∈ l1 ++ (r, .row ty e xs) :: l2 := by simp
  obtain ⟨b', hr', hck⟩ := h.chunk r _ hm0
  obtain rfl : b = b' := Option.some.inj (hr.symm.trans hr')
  have hmine := fun hn => h.mine r _ b hm0 rfl hr hn
  have hx : Ext G ⟨G.rho, fun k => G.im k ∨ (b.nil = false ∧ k = b.blk), G.w⟩ := ⟨fun _ _ h => h, fun _ h => .inl h, fun _ _ => rfl, Nat.le_refl _⟩
  have hnd := h.ids
  simp only [List.map_append, List.map_cons] at hnd
  have hone : ∀ s d, (s, d) ∈ l1 ++ (r, .fz ty e xs) :: l2 → (s = r ∧ d = .fz ty e xs) ∨ (s ≠ r ∧ (s, d) ∈ l1 ++ (r, Chunk.row ty e xs) :: l2) := by
    intro s d hq
    rcases List.mem_append.1 hq with hm | hm
    · refine .inr ⟨?_, by simp [hm]⟩
      rintro rfl
      exact (List.nodup_append.1 hnd).2.2 s (List.mem_map.2 ⟨(s, d), hm, rfl⟩) s (by simp) rfl
    · rcases List.mem_cons.1 hm with hm2 | hm2
      · cases hm2; exact .inl ⟨rfl, rfl⟩
      · refine .inr ⟨?_, by simp [hm2]⟩
        rintro rfl
        exact (List.nodup_cons.1 (List.nodup_append.1 hnd).2.1).1 (List.mem_map.2 ⟨(s, d), hm2, rfl⟩)
  refine ⟨h.os, h.tape, h.output, h.size, h.keep, fun k hk => ?_, h.fresh, fun s d hm => ?_, by simpa using h.ids, fun s1 d1 s2 d2 b1 b2 hm1 hm2 hne hw1 hw2 hr1 hr2 hn1 hn2 => ?_, fun s d b2 hm hw hr2 hn2 => ?_, fun k hk => hk.elim (h.imNew k) fun ⟨hn, e⟩ => .inr (e ▸ (hmine hn).1)⟩
  · rcases hk with hk | ⟨hn, rfl⟩
    · exact h.imLt k hk
    · exact (hmine hn).2.1
  · rcases hone s d hm with ⟨rfl, rfl⟩ | ⟨_, hm⟩
    · refine ⟨b, hr, ?_⟩
      obtain ⟨A, c, e1, e2, e3, e4⟩ := own_row hck
      simp only [B.val] at e1
      simp at e1
      refine ⟨hck.1, by rw [hck.1, e1.2.2]; exact e2, hck.2.1, fun hp => ?_⟩
      rw [hck.1] at hp
      obtain ⟨bb, oo, css, k1, k2, k3⟩ := e4 hp
      have hn : b.nil = false := by
        cases hb : b.nil with
        | false => rfl
        | true => rw [← e1.1, hb] at k1; simp at k1
      rw [← e1.1, hn] at k1
      simp at k1
      obtain ⟨rfl, rfl⟩ := k1
      exact ⟨hn, .inr ⟨hn, rfl⟩, (hmine hn).2.1, css, k2, hx.listOf k3⟩
    · obtain ⟨b2, hr2, hc2⟩ := h.chunk s d hm
      exact ⟨b2, hr2, hx.chunkOk hc2 fun _ _ => rfl⟩
  · rcases hone s1 d1 hm1 with ⟨rfl, rfl⟩ | ⟨_, hm1⟩
    · cases hw1
    · rcases hone s2 d2 hm2 with ⟨rfl, rfl⟩ | ⟨_, hm2⟩
      · cases hw2
      · exact h.apart s1 d1 s2 d2 b1 b2 hm1 hm2 hne hw1 hw2 hr1 hr2 hn1 hn2
  · rcases hone s d hm with ⟨rfl, rfl⟩ | ⟨hne, hm⟩
    · cases hw
    · have hmi := h.mine s d b2 hm hw hr2 hn2
      refine ⟨hmi.1, hmi.2.1, ?_⟩
      rintro (hk | ⟨hn, hk⟩)
      · exact hmi.2.2 hk
      · exact h.apart s d r _ b2 b hm hm0 hne hw rfl hr2 hr hn2 hn hk

theorem mem_split_upd {hp : Hp} {r : Nat} {c c0 : Chunk} {l1 l2 : Hp} (h1 : (r, c) ∈ hp) (h2 : hp = l1 ++ (r, c0) :: l2) (hn : (hp.map (·.1)).Nodup) : c = c0 := by
  subst h2
  simp only [List.map_append, List.map_cons] at hn
  rcases List.mem_append.1 h1 with hm | hm
  · exact ((List.nodup_append.1 hn).2.2 r (List.mem_map.2 ⟨(r, c), hm, rfl⟩) r (by simp) rfl).elim
  · rcases List.mem_cons.1 hm with hm | hm
    · cases hm; rfl
    · exact ((List.nodup_cons.1 (List.nodup_append.1 hn).2.1).1 (List.mem_map.2 ⟨(r, c), hm, rfl⟩)).elim

theorem nodup_left {a b : Hp} (h : ((a ++ b).map (·.1)).Nodup) : (a.map (·.1)).Nodup := by
  rw [List.map_append] at h
  exact (List.nodup_append.1 h).1

/-- The cells of what a row of ours holds. -/
theorem fz_value {e : El} {r : Nat} {ty : TypeId} {xs : List e.ty} {hp : Hp} {im : Nat → Prop} (hm : Mdl w0 F0 ⟨G.rho, im, G.w⟩ hp nx) (hc : (r, Chunk.fz ty e xs) ∈ hp) {G' : Cx} (hw : G'.w = G.w) (him : ∀ b, im b → G'.im b) {v : Value} (hv : vOk G (.own r) v) : vOk G' (.rd e xs) v := by
  obtain ⟨b, hr, hck⟩ := hm.chunk r _ hc
  obtain ⟨b', k1, k2⟩ := hv
  have hr : G.rho r = some b := hr
  obtain rfl : b = b' := Option.some.inj (hr.symm.trans k1)
  obtain ⟨q1, q2, q3, q4⟩ := hck
  refine ⟨_, b.cap, by rw [k2, q1], by omega, q3, fun hp => ?_⟩
  obtain ⟨m1, m2, m3, css, m4, m5⟩ := q4 (by omega)
  have m3 : b.blk < G.w.heap.size := m3
  have m4 : cellsAt G.w b.blk 0 css := m4
  have m5 : listOf (cellsOf im G.w e) xs css := m5
  exact ⟨b.blk, 0, css, by simp [m1], him _ m2, by rw [hw]; exact m3, by rw [hw]; exact m4, list_move hw him m5⟩


/-- The parts' values. -/
def partsOk (G : Cx) : List (Nat × T) → List (Nat × Value) → Prop
  | [], vs => vs = []
  | (i, x) :: ps, vs => ∃ v vs', vs = (i, v) :: vs' ∧ tCells G x v.cells.toList ∧ partsOk G ps vs'

theorem partsK_out (hf : frOk G fr a.tmps) : ∀ {ps : List (Nat × Operand)} {kk : List (Nat × T) → Prop}, partsK fr ps kk → ∃ l, kk l ∧ partsOk G l (ps.map fun (i, x) => (i, a.eval x))
  | [], _, h => ⟨[], h, rfl⟩
  | (i, x) :: ps, kk, h => by
    obtain ⟨t, h1, ht⟩ := evalK_out hf h
    split at h1
    · exact h1.elim
    · next hkn =>
      obtain ⟨l, h2, hl⟩ := partsK_out hf (kk := fun l => kk ((i, t) :: l)) h1
      exact ⟨_, h2, _, _, rfl, toCells hkn ht, hl⟩

theorem decsK_out {e : El} : ∀ {ts : List T} {vs : List (Nat × Value)} {kk : List e.ty → Prop} {i0 : Nat}, decsK e ts hp kk → ∃ xs, kk xs ∧ ∀ (l : List (Nat × T)), l.map (·.2) = ts → partsOk G l vs →
    xs.length = ts.length ∧ listOf (cellsOf G.im G.w e) xs (vs.flatMap fun p => p.2.cells.toList)
  | [], vs, kk, _, h => ⟨[], h, fun l hl hp => by
      have : l = [] := by simpa using hl
      subst this
      simp [partsOk] at hp
      subst hp
      exact ⟨rfl, rfl⟩⟩
  | t :: ts, vs, kk, i0, h => by
    obtain ⟨x, h1, hx⟩ := decK_out (show decK e t hp fun x => decsK e ts hp fun xs => kk (x :: xs) from h)
    obtain ⟨xs, h2, hxs⟩ := decsK_out (vs := vs.tail) (kk := fun xs => kk (x :: xs)) (i0 := i0) h1
    refine ⟨x :: xs, h2, fun l hl hpp => ?_⟩
    match l, hl with
    | (i, t') :: l, hl =>
      simp only [List.map_cons, List.cons.injEq] at hl
      obtain ⟨rfl, hl2⟩ := hl
      obtain ⟨v, vs', rfl, k1, k2⟩ := hpp
      obtain ⟨m1, m2⟩ := hxs l hl2 k2
      exact ⟨by simp [m1], by
        simp only [List.flatMap_cons]
        exact ⟨_, _, rfl, hx G _ k1, m2⟩⟩

/-- Elements laid one behind the other, from the first on. -/
theorem fill_rows {size : Nat} : ∀ (vs : List (Nat × Value)) (i : Nat) (cells : Array Value) (done : List Value), (∀ p ∈ vs, p.2.cells.size = size) → (vs.map (·.1)) = List.range' i vs.length → cells.toList.take (i * size) = done → (i + vs.length) * size = cells.size →
    ∃ cells', Instr.fill (fun i => some (i * size, size)) cells vs = some cells' ∧ cells'.toList = done ++ vs.flatMap fun p => p.2.cells.toList
  | [], i, cells, done, _, _, hd, hs => ⟨cells, rfl, by
      simp at hs ⊢
      rw [← hd, List.take_of_length_le (by simp; omega)]⟩
  | (j, v) :: vs, i, cells, done, h1, h2, hd, hs => by
    simp only [List.map_cons, List.length_cons, List.range'_succ, List.cons.injEq] at h2
    obtain ⟨rfl, h2⟩ := h2
    have hv : v.cells.size = size := h1 (j, v) (by simp)
    have hle : j * size + v.cells.size ≤ cells.size := by
      rw [hv, ← hs, ← Nat.succ_mul]
      exact Nat.mul_le_mul_right _ (by simp only [List.length_cons]; omega)
    have hsp := splice_cells cells v.cells (j * size) hle
    have hsz : (v.cells.zipIdx.foldl (fun (cs : Array Value) (x : Value × Nat) => cs.setIfInBounds (j * size + x.2) x.1) cells).size = cells.size := by
      have := congrArg List.length hsp
      simp at this ⊢
      omega
    obtain ⟨cells', hf, hc⟩ := fill_rows vs (j + 1) _ (done ++ v.cells.toList) (fun p hp => h1 p (by simp [hp])) h2 (by
      rw [hsp, Nat.succ_mul, ← hd]
      have hl : (cells.toList.take (j * size) ++ v.cells.toList).length = j * size + size := by simp [hv]; omega
      rw [← hl, List.take_left]) (by rw [hsz, ← hs]; congr 1; simp; omega)
    refine ⟨cells', ?_, by rw [hc]; simp⟩
    unfold Instr.fill
    simp only [hv, ne_eq, not_true_eq_false, decide_false, Bool.false_or]
    rw [hv] at hle
    rw [if_neg (by simp; omega)]
    exact hf

theorem partsOk_size {e : El} : ∀ {l : List (Nat × T)} {vs : List (Nat × Value)}, partsOk G l vs → (∀ p ∈ l, p.2.size = e.sz) → ∀ p ∈ vs, p.2.cells.size = e.sz
  | [], vs, h, _ => by simp [partsOk] at h; simp [h]
  | (i, x) :: l, vs, ⟨v, vs', e1, k1, k2⟩, hs => by
    subst e1
    intro p hp
    rcases List.mem_cons.1 hp with hp | hp
    · subst hp
      have := tCells.length k1
      rw [hs (i, x) (by simp)] at this
      simpa using this
    · exact partsOk_size k2 (fun p hp => hs p (by simp [hp])) p hp

theorem partsOk_fst : ∀ {l : List (Nat × T)} {vs : List (Nat × Value)}, partsOk G l vs → vs.map (·.1) = l.map (·.1) ∧ vs.length = l.length
  | [], vs, h => by simp [partsOk] at h; simp [h]
  | (i, x) :: l, vs, ⟨v, vs', e1, _, k2⟩ => by
    subst e1
    have := partsOk_fst k2
    simp [this]


theorem idxOk_out : ∀ {ps : List (Nat × T)} {n : Nat}, idxOk ps n = true → ps.map (·.1) = List.range' n ps.length
  | [], _, _ => rfl
  | (i, x) :: ps, n, h => by
    simp only [idxOk, Bool.and_eq_true] at h
    obtain rfl := nat_beq_eq h.1
    simp [List.range'_succ, idxOk_out h.2]

theorem decsK_size {e : El} : ∀ {ts : List T} {kk : List e.ty → Prop}, decsK e ts hp kk → ∀ (l : List (Nat × T)) (vs : List (Nat × Value)), l.map (·.2) = ts → partsOk G l vs → ∀ p ∈ vs, p.2.cells.size = e.sz
  | [], _, _, l, vs, hl, hpp => by
    have : l = [] := by simpa using hl
    subst this
    simp [partsOk] at hpp
    simp [hpp]
  | t :: ts, kk, h, l, vs, hl, hpp => by
    obtain ⟨x, h1, hx⟩ := decK_out (show decK e t hp fun x => decsK e ts hp fun xs => kk (x :: xs) from h)
    match l, hl with
    | (i, t') :: l, hl =>
      simp only [List.map_cons, List.cons.injEq] at hl
      obtain ⟨rfl, hl2⟩ := hl
      obtain ⟨v, vs', rfl, k1, k2⟩ := hpp
      intro p hp
      rcases List.mem_cons.1 hp with hp | hp
      · subst hp
        have := cellsOf.length e x _ (hx G _ k1)
        simpa using this
      · exact decsK_size (kk := fun xs => kk (x :: xs)) h1 l vs' hl2 k2 p hp

theorem consK_out {sz : Nat} : ∀ {ts : List T} {kk : T → Prop}, consK sz ts kk → ∃ t, kk t ∧ ∀ (l : List (Nat × T)) (vs : List (Nat × Value)), l.map (·.2) = ts → partsOk G l vs → (∀ p ∈ vs, p.2.cells.size = sz) ∧ tCells G t (vs.flatMap fun p => p.2.cells.toList)
  | [], kk, h => ⟨.nil, h, fun l vs hl hpp => by
      have : l = [] := by simpa using hl
      subst this
      simp [partsOk] at hpp
      subst hpp
      exact ⟨fun p hp => by simp at hp, rfl⟩⟩
  | t :: ts, kk, h => by
    unfold consK at h
    split at h
    · next hb =>
      obtain ⟨u, h1, hu⟩ := consK_out h
      refine ⟨_, h1, fun l vs hl hpp => ?_⟩
      match l, hl with
      | (i, t') :: l, hl =>
        simp only [List.map_cons, List.cons.injEq] at hl
        obtain ⟨rfl, hl2⟩ := hl
        obtain ⟨v, vs', rfl, k1, k2⟩ := hpp
        obtain ⟨m1, m2⟩ := hu l vs' hl2 k2
        refine ⟨fun p hp => ?_, ?_⟩
        · rcases List.mem_cons.1 hp with hp | hp
          · subst hp
            have := tCells.length k1
            rw [nat_beq_eq hb] at this
            simpa using this
          · exact m1 p hp
        · simp only [List.flatMap_cons]
          exact ⟨_, _, rfl, k1, m2⟩
    · exact h.elim

theorem decs_sole {e : El} {xs : List e.ty} {hp : Hp} {kk : List (El.rd e).ty → Prop} (h : kk [xs]) : decsK (.rd e) [.v (.rd e xs)] hp kk := by
  show castK e e xs fun xs => kk [xs]
  exact castK_mk h
theorem ok_bs_el {t et : TypeId} {n : Nat} {ps : Array (Nat × Operand)} {z : TyI} (ho : o.op = .buildSlice t n ps) (hund : P.underlying t = some (.slice et)) (hzo : TyOk P et z) {l : List (Nat × T)} (hl : partsOk G l (ps.toList.map fun (i, x) => (i, a.eval x)))
    (hlen : l.length = n) (hidx : l.map (·.1) = List.range' 0 l.length) (hsmall : n * z.size ≤ 16777216) {e : El} (he : z.el = some e) (hm : Mdl w0 F0 G hp nx)
    (h3 : decsK e (l.map (·.2)) hp fun xs => lappK hp [(nx, .row et e xs)] fun hp => k (.v (.own nx)) hp (nx + 1)) : Goes P w0 F0 G o a k := by
  obtain ⟨hsz, hpos, i, zz, hi, hz1, hzc⟩ := hzo.el e he
  obtain ⟨i', hi', hi1, _⟩ := hzo.info
  obtain rfl : i = i' := Option.some.inj (hi.symm.trans hi')
  have hzs : zz.cells.size = z.size := by
    have := cellsOf.length e e.dflt zz.cells.toList (hzc G.im G.w)
    simpa [hsz] using this
  have hsizes := decsK_size (G := G) h3 l _ rfl hl
  obtain ⟨xs, h4, hxs⟩ := decsK_out (G := G) (vs := ps.toList.map fun (i, x) => (i, a.eval x)) (i0 := 0) h3
  obtain ⟨hxl, hxc⟩ := hxs l rfl hl
  have h5 := lappK_out h4
  obtain ⟨hfst, hlen2⟩ := partsOk_fst hl
  have hn : xs.length = n := by rw [hxl]; simp [hlen]
  by_cases hn0 : n * z.size = 0
  · have hn1 : n = 0 := by
      rcases Nat.mul_eq_zero.1 hn0 with h | h
      · exact h
      · omega
    subst hn1
    have hxs0 : xs = [] := List.eq_nil_of_length_eq_zero hn
    subst hxs0
    have hps : ps.toList = [] := by
      have : l = [] := List.eq_nil_of_length_eq_zero hlen
      subst this
      simpa using hlen2
    have hrun : (Instr.buildSlice t 0 (ps.map fun (i, x) => (i, a.eval x))).run P G.w = .ok (.slice (some ⟨G.w.heap.size, 0, none⟩) 0 0) (G.w.alloc (.cells #[] et)) := by
      have hps2 : ps = #[] := by apply Array.ext'; simpa using hps
      subst hps2
      simp [Instr.buildSlice, run_underlying hund, sizeOf, typeInfo, hi, newRow, Instr.fill]
      congr 2
      apply Array.ext'
      simp [Array.toList_range]
    obtain ⟨G', hx, hw, hr, hm'⟩ := hm.new (w' := G.w.alloc (.cells #[] et)) rfl rfl rfl (by simp) (fun b hb => Below.heap_alloc _ _ _ hb) (.row et e []) ⟨G.w.heap.size, false, 0, 0⟩ (fun _ => by simp)
      (fun G' he hw _ => ⟨rfl, by simp, [], ⟨by simp, .inr ⟨G.w.heap.size, 0, #[], rfl, Nat.zero_le _, by rw [hw]; exact heap_alloc_new _ _, by simp, by simp, by simp, by simp⟩⟩, rfl⟩) rfl
    refine goes_world (v := .slice (some ⟨G.w.heap.size, 0, none⟩) 0 0) (x := .v (.own nx)) ?_ hx hm' ⟨_, hr, rfl⟩ h5
    rw [hw]
    simp only [execOp, ho, Sem.run_bind, hrun, Result.andThen_ok, Sem.run_pure]
  · have hcs : ((Array.range (n * i.size)).map (zz.cells[· % zz.cells.size]!)).size = n * z.size := by simp [hi1]
    obtain ⟨cells', hf', hc'⟩ := fill_rows (size := e.sz) (ps.toList.map fun (i, x) => (i, a.eval x)) 0 ((Array.range (n * i.size)).map (zz.cells[· % zz.cells.size]!)) [] hsizes
      (by rw [hfst, hidx, hlen2]) (by simp) (by rw [hcs, hlen2, hlen, hsz, Nat.zero_add])
    have hrun := run_buildSlice (P := P) G.w t et n (ps.map fun (i, x) => (i, a.eval x)) cells' i zz hund hi hz1 (by rw [hi1]; omega) (by rw [hi1]; exact hn0)
      (by rw [show i.size = e.sz by rw [hi1, hsz]] at hf' ⊢; rw [Array.toList_map]; exact hf')
    simp only [List.nil_append] at hc'
    have hlx := listOf.length (fun x cs => cellsOf.length e x cs) _ _ hxc
    obtain ⟨G', hx, hw, hr, hm'⟩ := hm.new (w' := G.w.alloc (.cells cells' et)) rfl rfl rfl (by simp) (fun b hb => Below.heap_alloc _ _ _ hb) (.row et e xs) ⟨G.w.heap.size, false, n, n⟩ (fun _ => by simp)
      (fun G' he hw _ => ⟨hn.symm, by simp only [maxLen]; have := Nat.le_mul_of_pos_right n hpos; omega, cells'.toList, ⟨by rw [hc']; exact hlx, .inr ⟨G.w.heap.size, n, cells', by rw [hn]; rfl, Nat.zero_le _, by rw [hw]; exact heap_alloc_new _ _, by omega, by simp only [maxLen]; have := Nat.le_mul_of_pos_right n hpos; omega,
        by rw [← Array.length_toList, hc', hlx, hn], by rw [hc', ← hlx, List.take_length]⟩⟩, by rw [hc']; exact he.listOf hxc⟩) rfl
    refine goes_world (v := .slice (some ⟨G.w.heap.size, 0, none⟩) n n) (x := .v (.own nx)) ?_ hx hm' ⟨_, hr, rfl⟩ h5
    rw [hw]
    simp only [execOp, ho, Sem.run_bind, hrun, Result.andThen_ok, Sem.run_pure]
theorem Goes.ext {G1 : Cx} (hx : Ext G G1) (hw : G1.w = G.w) (h : Goes P w0 F0 G1 o a k) : Goes P w0 F0 G o a k := by
  intro next Q hn
  have := h next Q fun G' x v hp' nx' he hm hv hk => hn G' x v hp' nx' (hx.trans he) hm hv hk
  rw [hw] at this
  exact this
theorem partsOk_ext {G1 : Cx} (hx : Ext G G1) : ∀ {l : List (Nat × T)} {vs : List (Nat × Value)}, partsOk G l vs → partsOk G1 l vs
  | [], _, h => h
  | (_, _) :: _, _, ⟨v, vs', h1, h2, h3⟩ => ⟨v, vs', h1, hx.tCells h2, partsOk_ext hx h3⟩
theorem frzT_out : ∀ (t : T) {G : Cx} {hp : Hp} {kk : T → Hp → Prop} {cs : List Value}, Mdl w0 F0 G hp nx → tCells G t cs → frzT t hp kk →
    ∃ G1 t' hp', Ext G G1 ∧ G1.w = G.w ∧ Mdl w0 F0 G1 hp' nx ∧ tCells G1 t' cs ∧ kk t' hp' := by
  intro t
  induction t with
  | v x =>
    intro G hp kk cs hm hc h
    cases x with
    | own q =>
      obtain ⟨v1, hv1, hone, hvo⟩ := hc
      simp only [frzT] at h
      obtain ⟨c, hcm, h4⟩ := lookK_out h
      split at h4
      · next ty e' xs =>
        obtain ⟨l1, c0, l2, hlp, h5⟩ := updK_out h4
        have hc0 := mem_split_upd hcm hlp hm.ids
        subst hc0
        have hmd := hm
        rw [hlp] at hmd
        obtain ⟨b, hr, hck⟩ := hmd.chunk q (.row ty e' xs) (by simp)
        have hf2 := hmd.freeze hr
        have hx : Ext G ⟨G.rho, fun k => G.im k ∨ (b.nil = false ∧ k = b.blk), G.w⟩ := ⟨fun _ _ h => h, fun _ h => .inl h, fun _ _ => rfl, Nat.le_refl _⟩
        exact ⟨_, .v (.rd e' xs), _, hx, rfl, hf2, ⟨v1, hv1, hone, fz_value (G := G) (G' := ⟨G.rho, fun k => G.im k ∨ (b.nil = false ∧ k = b.blk), G.w⟩) (im := fun k => G.im k ∨ (b.nil = false ∧ k = b.blk)) (ty := ty) hf2 (by simp) rfl (fun _ h => h) hvo⟩, h5⟩
      · next ty e' xs =>
        exact ⟨G, .v (.rd e' xs), hp, Ext.refl G, rfl, hm, ⟨v1, hv1, hone, fz_value (G := G) (ty := ty) hm hcm rfl (fun _ h => h) hvo⟩, h4⟩
      · exact h4.elim
    | _ => exact ⟨G, _, hp, Ext.refl G, rfl, hm, hc, h⟩
  | cons t ts ih1 ih2 =>
    intro G hp kk cs hm hc h
    obtain ⟨c1, c2, rfl, h1, h2⟩ := hc
    simp only [frzT] at h
    obtain ⟨G1, t', hp1, x1, w1, m1, k1, h3⟩ := ih1 hm h1 h
    obtain ⟨G2, ts', hp2, x2, w2, m2, k2, h4⟩ := ih2 m1 (x1.tCells h2) h3
    exact ⟨G2, .cons t' ts', hp2, x1.trans x2, w2.trans w1, m2, ⟨c1, c2, rfl, x2.tCells k1, k2⟩, h4⟩
  | nil => intro G hp kk cs hm hc h; exact ⟨G, _, hp, Ext.refl G, rfl, hm, hc, h⟩
  | arr e xs n => intro G hp kk cs hm hc h; exact ⟨G, _, hp, Ext.refl G, rfl, hm, hc, h⟩
  | tup t => intro G hp kk cs hm hc h; exact ⟨G, _, hp, Ext.refl G, rfl, hm, hc, h⟩
theorem frzs_out : ∀ {l : List (Nat × T)} {vs : List (Nat × Value)} {G : Cx} {hp : Hp} {kk : List T → Hp → Prop}, Mdl w0 F0 G hp nx → partsOk G l vs → frzsK (l.map (·.2)) hp kk →
    ∃ G1 l' hp', Ext G G1 ∧ G1.w = G.w ∧ Mdl w0 F0 G1 hp' nx ∧ partsOk G1 l' vs ∧ l'.map (·.1) = l.map (·.1) ∧ kk (l'.map (·.2)) hp'
  | [], vs, G, hp, kk, hm, hl, h => ⟨G, [], hp, Ext.refl G, rfl, hm, hl, rfl, h⟩
  | (i, x) :: l, _, G, hp, kk, hm, ⟨v, vs', h1, h2, h3⟩, h => by
    obtain ⟨G1, t', hp1, x1, w1, m1, k1, h4⟩ := frzT_out x hm h2 h
    obtain ⟨G2, l', hp2, x2, w2, m2, k2, e2, h5⟩ := frzs_out m1 (partsOk_ext x1 h3) h4
    exact ⟨G2, (i, t') :: l', hp2, x1.trans x2, w2.trans w1, m2, ⟨v, vs', h1, x2.tCells k1, k2⟩, by rw [List.map_cons, List.map_cons, e2], h5⟩
theorem ok_buildSlice (hE : EnvOk P E) {t : TypeId} {n : Nat} {ps : Array (Nat × Operand)} (ho : o.op = .buildSlice t n ps) (hm : Mdl w0 F0 G hp nx) (hf : frOk G fr a.tmps) (h0 : denOp E (.buildSlice t n ps) fr hp nx k) : Goes P w0 F0 G o a k := by
  obtain ⟨y, hy, h1⟩ := tyK_out h0
  have hund := (hE.ty t y hy).und
  split at h1
  · next et hk =>
    rw [hk] at hund
    obtain ⟨z, hz, h2⟩ := tyK_out h1
    have hzo := hE.ty et z hz
    obtain ⟨l, h3, hl⟩ := partsK_out hf h2
    split at h3
    · next hb =>
      simp only [Bool.and_eq_true] at hb
      have hlen := nat_beq_eq hb.1.1
      have hidx := idxOk_out hb.1.2
      have hsmall := Nat.le_of_ble_eq_true hb.2
      split at h3
      · next e he0 =>
        obtain ⟨G1, l', hp', hx1, hw1, hm1, hl1, he1, h4⟩ := frzs_out hm hl h3
        have hll : l'.length = l.length := by have := congrArg List.length he1; simpa using this
        exact Goes.ext hx1 hw1 (ok_bs_el (G := G1) ho hund hzo (l := l') hl1 (by rw [hll]; exact hlen) (by rw [he1, hll]; exact hidx) hsmall (flatEl_out he0) hm1 h4)
      · split at h3
        · next e q hs =>
          obtain ⟨he, i0, rfl⟩ := soleK_out hs
          obtain ⟨v, vs', hvs, hcv, hpe⟩ := hl
          obtain ⟨v1, hv1, hone, hvo⟩ := hcv
          obtain ⟨c, hc, h4⟩ := lookK_out h3
          split at h4
          · next ty e' xs =>
            obtain ⟨l1, c0, l2, hlp, h5⟩ := updK_out h4
            obtain rfl := castK_eq h5
            have hk := castK_self h5
            have hc0 := mem_split_upd hc hlp hm.ids
            subst hc0
            have hmd := hm
            rw [hlp] at hmd
            obtain ⟨b, hr, hck⟩ := hmd.chunk q (.row ty e' xs) (by simp)
            have hf2 := hmd.freeze hr
            have hx : Ext G ⟨G.rho, fun k => G.im k ∨ (b.nil = false ∧ k = b.blk), G.w⟩ := ⟨fun _ _ h => h, fun _ h => .inl h, fun _ _ => rfl, Nat.le_refl _⟩
            refine Goes.ext hx rfl (ok_bs_el (G := ⟨G.rho, fun k => G.im k ∨ (b.nil = false ∧ k = b.blk), G.w⟩) ho hund hzo (l := [(i0, .v (.rd e' xs))]) ⟨v, vs', hvs, ⟨v1, hv1, hone, fz_value (G := G) (G' := ⟨G.rho, fun k => G.im k ∨ (b.nil = false ∧ k = b.blk), G.w⟩) (im := fun k => G.im k ∨ (b.nil = false ∧ k = b.blk)) (ty := ty) hf2 (by simp) rfl (fun _ h => h) hvo⟩, hpe⟩ hlen hidx hsmall he hf2 ?_)
            exact decs_sole hk
          · next ty e' xs =>
            obtain rfl := castK_eq h4
            have hk := castK_self h4
            exact ok_bs_el ho hund hzo (l := [(i0, .v (.rd e' xs))]) ⟨v, vs', hvs, ⟨v1, hv1, hone, fz_value (G := G) (ty := ty) hm hc rfl (fun _ h => h) hvo⟩, hpe⟩ hlen hidx hsmall he hm (decs_sole hk)
          · exact h4.elim
        · split at h3
          · next hpz =>
            simp only [Bool.and_eq_true, Nat.blt_eq] at hpz
            obtain ⟨hn0, hz0⟩ := hpz
            obtain ⟨i, hi, hi1, _, zz, hz1, _⟩ := hzo.info
            obtain ⟨t0, h4, hxs⟩ := consK_out (G := G) h3
            obtain ⟨hsizes, hxc⟩ := hxs l (ps.toList.map fun (i, x) => (i, a.eval x)) rfl hl
            have h5 := lappK_out h4
            obtain ⟨hfst, hlen2⟩ := partsOk_fst hl
            have hnz : n * z.size ≠ 0 := Nat.mul_ne_zero (by omega) (by omega)
            have hcs : ((Array.range (n * i.size)).map (zz.cells[· % zz.cells.size]!)).size = n * z.size := by simp [hi1]
            obtain ⟨cells', hf', hc'⟩ := fill_rows (size := z.size) (ps.toList.map fun (i, x) => (i, a.eval x)) 0 ((Array.range (n * i.size)).map (zz.cells[· % zz.cells.size]!)) [] hsizes
              (by rw [hfst, hidx, hlen2]) (by simp) (by rw [hcs, hlen2, hlen, Nat.zero_add])
            have hrun := run_buildSlice (P := P) G.w t et n (ps.map fun (i, x) => (i, a.eval x)) cells' i zz hund hi hz1 (by rw [hi1]; omega) (by rw [hi1]; exact hnz)
              (by rw [show i.size = z.size from hi1] at hf' ⊢; rw [Array.toList_map]; exact hf')
            simp only [List.nil_append] at hc'
            obtain ⟨G', hx, hw, hr, hm'⟩ := hm.new (w' := G.w.alloc (.cells cells' et)) rfl rfl rfl (by simp) (fun b hb => Below.heap_alloc _ _ _ hb) (.own t0) ⟨G.w.heap.size, false, n, n⟩ (fun _ => by simp)
              (fun G' he hw _ => ⟨rfl, cells'.toList, et, by rw [hw]; exact heap_alloc_new _ _, by rw [hc']; exact he.tCells hxc⟩) rfl
            refine goes_world (v := .slice (some ⟨G.w.heap.size, 0, none⟩) n n) (x := .v (.sl nx [] 0 n z.size)) ?_ hx hm' ⟨_, n, _, hr, Nat.le_refl _, ?_, rfl, fun _ => ⟨rfl, ?_⟩⟩ h5
            · rw [hw]
              simp only [execOp, ho, Sem.run_bind, hrun, Result.andThen_ok, Sem.run_pure]
            · simp only [maxLen]; have := Nat.le_mul_of_pos_right n hz0; omega
            · simp [poff]
          · exact h3.elim
    · exact h3.elim
  · exact h1.elim

end
end Go.J

set_option linter.unusedSimpArgs false
set_option linter.unusedVariables false
set_option linter.unusedSectionVars false

namespace Go.J
open Go.RowKit

section
variable {P : Program} {E : Env} {w0 : World} {F0 : Base} {G : Cx} {hp : Hp} {nx : Nat} {o : Oper} {a : Act} {fr : List T} {k : T → Hp → Nat → Prop}

theorem goes_v {v : Value} {x : V} (hk : k (.v x) hp nx) (hm : Mdl w0 F0 G hp nx) (hv : vOk G x v) (h : (execOp a.eval o).run P G.w = .ok (.value v) G.w) : Goes P w0 F0 G o a k := goes_value h hm (x := .v x) hv hk

/-- A part of another size is none. -/
theorem setChk_out {new : T} : ∀ {i : Nat} {t : T} {kk : T → Prop}, setFieldChkK i t new kk → ∃ t', kk t' ∧ kids t' = kids t ∧ i < kids t ∧ (∃ u us, t' = .cons u us) ∧
    (∀ j d c, fieldK j d t (fun u => u = c) → ∃ c', fieldK j d t' (fun u => u = c') ∧ c'.size = c.size) ∧
    (∀ d c, fieldK i d t (fun u => u = c) → c.size = new.size ∧ ∀ G cs ds, tCells G t cs → tCells G new ds → tCells G t' (cs.take d ++ ds ++ cs.drop (d + ds.length)))
  | 0, .cons t ts, kk, h => by
    unfold setFieldChkK at h
    split at h
    · next hs =>
      have hs := nat_beq_eq hs
      refine ⟨_, h, rfl, by simp [kids], ⟨_, _, rfl⟩, ?_, ?_⟩
      · intro j d c hc
        cases j with
        | zero =>
          cases d with
          | zero => exact ⟨new, rfl, by have : t = c := hc; rw [← this, hs]⟩
          | succ d => simp [fieldK] at hc
        | succ j =>
          unfold fieldK at hc ⊢
          rw [T.eat_eq, ← hs, ← T.eat_eq]
          split at hc
          · next hb => exact ⟨c, hc, rfl⟩
          · exact hc.elim
      · intro d c hc
        cases d with
        | zero =>
          have hc : t = c := hc
          subst hc
          obtain ⟨t', e1, _, e2⟩ := setFieldK_out (i := 0) (o := 0) (t := .cons t ts) (kk := fun u => u = .cons new ts) (t1 := t) rfl hs (show T.cons new ts = T.cons new ts from rfl)
          subst e1
          exact ⟨hs, e2⟩
        | succ d => simp [fieldK] at hc
    · exact h.elim
  | i + 1, .cons t ts, kk, h => by
    obtain ⟨t', hk, h1, h2, _, h3, h4⟩ := setChk_out (i := i) (t := ts) (kk := fun ts => kk (.cons t ts)) h
    refine ⟨_, hk, by simp [kids, h1], by simp only [kids]; omega, ⟨_, _, rfl⟩, ?_, ?_⟩
    · intro j d c hc
      cases j with
      | zero =>
        cases d with
        | zero => exact ⟨t, rfl, by have : t = c := hc; rw [this]⟩
        | succ d => simp [fieldK] at hc
      | succ j =>
        unfold fieldK at hc
        split at hc
        · next hb =>
          obtain ⟨c', e1, e2⟩ := h3 _ _ _ hc
          refine ⟨c', ?_, e2⟩
          unfold fieldK
          rw [hb]
          exact e1
        · exact hc.elim
    · intro d c hc
      unfold fieldK at hc
      split at hc
      · next d' hb =>
        have hle := T.eat_out hb
        obtain rfl : d' = d - t.size := by omega
        obtain ⟨e1, e2⟩ := h4 _ _ hc
        refine ⟨e1, fun G cs ds ⟨c1, c2, e, k1, k2⟩ hd => ?_⟩
        subst e
        have l1 := tCells.length k1
        refine ⟨c1, _, ?_, k1, e2 G c2 ds k2 hd⟩
        rw [List.take_append, List.take_of_length_le (by omega), List.drop_append, List.drop_eq_nil_of_le (by omega), l1, show d + ds.length - t.size = d - t.size + ds.length by omega]
        simp
      · exact hc.elim
  | 0, .v _, _, h => by simp [setFieldChkK] at h
  | 0, .nil, _, h => by simp [setFieldChkK] at h
  | 0, .arr _ _ _, _, h => by simp [setFieldChkK] at h
  | 0, .tup _, _, h => by simp [setFieldChkK] at h
  | _ + 1, .v _, _, h => by simp [setFieldChkK] at h
  | _ + 1, .nil, _, h => by simp [setFieldChkK] at h
  | _ + 1, .arr _ _ _, _, h => by simp [setFieldChkK] at h
  | _ + 1, .tup _, _, h => by simp [setFieldChkK] at h

theorem fill_struct {places : Nat → Option (Nat × Nat)} : ∀ {ps : List (Nat × T)} {vs : List (Nat × Value)} {t : T} {cells : Array Value} {kk : T → Prop}, fillSK t ps kk → partsOk G ps vs → tCells G t cells.toList → (t = .nil ∨ ∃ u us, t = .cons u us) →
    (∀ i, i < kids t → ∃ d s c, places i = some (d, s) ∧ fieldK i d t (fun u => u = c) ∧ c.size = s) → ∃ t' cells', Instr.fill places cells vs = some cells' ∧ tCells G t' cells'.toList ∧ kk t' ∧ (t' = .nil ∨ ∃ u us, t' = .cons u us)
  | [], vs, t, cells, kk, h, hv, hc, ht, _ => by
    simp [partsOk] at hv
    subst hv
    exact ⟨t, cells, rfl, hc, h, ht⟩
  | (i, x) :: ps, vs, t, cells, kk, h, ⟨v, vs', e1, k1, k2⟩, hc, ht, hp => by
    subst e1
    obtain ⟨t', hk, h1, h2, h3, h4, h5⟩ := setChk_out (show setFieldChkK i t x fun t => fillSK t ps kk from h)
    obtain ⟨d, s, c, p1, p2, p3⟩ := hp i h2
    obtain ⟨e1, e2⟩ := h5 d c p2
    have hl := tCells.length k1
    simp only [Array.length_toList] at hl
    obtain ⟨c1, hc1, hlen⟩ := fieldK_out p2
    subst hc1
    have hle := (hlen G _ hc).2
    simp only [Array.length_toList] at hle
    have hsp := splice_cells cells v.cells d (by omega)
    have hc' := e2 G _ _ hc k1
    rw [Array.length_toList, ← hsp] at hc'
    obtain ⟨t2, cells2, q1, q2, q3, q4⟩ := fill_struct (places := places) hk k2 hc' (.inr h3) (fun j hj => by
      obtain ⟨d', s', c', r1, r2, r3⟩ := hp j (by omega)
      obtain ⟨c2, m1, m2⟩ := h4 j d' c' r2
      exact ⟨d', s', c2, r1, m1, m2.trans r3⟩)
    refine ⟨t2, cells2, ?_, q2, q3, q4⟩
    unfold Instr.fill
    simp only [p1]
    rw [if_neg (by simp; omega)]
    exact q1

theorem fill_array {e : El} : ∀ {ps : List (Nat × T)} {vs : List (Nat × Value)} {xs : List e.ty} {cells : Array Value} {kk : List e.ty → Prop}, fillAK e xs ps hp kk → partsOk G ps vs → listOf (cellsOf G.im G.w e) xs cells.toList →
    ∃ xs' cells', Instr.fill (fun i => some (i * e.sz, e.sz)) cells vs = some cells' ∧ xs'.length = xs.length ∧ listOf (cellsOf G.im G.w e) xs' cells'.toList ∧ kk xs'
  | [], vs, xs, cells, kk, h, hv, hc => by
    simp [partsOk] at hv
    subst hv
    exact ⟨xs, cells, rfl, rfl, hc, h⟩
  | (i, x) :: ps, vs, xs, cells, kk, h, ⟨v, vs', e1, k1, k2⟩, hc => by
    subst e1
    obtain ⟨y, h1, hy⟩ := decK_out (show decK e x hp fun x => lsetK xs i x fun xs => fillAK e xs ps hp kk from h)
    obtain ⟨h2, h3⟩ := lsetK_out h1
    have hv := hy G _ k1
    have hl := cellsOf.length e y _ hv
    simp only [Array.length_toList] at hl
    have hlen := listOf.length (fun x cs => cellsOf.length e x cs) _ _ hc
    simp only [Array.length_toList] at hlen
    have hle : i * e.sz + v.cells.size ≤ cells.size := by
      rw [hl, hlen, ← Nat.succ_mul]
      exact Nat.mul_le_mul_right _ h2
    have hsp := splice_cells cells v.cells (i * e.sz) hle
    have hset := listOf_set (fun x cs => cellsOf.length e x cs) hc h2 hv
    rw [Nat.succ_mul, ← hl] at hset
    rw [hl] at hset hsp
    rw [← hsp] at hset
    obtain ⟨xs', cells', q1, q2, q3, q4⟩ := fill_array h3 k2 hset
    refine ⟨xs', cells', ?_, by simpa using q2, q3, q4⟩
    unfold Instr.fill
    simp only []
    rw [if_neg (by simp; omega)]
    exact q1

theorem ok_build (hE : EnvOk P E) {t : TypeId} {ps : Array (Nat × Operand)} (ho : o.op = .build t ps) (hm : Mdl w0 F0 G hp nx) (hf : frOk G fr a.tmps) (h0 : denOp E (.build t ps) fr hp nx k) : Goes P w0 F0 G o a k := by
  obtain ⟨y, hy, h1⟩ := tyK_out h0
  have hty := hE.ty t y hy
  have hund := hty.und
  obtain ⟨l, h3, hl⟩ := partsK_out hf h1
  obtain ⟨i, hi, _, _, z, hz, hz2⟩ := hty.info
  split at h3
  · next fs hk =>
    rw [hk] at hund
    obtain ⟨fields, hu, hfs, hne, _, hoff⟩ := hund
    have hkid := hty.kid fs hk
    have hplaces : fields.toList.mapM (fun f => (P.info? f.type).map fun i => (f.offset, i.size)) = some (fields.toList.map fun f => (f.offset, ((P.info? f.type).map (·.size)).getD 0)) := by
      have : ∀ (l : List Field), (∀ f ∈ l, ∃ i, P.info? f.type = some i) → l.mapM (fun f => (P.info? f.type).map fun i => (f.offset, i.size)) = some (l.map fun f => (f.offset, ((P.info? f.type).map (·.size)).getD 0)) := by
        intro l
        induction l with
        | nil => intro _; rfl
        | cons f l ih =>
          intro hh
          obtain ⟨i, hi⟩ := hh f (by simp)
          simp [List.mapM_cons, hi, ih (fun g hg => hh g (by simp [hg]))]
      exact this _ fun f hf => by obtain ⟨_, i, hi, _⟩ := hne f hf; exact ⟨i, hi⟩
    have go : ∀ t0 : T, y.zero.toT = t0 → (t0 = .nil ∨ ∃ u us, t0 = .cons u us) → fillSK t0 l (fun t => k t hp nx) → Goes P w0 F0 G o a k := by
      intro t0 e0 hshape h4
      subst e0
      obtain ⟨t', cells', q1, q2, q3, q4⟩ := fill_struct (G := G) (places := fun i => (fields.toList.map fun f => (f.offset, ((P.info? f.type).map (·.size)).getD 0)).toArray[i]?) h4 hl (hz2 G).2 hshape (fun i hi' => by
        rw [hkid, ← hfs, List.length_map] at hi'
        have hg : fs[i]? = some (fields.toList[i].type, fields.toList[i].offset) := by rw [← hfs, List.getElem?_map, List.getElem?_eq_getElem hi']; rfl
        obtain ⟨c, inf, r1, r2, r3⟩ := hoff i _ _ hg
        have hlt : i < fields.size := by simpa using hi'
        refine ⟨fields.toList[i].offset, c.size, c, ?_, r1, rfl⟩
        simp only [Array.getElem_toList] at r2 ⊢
        simp [hlt, r2, r3])
      have hb : P.built t (ps.map fun (i, x) => (i, a.eval x)).toList = some cells' := by
        unfold Program.built
        rw [Array.toList_map]
        simp only [hi, hu, hz, hplaces]
        exact q1
      refine goes_value (v := .agg cells') (x := t') ?_ hm ?_ q3
      · simp only [execOp, ho, Sem.run_bind, run_build G.w t _ _ hb, Result.andThen_ok, Sem.run_pure]
      · rcases q4 with rfl | ⟨u, us, rfl⟩ <;> exact ⟨cells'.toList, rfl, q2⟩
    split at h3
    · next hzz => exact go .nil (by rw [hzz]; rfl) (.inl rfl) h3
    · next u us hzz => exact go (.cons u.toT us.toT) (by rw [hzz]; rfl) (.inr ⟨_, _, rfl⟩) h3
    · exact h3.elim
  · next n et hk =>
    rw [hk] at hund
    split at h3
    · next e m hzz =>
      obtain ⟨ie, hie, hsz⟩ := hty.arr _ _ _ _ hk hzz
      have hzc := (hz2 G).2
      rw [hzz] at hzc
      obtain ⟨z1, z2⟩ := hzc
      obtain ⟨xs', cells', q1, q2, q3, q4⟩ := fill_array (G := G) h3 hl z2
      have hb : P.built t (ps.map fun (i, x) => (i, a.eval x)).toList = some cells' := by
        unfold Program.built
        rw [Array.toList_map]
        simp only [hi, hund, hz, hie, hsz]
        exact q1
      refine goes_value (v := .agg cells') (x := .arr e xs' m) ?_ hm ⟨cells'.toList, rfl, by rw [q2]; exact z1, q3⟩ q4
      simp only [execOp, ho, Sem.run_bind, run_build G.w t _ _ hb, Result.andThen_ok, Sem.run_pure]
    · exact h3.elim
  · exact h3.elim

theorem listOf_replicate {α : Type} {R : α → List Value → Prop} {x : α} {c : List Value} (h : R x c) : ∀ n, listOf R (List.replicate n x) (List.replicate n c).flatten
  | 0 => rfl
  | n + 1 => by
    rw [List.replicate_succ, List.replicate_succ, List.flatten_cons]
    exact ⟨c, _, rfl, h, listOf_replicate h n⟩

theorem madeCells_toList (z : Array Value) (n : Nat) : (madeCells z (n * z.size)).toList = (List.replicate n z.toList).flatten := by
  induction n with
  | zero => simp [madeCells]
  | succ n ih =>
    rw [List.replicate_succ', List.flatten_append, ← ih]
    apply List.ext_getElem?
    intro j
    simp only [madeCells, Array.toList_map, Array.toList_range, List.getElem?_map, List.flatten_cons, List.flatten_nil, List.append_nil, List.getElem?_append, List.length_map, List.length_range]
    by_cases h1 : j < n * z.size
    · rw [if_pos h1, List.getElem?_range (by rw [Nat.succ_mul]; omega), List.getElem?_range h1]
    · rw [if_neg h1]
      by_cases h2 : j < (n + 1) * z.size
      · rw [List.getElem?_range h2]
        have h3 : j - n * z.size < z.size := by rw [Nat.succ_mul] at h2; omega
        have h4 : j % z.size = j - n * z.size := by
          conv => lhs; rw [show j = (j - n * z.size) + z.size * n by rw [Nat.mul_comm z.size]; omega]
          rw [Nat.add_mul_mod_self_left, Nat.mod_eq_of_lt h3]
        simp [h4, h3]
      · rw [Nat.succ_mul] at h2
        rw [List.getElem?_eq_none (by simp; rw [Nat.succ_mul]; omega), List.getElem?_eq_none (by simp; omega)]
        rfl

theorem ok_makeSlice (hE : EnvOk P E) {t : TypeId} {l c : Operand} (ho : o.op = .makeSlice t l c) (hm : Mdl w0 F0 G hp nx) (hf : frOk G fr a.tmps) (h0 : denOp E (.makeSlice t l c) fr hp nx k) : Goes P w0 F0 G o a k := by
  obtain ⟨y, hy, h1⟩ := tyK_out h0
  have hund := (hE.ty t y hy).und
  split at h1
  · next et hk =>
    rw [hk] at hund
    obtain ⟨z, hz, h2⟩ := tyK_out h1
    obtain ⟨tn, h3, hn⟩ := evalK_out hf h2
    split at h3
    · next ik n =>
      obtain ⟨tm, h4, hmm⟩ := evalK_out hf h3
      split at h4
      · next jk m =>
        split at h4
        · next e he =>
          obtain ⟨⟨rfl, h5, h6, h7⟩, h8⟩ := h4
          obtain ⟨hsz, hpos, i, zz, hi, hz1, hzc⟩ := (hE.ty et z hz).el e he
          obtain ⟨i', hi', hi1, hi2, _⟩ := (hE.ty et z hz).info
          obtain rfl : i = i' := Option.some.inj (hi.symm.trans hi')
          obtain ⟨n, rfl⟩ := Int.eq_ofNat_of_zero_le h5
          simp only [Int.toNat_natCast] at h7
          have h63 : n ≤ maxLen := by omega
          obtain ⟨w', hrun, hown, hgr⟩ := run_make_full (P := P) G.w 0 t et i zz e.sz hund hi hz1 (by rw [hi1, hsz]) ik jk n (by rw [hi2, Nat.mul_comm]; omega) h63 (Nat.zero_le _)
          have hzs : zz.cells.size = e.sz := by
            have := cellsOf.length e e.dflt zz.cells.toList (hzc G.im G.w)
            simpa using this
          have hmk : (Instr.makeSlice t (.int ik n) (.int jk n)).run P G.w = .ok (.slice (some ⟨G.w.heap.size, 0, none⟩) n n) w' := hrun
          have h9 := lappK_out h8
          obtain ⟨G', hx, hw, hr, hm'⟩ := hm.new (w' := w') hgr.os hgr.tape hgr.output hgr.size (fun b hb => hgr.block b hb (by simp)) (.row et e (List.replicate n e.dflt)) ⟨G.w.heap.size, false, n, n⟩ (fun _ => ⟨Nat.le_refl _, by
              rcases hown.2 with ⟨e1, _⟩ | ⟨g, cap, cur, e1, _, e3, _⟩
              · simp at e1
              · simp at e1
                rw [e1.1]
                exact (Array.getElem?_eq_some_iff.1 e3).1⟩)
            (fun G' he hw _ => ⟨by simp, by simpa using h63, _, by rw [hw, List.length_replicate]; exact hown, by
              rw [← hzs, madeCells_toList]
              exact listOf_replicate (hzc _ _) n⟩) rfl
          refine goes_world (v := .slice (some ⟨G.w.heap.size, 0, none⟩) n n) (x := .v (.own nx)) ?_ hx hm' ⟨_, hr, rfl⟩ (by simpa using h9)
          rw [hw]
          have hn' : a.eval l = .int ik n := hn
          have hm'' : a.eval c = .int jk n := hmm
          simp only [execOp, ho, hn', hm'', Sem.run_bind, hmk, Result.andThen_ok, Sem.run_pure]
        · exact h4.elim
      · exact h4.elim
    · exact h3.elim
  · exact h1.elim

theorem slK_out {y : Ty} {q : Prop} (h : slK y q) : (∃ e, y = .sl e) ∧ q := by
  cases y <;> first | exact h.elim | exact ⟨⟨_, rfl⟩, h⟩
theorem strK_out {y : Ty} {q : Prop} (h : strK y q) : y = .str ∧ q := by
  cases y <;> first | exact h.elim | exact ⟨rfl, h⟩
theorem ptrK_out {y : Ty} {q : Prop} (h : ptrK y q) : (∃ e, y = .ptr e) ∧ q := by
  cases y <;> first | exact h.elim | exact ⟨⟨_, rfl⟩, h⟩

theorem frOk_one {ts : List T} {vs : List Value} {x : T} (h : frOk G ts ⟨vs⟩) (hx : ts = [x]) : ∃ v, vs = [v] ∧ tVal G x v := by
  subst hx
  obtain ⟨h1, h2⟩ := h
  simp at h1
  obtain ⟨v, e, hv⟩ := h2 0 x rfl
  match vs, h1 with
  | [w], _ => simp at e; subst e; exact ⟨_, rfl, hv⟩

theorem frOk_two {ts : List T} {vs : List Value} {x y : T} (h : frOk G ts ⟨vs⟩) (hx : ts = [x, y]) : ∃ v w, vs = [v, w] ∧ tVal G x v ∧ tVal G y w := by
  subst hx
  obtain ⟨h1, h2⟩ := h
  simp at h1
  obtain ⟨v, e, hv⟩ := h2 0 x rfl
  obtain ⟨w, e', hw⟩ := h2 1 y rfl
  match vs, h1 with
  | [v', w'], _ => simp at e e'; subst e; subst e'; exact ⟨_, _, rfl, hv, hw⟩

theorem ok_len (hE : EnvOk P E) {c : Call} (ho : o.op = .call c) (hc : c.callee = .builtin .len) (hm : Mdl w0 F0 G hp nx) (hf : frOk G fr a.tmps) (h0 : denOp E (.call c) fr hp nx k) : Goes P w0 F0 G o a k := by
  simp only [denOp, hc] at h0
  split at h0
  · next t hat =>
    obtain ⟨y, hy, h1⟩ := tyK_out h0
    have hund := (hE.ty t y hy).und
    obtain ⟨ts, h2, hts⟩ := evalsK_out hf h1
    have hat' : c.argTypes = #[t] := by apply Array.ext'; simpa using hat
    have sl : ∀ (v : Value) A (n cc : Nat), c.args.toList.map a.eval = [v] → v = .slice A n cc → (∃ e, y.k = .sl e) → k (.v (.int .i64 n)) hp nx → Goes P w0 F0 G o a k := by
      intro v A n cc hv e1 ⟨e, e2⟩ hk
      rw [e2] at hund
      have hv' : c.args.map a.eval = #[v] := by apply Array.ext'; simpa using hv
      refine goes_value (v := .int .i64 n) (x := .v (.int .i64 n)) ?_ hm rfl hk
      simp [execOp, ho, resolve, hc, invoke, builtin, hv', e1, hat', Builtin.len_, run_underlying hund, goInt]
    split at h2
    · obtain ⟨h3, h4⟩ := slK_out h2
      obtain ⟨v, e1, hv⟩ := frOk_one hts rfl
      obtain ⟨A, cc, e2, _⟩ := tVal_of_v hv
      simp at e2
      exact sl v A _ cc e1 e2 h3 h4
    · obtain ⟨h3, h4⟩ := slK_out h2
      obtain ⟨v, e1, hv⟩ := frOk_one hts rfl
      exact sl v none 0 0 e1 hv h3 h4
    · next s =>
      obtain ⟨h3, h4⟩ := strK_out h2
      obtain ⟨v, e1, hv⟩ := frOk_one hts rfl
      rw [h3] at hund
      have hv2 : v = .string ⟨⟨s⟩⟩ := hv
      have hv' : c.args.map a.eval = #[v] := by apply Array.ext'; simpa using e1
      refine goes_value (v := .int .i64 s.length) (x := .v (.int .i64 s.length)) ?_ hm rfl h4
      simp [execOp, ho, resolve, hc, invoke, builtin, hv', hv2, hat', run_len_string (P := P) G.w t o.type ⟨⟨s⟩⟩ hund]
      rfl
    · next r =>
      obtain ⟨h3, h4⟩ := slK_out h2
      obtain ⟨ch, hch, h5⟩ := lookK_out h4
      obtain ⟨b, hr, hck⟩ := hm.chunk r ch hch
      obtain ⟨v, e1, hv⟩ := frOk_one hts rfl
      obtain ⟨b', k1, k2⟩ := tVal_of_v hv
      obtain rfl : b = b' := Option.some.inj (hr.symm.trans k1)
      split at h5
      · rw [← hck.1] at h5
        exact sl v _ _ _ e1 k2 h3 h5
      · rw [← hck.1] at h5
        exact sl v _ _ _ e1 k2 h3 h5
      · exact h5.elim
    · obtain ⟨h3, h4⟩ := slK_out h2
      obtain ⟨v, e1, hv⟩ := frOk_one hts rfl
      obtain ⟨b, cc, A, _, _, _, e2, _⟩ := tVal_of_v hv
      exact sl v A _ cc e1 e2 h3 h4
    · exact h2.elim
  · exact h0.elim

theorem ok_min {c : Call} (ho : o.op = .call c) (hc : c.callee = .builtin .min) (hm : Mdl w0 F0 G hp nx) (hf : frOk G fr a.tmps) (h0 : denOp E (.call c) fr hp nx k) : Goes P w0 F0 G o a k := by
  simp only [denOp, hc] at h0
  obtain ⟨ts, h2, hts⟩ := evalsK_out hf h0
  split at h2
  · obtain ⟨v, w, e1, hv, hw⟩ := frOk_two hts rfl
    have hv' : c.args.map a.eval = #[v, w] := by apply Array.ext'; simpa using e1
    have hv : v = _ := hv
    have hw : w = _ := hw
    exact goes_v h2 hm rfl (by simp [execOp, ho, resolve, hc, invoke, builtin, hv', hv, hw, run_min_int2])
  · exact h2.elim

theorem ok_max {c : Call} (ho : o.op = .call c) (hc : c.callee = .builtin .max) (hm : Mdl w0 F0 G hp nx) (hf : frOk G fr a.tmps) (h0 : denOp E (.call c) fr hp nx k) : Goes P w0 F0 G o a k := by
  simp only [denOp, hc] at h0
  obtain ⟨ts, h2, hts⟩ := evalsK_out hf h0
  split at h2
  · obtain ⟨v, w, e1, hv, hw⟩ := frOk_two hts rfl
    have hv' : c.args.map a.eval = #[v, w] := by apply Array.ext'; simpa using e1
    have hv : v = _ := hv
    have hw : w = _ := hw
    exact goes_v h2 hm rfl (by simp [execOp, ho, resolve, hc, invoke, builtin, hv', hv, hw, run_max_int2])
  · exact h2.elim

theorem ok_unOp {op : UnOp} {t : TypeId} {x : Operand} (ho : o.op = .unOp op t x) (hm : Mdl w0 F0 G hp nx) (hf : frOk G fr a.tmps) (h0 : denOp E (.unOp op t x) fr hp nx k) : Goes P w0 F0 G o a k := by
  obtain ⟨tx, h1, ht⟩ := evalK_out hf h0
  split at h1
  · have ht : a.eval x = .bool true := ht
    exact goes_v h1 hm (v := .bool false) rfl (by simp [execOp, ho, Op.unary, ht])
  · have ht : a.eval x = .bool false := ht
    exact goes_v h1 hm (v := .bool true) rfl (by simp [execOp, ho, Op.unary, ht])
  · next b =>
    have ht : a.eval x = .bool b := ht
    exact goes_v h1 hm (v := .bool !b) rfl (by simp [execOp, ho, Op.unary, ht])
  · next ik n =>
    have ht : a.eval x = .int ik n := ht
    exact goes_v h1 hm (v := .int ik (ik.wrap (0 - n))) rfl (by simp [execOp, ho, Op.unary, ht, Op.intArith])
  · next ik n =>
    have ht : a.eval x = .int ik n := ht
    exact goes_v h1 hm (v := .int ik (bits .xor ik (if ik.signed then -1 else ik.max) n)) rfl (by simp [execOp, ho, Op.unary, ht, Op.intBits, bits])
  · exact h1.elim

end
end Go.J

set_option linter.unusedSimpArgs false
set_option linter.unusedVariables false
set_option linter.unusedSectionVars false

namespace Go.J
open Go.RowKit

section
variable {P : Program} {E : Env} {w0 : World} {F0 : Base} {G : Cx} {hp : Hp} {nx : Nat} {o : Oper} {a : Act} {fr : List T} {k : T → Hp → Nat → Prop}

theorem lookTy_out : ∀ {l : List (Nat × TyI)} {t : TypeId} {y : TyI}, lookTy l t = some y → (t, y) ∈ l
  | [], _, _, h => by simp [lookTy] at h
  | (t', i) :: l, t, y, h => by
    unfold lookTy at h
    split at h
    · next hb =>
      obtain rfl := nat_beq_eq hb
      simp at h
      simp [h]
    · simp [lookTy_out h]

def typedShape : Ty → T → Bool
  | .st _, .nil => true
  | .st _, .cons _ _ => true
  | .ar _ _, .nil => true
  | .ar _ _, .cons _ _ => true
  | .ar _ _, .arr _ _ _ => true
  | .st _, _ => false
  | .ar _ _, _ => false
  | _, .v _ => true
  | _, _ => false

/-- An element of one cell, as its cell. -/
def valS : (e : El) → e.ty → Value
  | .u8, x => .int .u8 x.toNat
  | .int k, n => .int k n
  | .bool, b => .bool b
  | .str, s => .string ⟨⟨s⟩⟩
  | _, _ => undef

theorem scal_cells {im : Nat → Prop} {w : World} {e : El} (h : e.scal = true) {x : e.ty} {cs : List Value} (hc : cellsOf im w e x cs) : cs = [valS e x] := by
  cases e <;> simp [El.scal] at h <;> exact hc

theorem scal_list {im : Nat → Prop} {w : World} {e : El} (h : e.scal = true) : ∀ {xs : List e.ty} {cs : List Value}, listOf (cellsOf im w e) xs cs → cs = xs.map (valS e)
  | [], _, hc => hc
  | x :: xs, _, ⟨c1, c2, e1, k1, k2⟩ => by
    rw [e1, scal_cells h k1, scal_list h k2]
    rfl

theorem scal_sz {e : El} (h : e.scal = true) : e.sz = 1 := by
  cases e <;> simp [El.scal] at h <;> rfl

theorem scal_eq {t : TypeId} {y : TyI} {e : El} (ht : TyOk P t y) (h : scalTy y.k e = true) (w : World) (d : Nat) (x x' : e.ty) :
    (Op.equalIn (d + 1) t (valS e x) (valS e x')).run P w = .ok (@decide (x = x') (El.decEqTy e x x')) w := by
  have hu := ht.und
  cases hk : y.k <;> rw [hk] at h hu <;> cases e <;> simp only [scalTy, Bool.false_eq_true] at h
  · rw [valS, valS, run_equalIn_int w d t _ _ _ _ hu]
    congr 1
    rw [Bool.eq_iff_iff]
    simp only [beq_iff_eq, decide_eq_true_eq, Int.natCast_inj]
    exact ⟨fun h => UInt8.toNat_inj.1 h, fun h => congrArg _ h⟩
  · rw [valS, valS, run_equalIn_int w d t _ _ _ _ hu]
    congr 1
  · rw [valS, valS, run_equalIn_bool w d t _ _ hu]
    congr 1
  · rw [valS, valS, run_equalIn_string w d t _ _ hu]
    congr 1
    rw [Bool.eq_iff_iff]
    simp only [beq_iff_eq, decide_eq_true_eq, ByteArray.toList_eq]

theorem scal_plain {t : TypeId} {y : TyI} {e : El} (ht : TyOk P t y) (h : scalTy y.k e = true) : P.plainKey t = true := by
  have hu := ht.und
  unfold Program.plainKey
  cases hk : y.k <;> rw [hk] at h hu <;> cases e <;> simp only [scalTy, Bool.false_eq_true] at h <;> simp only at hu <;> rw [hu]

theorem items_eq {t : TypeId} {y : TyI} {e : El} (ht : TyOk P t y) (h : scalTy y.k e = true) (w : World) (d : Nat) (csx csy : List Value) : ∀ (xs ys : List e.ty) (i n : Nat), xs.length = n → ys.length = n → csx.drop i = xs.map (valS e) → csy.drop i = ys.map (valS e) →
    (Op.eqItems (d + 1) t 1 ⟨csx⟩ ⟨csy⟩ (List.range' i n)).run P w = .ok (@decide (xs = ys) (@instDecidableEqList _ (El.decEqTy e) xs ys)) w
  | [], [], i, n, hx, _, _, _ => by
    simp at hx
    subst hx
    simp [Op.eqItems]
  | [], _ :: _, i, n, hx, hy, _, _ => by simp at hx hy; omega
  | _ :: _, [], i, n, hx, hy, _, _ => by simp at hx hy; omega
  | x :: xs, y' :: ys, i, n, hx, hy, ex, ey => by
    simp only [List.length_cons] at hx hy
    subst hx
    have gx : csx[i]? = some (valS e x) := by
      have := congrArg (·[0]?) ex
      simpa using this
    have gy : csy[i]? = some (valS e y') := by
      have := congrArg (·[0]?) ey
      simpa using this
    have px := run_part_plain w (scal_plain ht h) (xs := ⟨csx⟩) (off := i) (by simpa using gx)
    have py := run_part_plain w (scal_plain ht h) (xs := ⟨csy⟩) (off := i) (by simpa using gy)
    have hq := scal_eq ht h w d x y'
    have rest := items_eq ht h w d csx csy xs ys (i + 1) xs.length rfl (by omega) (by rw [← List.drop_drop, ex]; simp) (by rw [← List.drop_drop, ey]; simp)
    rw [List.range'_succ]
    simp only [Op.eqItems, Nat.mul_one, Sem.run_bind, px, py, hq, Result.andThen_ok]
    by_cases hxy : x = y'
    · subst hxy
      simp only [decide_true, Bool.not_true, Bool.false_eq_true, if_false, rest]
      congr 1
      simp
    · simp [hxy]

theorem shapeK_true {y : Ty} {x : T} : typedShape y x = true → shapeK y x (fun _ => True) := by
  cases y <;> cases x <;> simp [typedShape, shapeK]

theorem typed_shape : ∀ {n : Nat} {l : List (Nat × TyI)} {t : TypeId} {x : T}, typed n l t x = true → ∃ y, (t, y) ∈ l ∧ sizeEq x y.size = true ∧ shapeK y.k x (fun _ => True)
  | 0, _, _, _, h => by simp [typed] at h
  | n + 1, l, t, x, h => by
    unfold typed at h
    cases hl : lookTy l t with
    | none => simp [hl] at h
    | some y =>
      simp only [hl, Bool.and_eq_true] at h
      refine ⟨y, lookTy_out hl, h.1, shapeK_true ?_⟩
      have h2 := h.2
      cases hk : y.k <;> rw [hk] at h2 <;> simp only [Bool.false_eq_true] at h2 <;> cases x <;> first | rfl | (simp only [Bool.false_eq_true] at h2; done) | skip
      all_goals (rename_i fs; cases fs <;> simp [typedL] at h2)

theorem eqFields_run (n d : Nat) (hE : EnvOk P E)
    (IH : ∀ (t : TypeId) (x y : T) (vx vy : Value) (kk : V → Prop), typed n E.ty t x = true → typed n E.ty t y = true → eqTK x y kk → tVal G x vx → tVal G y vy → ∃ b r, (Op.equalIn d t vx vy).run P G.w = .ok b G.w ∧ vOk G r (.bool b) ∧ r ≠ .any ∧ kk r) :
    ∀ (fl : List Field) (dd : Nat) (x y : T) (csx csy : List Value) (kk : V → Prop), (∀ f ∈ fl, f.name ≠ "_") → typedL (typed n E.ty) (fl.map fun f => (f.type, f.offset)) dd x = true → typedL (typed n E.ty) (fl.map fun f => (f.type, f.offset)) dd y = true → eqTK x y kk →
      dd ≤ csx.length → dd ≤ csy.length → tCells G x (csx.drop dd) → tCells G y (csy.drop dd) → ∃ b r, (Op.eqFields d ⟨csx⟩ ⟨csy⟩ fl).run P G.w = .ok b G.w ∧ vOk G r (.bool b) ∧ r ≠ .any ∧ kk r
  | [], dd, x, y, csx, csy, kk, _, tx, ty', hk, _, _, _, _ => by
    cases x <;> simp only [List.map_nil, typedL, Bool.false_eq_true] at tx
    cases y <;> simp only [List.map_nil, typedL, Bool.false_eq_true] at ty'
    exact ⟨true, .tt, by simp [Op.eqFields], rfl, by simp, hk⟩
  | f :: fl, dd, x, y, csx, csy, kk, hn, tx, ty', hk, lx, ly, cx, cy => by
    cases x <;> simp only [List.map_cons, typedL, Bool.false_eq_true] at tx
    cases y <;> simp only [List.map_cons, typedL, Bool.false_eq_true] at ty'
    rename_i x xs y ys
    simp only [Bool.and_eq_true] at tx ty'
    obtain ⟨⟨t1, t2⟩, t3⟩ := tx
    obtain ⟨⟨u1, u2⟩, u3⟩ := ty'
    have grown : ∀ (x xs : T) (fs : List (TypeId × Nat)), (match x.grow dd with
        | some d' => typedL (typed n E.ty) fs d' xs
        | none => false) = true → typedL (typed n E.ty) fs (dd + x.size) xs = true := by
      intro x xs fs h
      split at h
      · next d' hg => rw [← T.grow_out hg]; exact h
      · cases h
    have t3 := grown _ _ _ t3
    have u3 := grown _ _ _ u3
    have hoff := nat_beq_eq t1
    have part_ok : ∀ (x : T) (xs : T) (cs : List Value), dd ≤ cs.length → typed n E.ty f.type x = true → tCells G (.cons x xs) (cs.drop dd) →
        (∃ v, (part f.type ⟨cs⟩ dd).run P G.w = .ok v G.w ∧ tVal G x v) ∧ dd + x.size ≤ cs.length ∧ tCells G xs (cs.drop (dd + x.size)) := by
      intro x xs cs hle ht hc
      obtain ⟨z, hz, hs, hsh⟩ := typed_shape ht
      obtain ⟨c1, c2, e1, k1, k2⟩ := hc
      have hlen := tCells.length k1
      have hl : dd + x.size ≤ cs.length := by
        have := congrArg List.length e1
        simp at this
        omega
      obtain ⟨v, r1, r2, _⟩ := run_part_t (d := dd) (cs := cs) (hE.ty _ z hz) hs hsh (by rw [e1, ← hlen, List.take_left]; exact k1) hl
      exact ⟨⟨v, r1, r2⟩, hl, by rw [← List.drop_drop, e1, ← hlen, List.drop_left]; exact k2⟩
    obtain ⟨⟨va, p1, p2⟩, p3, p4⟩ := part_ok x xs csx lx t2 cx
    obtain ⟨⟨vb, q1, q2⟩, q3, q4⟩ := part_ok y ys csy ly u2 cy
    have hsz : x.size = y.size := by
      obtain ⟨z, hz, hs, _⟩ := typed_shape t2
      obtain ⟨z', hz', hs', _⟩ := typed_shape u2
      have h1 := nat_beq_eq hs
      have h2 := nat_beq_eq hs'
      obtain ⟨i, hi, hi1, _⟩ := (hE.ty _ z hz).info
      obtain ⟨i', hi', hi1', _⟩ := (hE.ty _ z' hz').info
      obtain rfl : i = i' := Option.some.inj (hi.symm.trans hi')
      omega
    obtain ⟨b, r, m1, m2, m3, m4⟩ := IH f.type x y va vb _ t2 u2 (show eqTK x y fun x => eqTK xs ys fun y => kk (andV x y) from hk) p2 q2
    obtain ⟨b', r', m1', m2', m3', m4'⟩ := eqFields_run n d hE IH fl (dd + x.size) xs ys csx csy _ (fun g hg => hn g (by simp [hg])) t3 (by rw [hsz]; exact u3) m4 p3 (by rw [hsz]; exact q3) p4 (by rw [hsz]; exact q4)
    obtain ⟨a1, a2⟩ := andV_ok m2 m3 m2' m3'
    refine ⟨b && b', andV r r', ?_, a1, a2, m4'⟩
    rw [← hoff] at p1 q1
    simp only [Op.eqFields, hn f (by simp), ne_eq, not_false_eq_true, if_true, Sem.run_bind, p1, q1, m1, Result.andThen_ok]
    cases b
    · simp
    · simp [m1']

theorem eqT_run (hE : EnvOk P E) : ∀ (n : Nat) (t : TypeId) (x y : T) (vx vy : Value) (kk : V → Prop), typed n E.ty t x = true → typed n E.ty t y = true → eqTK x y kk → tVal G x vx → tVal G y vy → ∀ d,
    ∃ b r, (Op.equalIn (d + n + 1) t vx vy).run P G.w = .ok b G.w ∧ vOk G r (.bool b) ∧ r ≠ .any ∧ kk r
  | 0, _, _, _, _, _, _, h, _, _, _, _, _ => by simp [typed] at h
  | n + 1, t, x, y, vx, vy, kk, hx, hy, hk, hvx, hvy, d => by
    unfold typed at hx hy
    cases hl : lookTy E.ty t with
    | none => simp [hl] at hx
    | some ty =>
      have hty := hE.ty t ty (lookTy_out hl)
      have hu := hty.und
      simp only [hl, Bool.and_eq_true] at hx hy
      obtain ⟨hx1, hx⟩ := hx
      obtain ⟨hy1, hy⟩ := hy
      cases hty' : ty.k <;> rw [hty'] at hx hy hu <;> simp only [Bool.false_eq_true] at hx
      case int ik =>
        cases x <;> (try simp only [Bool.false_eq_true] at hx)
        cases y <;> (try simp only [Bool.false_eq_true] at hy)
        rename_i x y
        cases x <;> (try simp only [Bool.false_eq_true] at hx)
        cases y <;> (try simp only [Bool.false_eq_true] at hy)
        obtain rfl := eq_of_beq hx
        obtain rfl := eq_of_beq hy
        rename_i x y
        simp only [eqTK, beq_self_eq_true] at hk
        have hvx : vx = _ := hvx
        have hvy : vy = _ := hvy
        subst hvx hvy
        refine ⟨_, _, run_equalIn_int G.w (d + (n + 1)) t _ _ _ _ hu, ?_, ?_, hk⟩
        · simp [vOk]; rfl
        · simp
      case bool =>
        cases x <;> (try simp only [Bool.false_eq_true] at hx)
        cases y <;> (try simp only [Bool.false_eq_true] at hy)
        rename_i x y
        obtain ⟨b, hb⟩ := Option.isSome_iff_exists.1 hx
        obtain ⟨c, hc⟩ := Option.isSome_iff_exists.1 hy
        have e1 := boolV_ok hb hvx
        have e2 := boolV_ok hc hvy
        subst e1 e2
        have hkk : kk (eqBool x y) := by
          have : ∀ (x y : V) (b c : Bool), boolV x = some b → boolV y = some c → eqTK (.v x) (.v y) kk → kk (eqBool x y) := by
            intro x y b c hb hc hk
            cases x <;> simp only [boolV] at hb <;> (try cases hb) <;> cases y <;> simp only [boolV] at hc <;> (try cases hc) <;> exact hk
          exact this x y b c hb hc hk
        obtain ⟨m1, m2⟩ := eqBool_ok (G := G) hb hc
        exact ⟨_, _, run_equalIn_bool G.w (d + (n + 1)) t _ _ hu, m1, m2, hkk⟩
      case str =>
        cases x <;> (try simp only [Bool.false_eq_true] at hx)
        cases y <;> (try simp only [Bool.false_eq_true] at hy)
        rename_i x y
        cases x <;> (try simp only [Bool.false_eq_true] at hx)
        cases y <;> (try simp only [Bool.false_eq_true] at hy)
        rename_i x y
        have hvx : vx = .string ⟨⟨x⟩⟩ := hvx
        have hvy : vy = .string ⟨⟨y⟩⟩ := hvy
        subst hvx hvy
        refine ⟨_, .bool (decide (x = y)), run_equalIn_string G.w (d + (n + 1)) t _ _ hu, ?_, by simp, hk⟩
        show Value.bool _ = Value.bool _
        congr 1
        rw [Bool.eq_iff_iff]
        simp [ByteArray.toList_eq]
      case ar m e =>
        cases x <;> (try simp only [Bool.false_eq_true] at hx)
        cases y <;> (try simp only [Bool.false_eq_true] at hy)
        rename_i ex xs nx' ey ys ny'
        cases hl2 : lookTy E.ty e with
        | none => simp [hl2] at hx
        | some z =>
          simp only [hl2, Bool.and_eq_true] at hx hy
          obtain ⟨⟨⟨h1, h2⟩, h3⟩, h4⟩ := hx
          obtain ⟨⟨⟨g1, g2⟩, g3⟩, g4⟩ := hy
          obtain rfl := nat_beq_eq h1
          obtain rfl := nat_beq_eq g1
          have hz1 := nat_beq_eq h4
          have hzo := hE.ty e z (lookTy_out hl2)
          obtain ⟨i, hi, hi1, _⟩ := hzo.info
          obtain ⟨csx, rfl, l1, c1⟩ := hvx
          obtain ⟨csy, rfl, l2, c2⟩ := hvy
          simp only [eqTK] at hk
          split at hk
          · obtain rfl := castK_eq hk
            have hk := castK_self hk
            refine ⟨@decide (xs = ys) (@instDecidableEqList _ (El.decEqTy _) xs ys), _, ?_, ?_, ?_, hk⟩
            · rw [run_equalIn_array G.w (d + (n + 1)) _ _ hu hi]
              have hc1 : P.cellsOf e = 1 := by simp [Program.cellsOf, hi, hi1, hz1]
              rw [hc1, List.range_eq_range']
              exact items_eq hzo h3 G.w (d + n) csx csy xs ys 0 m l1 l2 (by simpa using scal_list h2 c1) (by simpa using scal_list h2 c2)
            · simp [vOk]
            · simp
          · exact hk.elim
      case st fs =>
        obtain ⟨fields, hu, hfs, hne, hsh, _⟩ := hu
        have hfo : P.fieldsOf t = fields := by simp [Program.fieldsOf, hu]
        have ax : ∀ {x : T} {v : Value}, typedL (typed n E.ty) fs 0 x = true → tVal G x v → ∃ cs : List Value, v = .agg ⟨cs⟩ ∧ tCells G x cs := by
          intro x v h hv
          refine agg_of hv ?_ ?_ <;> intro y hy <;> subst hy <;> cases fs <;> simp [typedL] at h
        obtain ⟨csx, rfl, c1⟩ := ax hx hvx
        obtain ⟨csy, rfl, c2⟩ := ax hy hvy
        subst hfs
        rw [run_equalIn_struct G.w (d + (n + 1)) t _ _ (by rw [hfo]; exact hu) hsh, hfo]
        exact eqFields_run n (d + (n + 1)) hE (fun t x y vx vy kk h1 h2 h3 h4 h5 => eqT_run hE n t x y vx vy kk h1 h2 h3 h4 h5 d) fields.toList 0 x y csx csy kk (fun f hf => (hne f hf).1) hx hy hk (Nat.zero_le _) (Nat.zero_le _) (by simpa using c1) (by simpa using c2)

end
end Go.J

set_option linter.unusedSimpArgs false
set_option linter.unusedVariables false
set_option linter.unusedSectionVars false

namespace Go.J
open Go.RowKit

section
variable {P : Program} {E : Env} {w0 : World} {F0 : Base} {G : Cx} {hp : Hp} {nx : Nat} {o : Oper} {a : Act} {fr : List T} {k : T → Hp → Nat → Prop}

/-- The first cells of what a slice holds. -/
theorem holds_take {e : El} {ys : List e.ty} {v : Value} (h : Holds G e ys v) (h1 : e.sz = 1) (n : Nat) : ∃ A c css, v = .slice A ys.length c ∧ css.length = min ys.length n ∧ listOf (cellsOf G.im G.w e) (ys.take n) css ∧
    (0 < css.length → ∃ ad, A = some ad ∧ ∀ j u, css[j]? = some u → G.w.cell? (ad.add j) = some u) := by
  obtain ⟨A, c, rfl, h2, h3, h4⟩ := h
  by_cases h0 : 0 < ys.length
  · obtain ⟨b, oo, css, rfl, k1, k2⟩ := h4 h0
    have hl := listOf.length (fun x cs => cellsOf.length e x cs) _ _ k2
    rw [h1, Nat.mul_one] at hl
    have ht := listOf_take (fun x cs => cellsOf.length e x cs) n k2
    rw [h1, Nat.mul_one] at ht
    refine ⟨_, c, css.take n, rfl, by rw [List.length_take, hl, Nat.min_comm], ht, fun _ => ⟨_, rfl, fun j u hu => ?_⟩⟩
    rw [List.getElem?_take] at hu
    split at hu
    · have := k1 j u hu
      simpa [Addr.add_mid] using this
    · cases hu
  · have : ys = [] := List.eq_nil_of_length_eq_zero (by omega)
    subst this
    exact ⟨A, c, [], rfl, by simp, by simp [listOf], fun h => by simp at h⟩

/-- What the copying does to the destination's block. -/
theorem run_copy_t {tx ty' et : TypeId} {z : TyI} {e : El} {ys : List e.ty} {v : Value} {g oo n cc : Nat} {A : Option Addr} {cur : List Value} {rty : TypeId} (hu : P.underlying tx = some (.slice et)) (hz : TyOk P et z) (hz1 : z.size = 1) (he : e.sz = 1) (hv : Holds G e ys v)
    (hA : 0 < n → A = some ⟨g, oo, none⟩ ∧ G.w.heap[g]? = some (.cells ⟨cur⟩ rty (0, 0)) ∧ oo + n ≤ cur.length) (ty : TypeId) :
    ∃ css, css.length = min ys.length n ∧ listOf (cellsOf G.im G.w e) (ys.take n) css ∧ (Builtin.copy_ #[tx, ty'] ty #[.slice A n cc, v]).run P G.w = .ok (.int .i64 (min ys.length n : Nat)) (G.w.setCells g oo css) := by
  obtain ⟨A', c', css, rfl, h1, h2, h3⟩ := holds_take hv he n
  refine ⟨css, h1, h2, ?_⟩
  have hs : (P.info? et).map (·.size) = some 1 := by rw [ty_size hz, hz1]
  by_cases h0 : 0 < css.length
  · obtain ⟨ad, rfl, h4⟩ := h3 h0
    obtain ⟨rfl, hb, hl⟩ := hA (by omega)
    have hone : ∀ u ∈ css, u.oneCell' = true := listOf.one (fun x cs h => cellsOf.one e x cs h) _ _ h2
    rw [run_copy_cells (P := P) G.w tx ty' ty et g oo n cc ad ys.length c' css hu hs (by rw [h1]) h4 (fun j hj => by
      rw [cell_of_row G.w g _ _ rty (0, 0) hb]
      simp
      omega) (fun j _ => by simp [World.frozen?, hb]) hone, h1]
    rfl
  · have hcss : css = [] := List.eq_nil_of_length_eq_zero (by omega)
    subst hcss
    have hmin : Nat.min ys.length n = 0 := by have := h1; simp at this; exact this.symm
    rw [run_copy_none (P := P) G.w tx ty' ty et A A' n cc ys.length c' hu hs hmin]
    have : min ys.length n = 0 := hmin
    rw [this]
    rfl


theorem splice_set {cs : List Value} {css : List Value} (off : Nat) (h : off + css.length ≤ cs.length) : (cs.take off ++ css ++ cs.drop (off + css.length)).length = cs.length := by
  simp only [List.length_append, List.length_take, List.length_drop]
  omega

/-- Elements laid over others. -/
theorem listOf_splice {α : Type} {R : α → List Value → Prop} (hn : ∀ x cs, R x cs → cs.length = 1) {xs ys : List α} {cs ds : List Value} {off : Nat} (hx : listOf R xs cs) (hy : listOf R ys ds) (h : off + ys.length ≤ xs.length) :
    listOf R (xs.take off ++ ys ++ xs.drop (off + ys.length)) (cs.take off ++ ds ++ cs.drop (off + ds.length)) := by
  have h1 := listOf_take hn off hx
  have h2 := listOf_drop hn (off + ys.length) hx
  have h3 := listOf.length hn _ _ hy
  rw [Nat.mul_one] at h1 h2 h3
  rw [h3]
  exact listOf_append (listOf_append h1 hy) h2

theorem ok_copy (hE : EnvOk P E) {c : Call} (ho : o.op = .call c) (hc : c.callee = .builtin .copy) (hm : Mdl w0 F0 G hp nx) (hf : frOk G fr a.tmps) (h0 : denOp E (.call c) fr hp nx k) : Goes P w0 F0 G o a k := by
  simp only [denOp, hc] at h0
  split at h0
  · next tx ty' hat =>
    have hat' : c.argTypes = #[tx, ty'] := by apply Array.ext'; simpa using hat
    obtain ⟨ti, hti, h1⟩ := tyK_out h0
    have hund := (hE.ty tx ti hti).und
    split at h1
    · next et hk =>
      rw [hk] at hund
      obtain ⟨z, hz, h2⟩ := tyK_out h1
      have hzo := hE.ty et z hz
      split at h2
      · next hz1 =>
        have hz1 := nat_beq_eq hz1
        obtain ⟨ts, h3, hts⟩ := evalsK_out hf h2
        have fin : ∀ (v u : Value) (w' : World) (n : Nat), c.args.toList.map a.eval = [v, u] → (Builtin.copy_ #[tx, ty'] o.type #[v, u]).run P G.w = .ok (.int .i64 n) w' → (execOp a.eval o).run P G.w = .ok (.value (.int .i64 n)) w' := by
          intro v u w' n e1 e2
          have hv' : c.args.map a.eval = #[v, u] := by apply Array.ext'; simpa using e1
          simp only [execOp, ho, resolve, hc, Sem.run_bind, Sem.run_pure, Result.andThen_ok, invoke, builtin, hat', hv', e2]
        split at h3
        · next r y =>
          obtain ⟨v, u, e1, hv, hu⟩ := frOk_two hts rfl
          obtain ⟨ch, hch, h4⟩ := lookK_out h3
          obtain ⟨b, k1, k2⟩ := tVal_of_v hv
          obtain ⟨b', hr, hck⟩ := hm.chunk r ch hch
          obtain rfl : b = b' := Option.some.inj (k1.symm.trans hr)
          split at h4
          · next rty e xs =>
            split at h4
            · next he =>
              have he := nat_beq_eq he
              obtain ⟨ys, h5, hold⟩ := rdK_out hm hu h4
              obtain ⟨l1, c0, l2, rfl, h6⟩ := updK_out h5
              obtain rfl : c0 = .row rty e xs := same_chunk hm mem_mid hch
              obtain ⟨q1, q2, css, hown, hlist⟩ := id hck
              have hlen := listOf.length (fun x cs => cellsOf.length e x cs) xs css hlist
              rw [he, Nat.mul_one] at hlen
              by_cases hx0 : xs = []
              · subst hx0
                obtain ⟨ds, m1, m2, m3⟩ := run_copy_t (P := P) (g := 0) (oo := 0) (n := 0) (cc := b.cap) (A := if b.nil then none else some ⟨b.blk, 0, none⟩) (cur := []) (rty := 0) (ty' := ty') hund hzo hz1 he hold (fun h => by omega) o.type
                have hds : ds = [] := List.eq_nil_of_length_eq_zero (by omega)
                subst hds
                have hb0 : b.len = 0 := by simpa using q1
                rw [hb0] at k2
                have hrun := fin v u G.w (min ys.length 0) e1 (by rw [k2]; exact m3)
                refine goes_v (x := .int .i64 (min ys.length 0 : Nat)) ?_ hm rfl hrun
                have : (List.take ([] : List e.ty).length ys ++ List.drop ys.length ([] : List e.ty)) = [] := by simp
                rw [this] at h6
                simpa using h6
              · have hpos : 0 < xs.length := List.length_pos_iff.2 hx0
                rcases hown.2 with ⟨_, hz0⟩ | ⟨g, cap, cur, f1, _, f2, f3, f4, f5, f6⟩
                · omega
                · have hn : b.nil = false := by
                    cases hb : b.nil with
                    | false => rfl
                    | true => simp [B.val, hb] at f1
                  have hg : b.blk = g := by simp [B.val, hn] at f1; exact f1.1
                  subst hg
                  have f5' : cur.toList.length = cap := by rw [he, Nat.mul_one] at f5; simpa using f5
                  obtain ⟨ds, m1, m2, m3⟩ := run_copy_t (P := P) (g := b.blk) (oo := 0) (n := b.len) (cc := b.cap) (A := if b.nil then none else some ⟨b.blk, 0, none⟩) (cur := cur.toList) (rty := rty) (ty' := ty') hund hzo hz1 he hold (fun _ => ⟨by simp [hn], by simpa using f2, by omega⟩) o.type
                  have hrun := fin v u _ (min ys.length b.len) e1 (by rw [k2]; exact m3)
                  obtain ⟨r1, r2, r3⟩ := setCells_rest (g := b.blk) ds (o := 0) (w := G.w)
                  have hfit : 0 + ds.length ≤ cur.toList.length := by omega
                  have hnew := setCells_heap (ty := rty) ds (cs := cur.toList) (o := 0) (w := G.w) (g := b.blk) (by simpa using f2) hfit
                  have hsp := listOf_splice (off := 0) (fun x cs h => by rw [cellsOf.length e x cs h, he]) hlist m2 (by rw [List.length_take]; omega)
                  have hdl : (ys.take b.len).length = ds.length := by rw [List.length_take, m1, Nat.min_comm]
                  have hxs : xs.take 0 ++ ys.take b.len ++ xs.drop (0 + (ys.take b.len).length) = ys.take xs.length ++ xs.drop ys.length := by
                    rw [q1]
                    simp only [List.take_zero, List.nil_append, Nat.zero_add, List.length_take]
                    congr 1
                    by_cases hyl : xs.length ≤ ys.length
                    · rw [Nat.min_eq_left hyl, List.drop_eq_nil_of_le (Nat.le_refl _), List.drop_eq_nil_of_le hyl]
                    · rw [Nat.min_eq_right (by omega)]
                  rw [hxs] at hsp
                  obtain ⟨hx, hm'⟩ := hm.write (c := .row rty e (ys.take xs.length ++ xs.drop ys.length)) hr rfl hn r1 r2 r3 (setCells_size _) (fun k hk => setCells_other (g := b.blk) _ hk) (fun hx => by
                    have hl2 : (ys.take xs.length ++ xs.drop ys.length).length = xs.length := by simp; omega
                    refine ⟨by rw [hl2]; exact q1, q2, css.take 0 ++ ds ++ css.drop (0 + ds.length), ⟨?_, .inr ⟨b.blk, cap, _, by rw [hl2]; exact f1, Nat.zero_le _, hnew, by rw [hl2]; exact f3, f4, ?_, ?_⟩⟩, hx.listOf hsp⟩
                    · rw [hl2, he, Nat.mul_one, splice_set 0 (by omega)]
                      exact hlen
                    · rw [he, Nat.mul_one]
                      show (cur.toList.take 0 ++ ds ++ cur.toList.drop (0 + ds.length)).length = cap
                      rw [splice_set 0 hfit]
                      exact f5'
                    · rw [hl2]
                      rw [he, Nat.mul_one] at f6 ⊢
                      show (cur.toList.take 0 ++ ds ++ cur.toList.drop (0 + ds.length)).take xs.length = _
                      rw [← f6]
                      simp only [List.take_zero, List.nil_append, Nat.zero_add]
                      rw [List.take_append, List.take_of_length_le (by omega), List.drop_take]) rfl
                  refine goes_world (G' := ⟨G.rho, G.im, _⟩) (x := .v (.int .i64 (min ys.length xs.length : Nat))) (v := .int .i64 (min ys.length b.len : Nat)) hrun hx hm' ?_ h6
                  rw [q1]
                  rfl
            · exact h4.elim
          · exact h4.elim
        · next r p off len sz y =>
          obtain ⟨v, u, e1, hv, hu⟩ := frOk_two hts rfl
          obtain ⟨ch, hch, h4⟩ := lookK_out h3
          obtain ⟨b, cc, A, k1, k2, k3, k4, k5⟩ := tVal_of_v hv
          obtain ⟨b', hr, hck⟩ := hm.chunk r ch hch
          obtain rfl : b = b' := Option.some.inj (k1.symm.trans hr)
          split at h4
          · next t0 =>
            obtain ⟨t1, h5, ht1⟩ := tgetK_out h4
            split at h5
            · next e xs n =>
              split at h5
              · next hb =>
                simp only [Bool.and_eq_true] at hb
                have he := nat_beq_eq hb.1
                obtain rfl := nat_beq_eq hb.2
                obtain ⟨ys, h6, hold⟩ := rdK_out hm hu h5
                obtain ⟨hol, h7⟩ := h6
                obtain ⟨t', h8, hs', hset⟩ := tsetK_out h7
                obtain ⟨l1, c0, l2, rfl, h9⟩ := updK_out h8
                obtain rfl : c0 = .own t0 := same_chunk hm mem_mid hch
                obtain ⟨hnil, cs, rty, hb, hcs⟩ := hck
                obtain ⟨m1, m2⟩ := ht1 G cs hcs
                obtain ⟨n1, n2⟩ := m1
                have hlen := listOf.length (fun x cs => cellsOf.length e x cs) _ _ n2
                simp only [T.size] at n2 hlen m2
                rw [he, Nat.mul_one] at hlen n2 m2
                obtain ⟨ds, d1, d2, d3⟩ := run_copy_t (P := P) (g := b.blk) (oo := poff p + off * 1) (n := len) (cc := cc) (A := A) (cur := cs) (rty := rty) (ty' := ty') hund hzo hz1 he hold (fun hp => ⟨(k5 hp).2, hb, by omega⟩) o.type
                have hrun := fin v u _ (min ys.length len) e1 (by rw [k4]; exact d3)
                obtain ⟨r1, r2, r3⟩ := setCells_rest (g := b.blk) ds (o := poff p + off * 1) (w := G.w)
                have hsp := listOf_splice (off := off) (fun x cs h => by rw [cellsOf.length e x cs h, he]) n2 d2 (by rw [List.length_take]; omega)
                have hdl : (ys.take len).length = min ys.length len := by rw [List.length_take, Nat.min_comm]
                rw [hdl] at hsp
                have hnl : (xs.take off ++ ys.take len ++ xs.drop (off + min ys.length len)).length = n := by
                  simp only [List.length_append, List.length_take, List.length_drop]
                  omega
                obtain ⟨m3, m4⟩ := hset G cs _ hcs ⟨hnl, hsp⟩
                have hfit : poff p + off * 1 + ds.length ≤ cs.length := by omega
                have hnew := setCells_heap (ty := rty) ds (cs := cs) (o := poff p + off * 1) (w := G.w) (g := b.blk) hb hfit
                have hnd : n = ((cs.drop (poff p)).take n).length := by rw [List.length_take, List.length_drop]; omega
                have heq : cs.take (poff p) ++ (((cs.drop (poff p)).take n).take off ++ ds ++ ((cs.drop (poff p)).take n).drop (off + ds.length)) ++ cs.drop (poff p + (((cs.drop (poff p)).take n).take off ++ ds ++ ((cs.drop (poff p)).take n).drop (off + ds.length)).length) = cs.take (poff p + off * 1) ++ ds ++ cs.drop (poff p + off * 1 + ds.length) := by
                  have hl1 : (((cs.drop (poff p)).take n).take off ++ ds ++ ((cs.drop (poff p)).take n).drop (off + ds.length)).length = n := by
                    simp only [List.length_append, List.length_take, List.length_drop]
                    omega
                  rw [hl1, Nat.mul_one]
                  exact splice_in cs ds (by omega) (by omega)
                rw [heq] at m4
                obtain ⟨hx, hm'⟩ := hm.write (c := .own t') hr rfl hnil r1 r2 r3 (setCells_size _) (fun k hk => setCells_other _ hk)
                  (fun hx => ⟨hnil, _, rty, hnew, hx.tCells m4⟩) rfl
                exact goes_world (G' := ⟨G.rho, G.im, _⟩) (x := .v (.int .i64 (min ys.length len : Nat))) hrun hx hm' rfl h9
              · exact h5.elim
            · exact h5.elim
          · exact h4.elim
        · exact h3.elim
      · exact h2.elim
    · exact h1.elim
  · exact h0.elim

end
end Go.J

set_option linter.unusedSimpArgs false
set_option linter.unusedVariables false
set_option linter.unusedSectionVars false

namespace Go.J
open Go.RowKit

section
variable {P : Program} {E : Env} {w0 : World} {F0 : Base} {G : Cx} {hp : Hp} {nx : Nat} {o : Oper} {a : Act} {fr : List T} {k : T → Hp → Nat → Prop}

theorem run_equalIn_slice_nil' (w : World) (d : Nat) (t e : TypeId) (a : Option Addr) (l c : Nat) (h : P.underlying t = some (.slice e)) : (Op.equalIn (d + 1) t (.slice a l c) (.slice none 0 0)).run P w = .ok a.isNone w := by
  cases a <;> simp [Op.equalIn, run_underlying h]

theorem run_binOp_of {op : BinOp} {t : TypeId} {x y : Operand} {b : TypeId} {v : Value} (ho : o.op = .binOp op t x y b) (hg : (eqGuard op t x y (a.eval x) (a.eval y)).run P G.w = .ok () G.w) (h : (binOp op t (a.eval x) (a.eval y)).run P G.w = .ok v G.w) :
    (execOp a.eval o).run P G.w = .ok (.value v) G.w := by
  simp only [execOp, ho, Sem.run_bind, hg, h, Result.andThen_ok, Sem.run_pure]

def plainV : Value → Bool
  | .agg _ => false
  | .nilIface => false
  | _ => true

theorem eqGuard_plain {op : BinOp} {t : TypeId} {x y : Operand} {v u : Value} (h : plainV v = true) : (eqGuard op t x y v u).run P G.w = .ok () G.w := by
  cases op <;> first | rfl | (cases v <;> simp [plainV] at h <;> cases u <;> rfl)

def eqV : Value → Bool
  | .slice _ _ _ => true
  | .pointer _ => true
  | .bool _ => true
  | .agg _ => true
  | _ => false

theorem run_eq_op {op : BinOp} {t : TypeId} {v u : Value} {b : Bool} {r : V} {kk : V → Prop} (hv : eqV v = true) (he : (Op.equalIn 10000 t v u).run P G.w = .ok b G.w) (hr : vOk G r (.bool b)) (hne : r ≠ .any) (h : denOp.eqOpK op r kk) :
    ∃ v' r', (binOp op t v u).run P G.w = .ok v' G.w ∧ vOk G r' v' ∧ kk r' := by
  cases op <;> simp only [denOp.eqOpK] at h
  · refine ⟨.bool b, r, ?_, hr, h⟩
    cases v <;> simp only [eqV, Bool.false_eq_true] at hv <;> simp [binOp, Op.equal, Op.maxDepth, he]
  · refine ⟨.bool !b, notV r, ?_, notV_ok hr hne, h⟩
    cases v <;> simp only [eqV, Bool.false_eq_true] at hv <;> simp [binOp, Op.equal, Op.maxDepth, he]

theorem run_str_op {op : BinOp} {t : TypeId} {x y : List UInt8} {kk : T → Prop}
    (h : match op with
      | .eql => kk (.v (.bool (decide (x = y))))
      | .neq => kk (.v (.bool (!decide (x = y))))
      | .lss => kk (.v (.bool (Op.bytesLess x y)))
      | .add => (x.length + y.length : Nat) ≤ maxLen ∧ kk (.v (.str (x ++ y)))
      | _ => False) :
    ∃ v' r', (binOp op t (.string ⟨⟨x⟩⟩) (.string ⟨⟨y⟩⟩)).run P G.w = .ok v' G.w ∧ vOk G r' v' ∧ kk (.v r') := by
  cases op <;> simp only at h
  case add =>
    refine ⟨.string ⟨⟨x ++ y⟩⟩, .str (x ++ y), ?_, rfl, h.2⟩
    · have h1 := h.1
      have : ¬ (((ByteArray.mk ⟨x⟩).size + (ByteArray.mk ⟨y⟩).size : Nat) : Int) > IntKind.i64.max := by
        have e1 : (ByteArray.mk ⟨x⟩).size = x.length := rfl
        have e2 : (ByteArray.mk ⟨y⟩).size = y.length := rfl
        rw [e1, e2]
        simp only [maxLen] at h1
        have : IntKind.i64.max = 9223372036854775807 := by decide
        omega
      simp only [binOp, Op.stringOp]
      rw [if_neg this]
      simp only [Sem.run_pure]
      congr 2
  case eql =>
    refine ⟨.bool (decide (x = y)), .bool (decide (x = y)), ?_, rfl, h⟩
    simp only [binOp, Op.stringOp, Sem.run_pure, ByteArray.toList_eq]
    congr 2
    rw [Bool.eq_iff_iff]
    simp
  case neq =>
    refine ⟨.bool (!decide (x = y)), .bool (!decide (x = y)), ?_, rfl, h⟩
    simp only [binOp, Op.stringOp, Sem.run_pure, ByteArray.toList_eq]
    congr 3
    rw [Bool.eq_iff_iff]
    simp
  case lss =>
    refine ⟨.bool (Op.bytesLess x y), .bool (Op.bytesLess x y), ?_, rfl, h⟩
    simp only [binOp, Op.stringOp, Sem.run_pure, ByteArray.toList_eq]

theorem ok_binOp (hE : EnvOk P E) {op : BinOp} {t : TypeId} {x y : Operand} {b : TypeId} (ho : o.op = .binOp op t x y b) (hm : Mdl w0 F0 G hp nx) (hf : frOk G fr a.tmps) (h0 : denOp E (.binOp op t x y b) fr hp nx k) : Goes P w0 F0 G o a k := by
  obtain ⟨tx, h1, hx⟩ := evalK_out hf h0
  obtain ⟨ty, h2, hy⟩ := evalK_out hf h1
  split at h2
  · next ik x' jk y' =>
    have hx : a.eval x = .int ik x' := hx
    have hy : a.eval y = .int jk y' := hy
    split at h2
    · obtain ⟨v, r, e1, e2, e3⟩ := run_shI (P := P) (G := G) (t := t) (jk := jk) h2
      rw [← hx, ← hy] at e1
      exact goes_v e3 hm e2 (run_binOp_of ho (eqGuard_plain (by rw [hx]; rfl)) e1)
    · split at h2
      · next he =>
        obtain rfl := eq_of_beq he
        obtain ⟨v, r, e1, e2, e3⟩ := run_binI (P := P) (G := G) (t := t) h2
        rw [← hx, ← hy] at e1
        exact goes_v e3 hm e2 (run_binOp_of ho (eqGuard_plain (by rw [hx]; rfl)) e1)
      · exact h2.elim
  · next x' y' =>
    have hx : a.eval x = .string ⟨⟨x'⟩⟩ := hx
    have hy : a.eval y = .string ⟨⟨y'⟩⟩ := hy
    obtain ⟨v, r, e1, e2, e3⟩ := run_str_op (P := P) (G := G) (t := t) (kk := fun t => k t hp nx) h2
    rw [← hx, ← hy] at e1
    exact goes_v e3 hm e2 (run_binOp_of ho (eqGuard_plain (by rw [hx]; rfl)) e1)
  · obtain ⟨ti, hti, h3⟩ := tyK_out h2
    have hty := hE.ty t ti hti
    have hund := hty.und
    have go : ∀ (v u : Value) (b : Bool) (r : V), a.eval x = v → a.eval y = u → eqV v = true → (eqGuard op t x y v u).run P G.w = .ok () G.w → (Op.equalIn 10000 t v u).run P G.w = .ok b G.w → vOk G r (.bool b) → r ≠ .any → denOp.eqOpK op r (fun r => k (.v r) hp nx) → Goes P w0 F0 G o a k := by
      intro v u b r e1 e2 hv hgu he hr hne hk
      obtain ⟨v', r', q1, q2, q3⟩ := run_eq_op (P := P) hv he hr hne hk
      rw [← e1, ← e2] at q1
      exact goes_v q3 hm q2 (run_binOp_of ho (by rw [e1, e2]; exact hgu) q1)
    have slnil : ∀ (A : Option Addr) (n c : Nat) (r : V), a.eval x = .slice A n c → a.eval y = .slice none 0 0 → (∃ e, ti.k = .sl e) → vOk G r (.bool A.isNone) → r ≠ .any → denOp.eqOpK op r (fun r => k (.v r) hp nx) → Goes P w0 F0 G o a k := by
      intro A n c r e1 e2 ⟨e, he⟩ hr hne hk
      rw [he] at hund
      exact go _ _ _ r e1 e2 rfl (eqGuard_plain rfl) (run_equalIn_slice_nil' G.w 9999 t e A n c hund) hr hne hk
    have ptnil : ∀ (p : Option Addr) (r : V), a.eval x = .pointer p → a.eval y = .pointer none → (∃ e, ti.k = .ptr e) → vOk G r (.bool p.isNone) → r ≠ .any → denOp.eqOpK op r (fun r => k (.v r) hp nx) → Goes P w0 F0 G o a k := by
      intro p r e1 e2 ⟨e, he⟩ hr hne hk
      rw [he] at hund
      exact go _ _ _ r e1 e2 rfl (eqGuard_plain rfl) (run_equalIn_pointer_nil G.w 9999 t p (by simp only [Program.pointee, hund])) hr hne hk
    split at h3
    · obtain ⟨h4, h5⟩ := slK_out h3
      exact slnil none 0 0 .tt hx hy h4 rfl (by simp) h5
    · next r _ _ =>
      obtain ⟨h4, h5⟩ := slK_out h3
      obtain ⟨c, hc, h6⟩ := lookK_out h5
      obtain ⟨bb, hr, hck⟩ := hm.chunk r c hc
      obtain ⟨b', k1, k2⟩ := tVal_of_v hx
      obtain rfl : bb = b' := Option.some.inj (hr.symm.trans k1)
      split at h6
      · next et e xs =>
        have hnn : 0 < xs.length → bb.nil = false := fun hp => by
          obtain ⟨A, c', e1, _, _, e2⟩ := own_row hck
          obtain ⟨b2, oo, css, e3, _⟩ := e2 hp
          rw [e3] at e1
          simp [B.val] at e1
          cases hb : bb.nil with
          | false => rfl
          | true => rw [hb] at e1; simp at e1
        have := h6 bb.nil hnn
        exact slnil _ _ _ (.bool bb.nil) k2 hy h4 (by cases bb.nil <;> rfl) (by simp) this
      · next et e xs =>
        have := h6 bb.nil (fun hp => (hck.2.2.2 (by rw [hck.1]; exact hp)).1)
        exact slnil _ _ _ (.bool bb.nil) k2 hy h4 (by cases bb.nil <;> rfl) (by simp) this
      · exact h6.elim
    · next e xs =>
      obtain ⟨h4, h5⟩ := slK_out h3
      obtain ⟨A, c, e1, e2, e3, e4⟩ := tVal_of_v hx
      simp at e1
      have := h5 A.isNone (fun hp => by obtain ⟨b, oo, css, q, _⟩ := e4 hp; rw [q]; rfl)
      exact slnil A _ c (.bool A.isNone) e1 hy h4 rfl (by simp) this
    · obtain ⟨h4, h5⟩ := ptrK_out h3
      exact ptnil none .tt hx hy h4 rfl (by simp) h5
    · obtain ⟨h4, h5⟩ := ptrK_out h3
      obtain ⟨b, k1, k2, k3⟩ := tVal_of_v hx
      exact ptnil _ .ff k3 hy h4 rfl (by simp) h5
    · obtain ⟨h4, h5⟩ := ptrK_out h3
      obtain ⟨_, b, oo, css, k3, _⟩ := tVal_of_v hx
      exact ptnil _ .ff k3 hy h4 rfl (by simp) h5
    · split at h3
      · next hb =>
        simp only [Bool.and_eq_true] at hb
        obtain ⟨⟨hb1, hb2⟩, hb3⟩ := hb
        obtain ⟨bb, r, q1, q2, q3, q4⟩ := eqT_run hE 9 t tx ty _ _ _ hb1 hb2 h3 hx hy 9990
        have hag : ∀ (x : T) (v : Value), denOp.eqTyOk ti x = true → tVal G x v → (∃ cs, v = .agg cs) ∧ ti.eqok = true ∨ ∃ b, v = .bool b := by
          intro x v h hv
          cases x with
          | v x =>
            obtain ⟨b, hb⟩ := Option.isSome_iff_exists.1 (show (boolV x).isSome = true from h)
            exact .inr ⟨b, boolV_ok hb hv⟩
          | tup _ => simp [denOp.eqTyOk] at h
          | nil => obtain ⟨cs, e, _⟩ := hv; exact .inl ⟨⟨_, e⟩, h⟩
          | cons _ _ => obtain ⟨cs, e, _⟩ := hv; exact .inl ⟨⟨_, e⟩, h⟩
          | arr _ _ _ => obtain ⟨cs, e, _⟩ := hv; exact .inl ⟨⟨_, e⟩, h⟩
        rcases hag tx _ hb3 hx with ⟨⟨cs, e1⟩, he⟩ | ⟨b, e1⟩
        · refine go _ _ bb r rfl rfl (by rw [e1]; rfl) ?_ q1 q2 q3 q4
          rw [e1]
          cases hu : a.eval y with
          | agg ds => exact run_eqGuard_agg G.w op t x y cs ds (hty.eqg he)
          | _ => cases op <;> rfl
        · exact go _ _ bb r rfl rfl (by rw [e1]; rfl) (eqGuard_plain (by rw [e1]; rfl)) q1 q2 q3 q4
      · exact h3.elim

theorem ok_convert (hE : EnvOk P E) {s t : TypeId} {x : Operand} (ho : o.op = .convert s t x) (hm : Mdl w0 F0 G hp nx) (hf : frOk G fr a.tmps) (h0 : denOp E (.convert s t x) fr hp nx k) : Goes P w0 F0 G o a k := by
  obtain ⟨tx, h1, hx⟩ := evalK_out hf h0
  obtain ⟨ya, hya, h2⟩ := tyK_out h1
  obtain ⟨yb, hyb, h3⟩ := tyK_out h2
  have ha := (hE.ty s ya hya).und
  have hb := (hE.ty t yb hyb).und
  split at h3
  · next k1 ik k2 n e1 e2 =>
    rw [e1] at ha
    rw [e2] at hb
    have hx : a.eval x = .int k2 n := hx
    exact goes_v h3 hm (v := .int ik (ik.wrap n)) rfl (by simp [execOp, ho, hx, convert, run_underlying ha, run_underlying hb, Conv.intToInt])
  · next e v e1 e2 =>
    obtain ⟨z, hz, h4⟩ := tyK_out h3
    rw [e1] at ha
    rw [e2] at hb
    have he := (hE.ty e z hz).und
    split at h4
    · next ik hk =>
      split at h4
      · next hik =>
        obtain rfl := eq_of_beq hik
        rw [hk] at he
        obtain ⟨xs, h5, A, c, q1, q2, q3, q4⟩ := rdK_out hm hx h4
        have hrun : (Conv.bytesToString (.slice A xs.length c)).run P G.w = .ok (.string ⟨⟨xs⟩⟩) G.w := by
          cases A with
          | none =>
            have : xs = [] := by
              cases xs with
              | nil => rfl
              | cons y ys => obtain ⟨b, oo, css, e, _⟩ := q4 (by simp); cases e
            subst this
            rfl
          | some ad =>
            have hld : (loadCells ad xs.length).run P G.w = .ok ((xs.map fun x => (x.toNat : Int)).map (Value.int .u8)).toArray G.w := by
              have := run_loadCells_list (P := P) G.w ad ((xs.map fun x => (x.toNat : Int)).map (Value.int .u8)) (fun j v hj => by
                have hlt : 0 < xs.length := by
                  have := (List.getElem?_eq_some_iff.1 hj).1
                  simp at this
                  omega
                obtain ⟨b, oo, css, e, k1, k2⟩ := q4 hlt
                simp at e
                subst e
                have k3 := scal_list (by rfl) k2
                have := k1 j v (by rw [k3]; rw [← hj, List.map_map]; rfl)
                simpa [Addr.add_mid] using this)
              simpa using this
            rw [run_bytesToString G.w ad xs.length c _ hld]
            congr 2
            have : ∀ (l : List UInt8) (acc : ByteArray), (l.map fun x => (x.toNat : Int)).foldl (fun (r : ByteArray) (n : Int) => r.push (UInt8.ofNat n.toNat)) acc = ⟨⟨acc.data.toList ++ l⟩⟩ := by
              intro l
              induction l with
              | nil => intro acc; simp
              | cons x l ih =>
                intro acc
                rw [List.map_cons, List.foldl_cons, ih]
                simp
            rw [this]
            simp
        refine goes_v h5 hm (v := .string ⟨⟨xs⟩⟩) rfl ?_
        simp only [execOp, ho, q1, run_convert_bytes_string (P := P) G.w s t e A xs.length c ha he hb, hrun, Sem.run_bind, Result.andThen_ok, Sem.run_pure]
      · exact h4.elim
    · exact h4.elim
  · exact h3.elim

theorem callK_out {kk : (List T → Hp → Nat → (T → Hp → Nat → Prop) → Prop) → Prop} : ∀ {l : List (Nat × (List T → Hp → Nat → (T → Hp → Nat → Prop) → Prop))} {f : FuncId}, denOp.callK l f kk → ∃ g, (f, g) ∈ l ∧ kk g
  | [], _, h => h.elim
  | (f', g) :: l, f, h => by
    unfold denOp.callK at h
    split at h
    · next hb =>
      obtain rfl := nat_beq_eq hb
      exact ⟨g, by simp, h⟩
    · obtain ⟨g', h1, h2⟩ := callK_out h
      exact ⟨g', by simp [h1], h2⟩

theorem frOk_cons {t : T} {ts : List T} {v : Value} {vs : List Value} : frOk G (t :: ts) ⟨v :: vs⟩ ↔ tVal G t v ∧ frOk G ts ⟨vs⟩ := by
  constructor
  · rintro ⟨h1, h2⟩
    refine ⟨?_, by simpa using h1, fun i u hu => ?_⟩
    · obtain ⟨v', e, hv⟩ := h2 0 t rfl
      simp at e
      rw [e]
      exact hv
    · obtain ⟨v', e, hv⟩ := h2 (i + 1) u (by simpa using hu)
      exact ⟨v', by simpa using e, hv⟩
  · rintro ⟨h1, h2, h3⟩
    refine ⟨by simpa using h2, fun i u hu => ?_⟩
    cases i with
    | zero => simp at hu; subst hu; exact ⟨v, by simp, h1⟩
    | succ i => obtain ⟨v', e, hv⟩ := h3 i u (by simpa using hu); exact ⟨v', by simpa using e, hv⟩

/-- A call, once its arguments are known. -/
theorem call_goes (hE : EnvOk P E) {f : FuncId} {g : List T → Hp → Nat → (T → Hp → Nat → Prop) → Prop} {ts : List T} {vs : List Value} (hg : (f, g) ∈ E.call) (hm : Mdl w0 F0 G hp nx) (hts : frOk G ts ⟨vs⟩) (h2 : g ts hp nx k)
    (hx : (execOp a.eval o).run P G.w = (callFunc f ⟨vs⟩).run P G.w) : Goes P w0 F0 G o a k := by
  rcases hE.call f g hg with ⟨⟨fn, q1, q2, q3⟩, hc⟩ | hc
  · have hcall := hc w0 F0 G hp nx ts _ k hm hts h2
    have hrun : (execOp a.eval o).run P G.w = .ok (.enter f ⟨vs⟩) G.w := by
      have q4 : fn.name ≠ "runtime.NumGoroutine" := by simpa using q2
      have q5 : fn.body.isSome = true := by cases hb : fn.body <;> simp [hb] at q3 ⊢
      obtain ⟨body, q6⟩ := Option.isSome_iff_exists.1 q5
      rw [hx]
      simp [callFunc, q1, q4, q6]
    intro next Q hn
    unfold Oper.wp
    rw [hrun, Oper.upon_enter]
    intro cs
    obtain ⟨e, w', fr', ⟨G', x, v, hp', nx', rfl, rfl, r3, r4, r5, r6⟩, r7, r8⟩ := hcall cs
    exact ⟨_, _, fr', hn G' x v hp' nx' r3 r4 r5 r6, r7, r8⟩
  · obtain ⟨v, G', x, hp', nx', r1, r2, r3, r4, r5⟩ := hc w0 F0 G hp nx ts vs k hm hts h2
    exact goes_world (hx.trans r1) r2 r3 r4 r5
theorem args_list (l : Array Operand) : l.map a.eval = ⟨l.toList.map a.eval⟩ := by apply Array.ext'; simp
theorem ok_call (hE : EnvOk P E) {c : Call} {f : FuncId} (ho : o.op = .call c) (hc : c.callee = .value (.func f)) (hm : Mdl w0 F0 G hp nx) (hf : frOk G fr a.tmps) (h0 : denOp E (.call c) fr hp nx k) : Goes P w0 F0 G o a k := by
  simp only [denOp, hc] at h0
  obtain ⟨g, hg, h1⟩ := callK_out h0
  obtain ⟨ts, h2, hts⟩ := evalsK_out hf h1
  refine call_goes hE hg hm hts h2 ?_
  rw [← args_list]
  simp [execOp, ho, resolve, hc, Act.eval, Deferred.ofValue, invoke]
theorem addCaps_ok {cs : List Nat} {ps : List Value} (hc : capOk G cs ps) : ∀ {ts : List T} {vs : List Value}, frOk G ts ⟨vs⟩ → frOk G (addCaps cs ts) ⟨vs ++ ps⟩
  | [], vs, h => by
    have hv : vs = [] := by have := h.1; simp at this; exact List.eq_nil_of_length_eq_zero this.symm
    subst hv
    rw [List.nil_append]
    show frOk G (addCaps.caps cs) ⟨ps⟩
    clear h
    induction cs generalizing ps with
    | nil =>
      obtain rfl := hc
      exact ⟨rfl, fun i t h => by simp [addCaps.caps] at h⟩
    | cons r cs ih =>
      obtain ⟨p, ps', rfl, h1, h2⟩ := hc
      exact frOk_cons.2 ⟨h1, ih h2⟩
  | t :: ts, vs, h => by
    cases vs with
    | nil => have := h.1; simp at this
    | cons v vs =>
      obtain ⟨h1, h2⟩ := frOk_cons.1 h
      exact frOk_cons.2 ⟨h1, addCaps_ok hc h2⟩
theorem ok_callv (hE : EnvOk P E) {c : Call} {x : Tmp} (ho : o.op = .call c) (hc : c.callee = .value (.tmp x)) (hm : Mdl w0 F0 G hp nx) (hf : frOk G fr a.tmps) (h0 : denOp E (.call c) fr hp nx k) : Goes P w0 F0 G o a k := by
  simp only [denOp, hc] at h0
  obtain ⟨t, h1, ht⟩ := evalK_out (x := .tmp x) hf h0
  split at h1
  · next f cs =>
    obtain ⟨g, hg, h2⟩ := callK_out h1
    obtain ⟨ts, h3, hts⟩ := evalsK_out hf h2
    obtain ⟨ps, e1, e2⟩ := ht
    refine call_goes hE hg hm (addCaps_ok e2 hts) h3 ?_
    have : (⟨c.args.toList.map a.eval ++ ps⟩ : Array Value) = c.args.map a.eval ++ (⟨ps⟩ : Array Value) := by apply Array.ext'; simp
    rw [this]
    simp [execOp, ho, resolve, hc, Deferred.ofValue, invoke, e1]
  · exact h1.elim
theorem capsK_out : ∀ {ts : List T} {vs : List Value} {kk : List Nat → Prop}, frOk G ts ⟨vs⟩ → capsK ts kk → ∃ c, kk c ∧ capOk G c vs
  | [], vs, _, hf, h => by
    have hv : vs = [] := by have := hf.1; simp at this; exact List.eq_nil_of_length_eq_zero this.symm
    exact ⟨[], h, hv⟩
  | t :: ts, vs, _, hf, h => by
    cases vs with
    | nil => have := hf.1; simp at this
    | cons v vs =>
      obtain ⟨h1, h2⟩ := frOk_cons.1 hf
      unfold capsK at h
      split at h
      · cases ‹_ = [] ›
      · next heq =>
        cases heq
        obtain ⟨c, k1, k2⟩ := capsK_out h2 h
        exact ⟨_, k1, v, vs, rfl, h1, k2⟩
      · exact h.elim
theorem ok_makeFunc {fn : Fn} {first cap : Array Operand} (ho : o.op = .makeFunc fn first cap) (hm : Mdl w0 F0 G hp nx) (hf : frOk G fr a.tmps) (h0 : denOp E (.makeFunc fn first cap) fr hp nx k) : Goes P w0 F0 G o a k := by
  simp only [denOp] at h0
  split at h0
  · next f hfirst =>
    obtain ⟨ts, h1, hts⟩ := evalsK_out hf h0
    obtain ⟨c, h2, h3⟩ := capsK_out hts h1
    have hfi : first = #[] := by apply Array.ext'; exact hfirst
    refine goes_value (v := .func (.func f) #[] ⟨cap.toList.map a.eval⟩) ?_ hm (x := .v (.fn f c)) ⟨_, rfl, h3⟩ h2
    rw [← args_list]
    subst hfi
    simp [execOp, ho, Instr.makeFunc]
  · exact h0.elim

/-- Every operation. -/
theorem op_ok (hE : EnvOk P E) (hm : Mdl w0 F0 G hp nx) (hf : frOk G fr a.tmps) (h : denOp E o.op fr hp nx k) : Goes P w0 F0 G o a k := by
  cases ho : o.op <;> rw [ho] at h
  case move => exact ok_move (.inl ho) hm hf h
  case assign => exact ok_move (.inr ho) hm hf h
  case pick => exact ok_pick ho hm hf h
  case alloc => exact ok_alloc hE ho hm h
  case box => exact ok_box hE ho hm hf h
  case build => exact ok_build hE ho hm hf h
  case buildSlice => exact ok_buildSlice hE ho hm hf h
  case load => exact ok_load hE ho hm hf h
  case store => exact ok_store hE ho hm hf h
  case nilCheck => exact ok_nilCheck ho hm hf h
  case binOp => exact ok_binOp hE ho hm hf h
  case unOp => exact ok_unOp ho hm hf h
  case convert => exact ok_convert hE ho hm hf h
  case makeSlice => exact ok_makeSlice hE ho hm hf h
  case slice => exact ok_slice hE ho hm hf h
  case fieldAddr => exact ok_fieldAddr hE ho hm hf h
  case field => exact ok_field hE ho hm hf h
  case indexAddr => exact ok_indexAddr hE ho hm hf h
  case index => exact ok_index hE ho hm hf h
  case extract => exact ok_extract ho hm hf h
  case makeFunc => exact ok_makeFunc ho hm hf h
  case call c =>
    cases hc : c.callee with
    | builtin b =>
      cases b
      case append => exact ok_append hE ho hc hm hf h
      case copy => exact ok_copy hE ho hc hm hf h
      case len => exact ok_len hE ho hc hm hf h
      case min => exact ok_min ho hc hm hf h
      case max => exact ok_max ho hc hm hf h
      all_goals (simp only [denOp, hc] at h)
    | value x =>
      cases x with
      | func f => exact ok_call hE ho hc hm hf h
      | tmp y => exact ok_callv hE ho hc hm hf h
      | _ => simp only [denOp, hc] at h
    | invoke _ _ => simp only [denOp, hc] at h
  all_goals exact h.elim

end
end Go.J

