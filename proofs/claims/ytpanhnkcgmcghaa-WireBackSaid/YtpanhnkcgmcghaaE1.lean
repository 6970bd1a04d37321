/-
  THE ENGINE, part 1: values that are told apart from addresses, and how they lie in memory.
-/
import Derived.WalkKit
import Derived.WalkSpells
import Derived.WalkLawsBesides
set_option linter.unusedSimpArgs false
set_option linter.unusedVariables false
set_option linter.unusedSectionVars false

namespace Go.J

/-- What an element of a slice, or a field, is. -/
inductive El where
  | u8 | int (k : IntKind) | bool | str | rd (e : El) | nil | cons (e es : El) | ar (n : Nat) (e : El)

@[reducible] def El.ty : El → Type
  | .u8 => UInt8
  | .int _ => Int
  | .bool => Bool
  | .str => List UInt8
  | .rd e => List e.ty
  | .nil => Unit
  | .cons e es => e.ty × es.ty
  | .ar _ e => List e.ty

def El.sz : El → Nat
  | .u8 => 1
  | .int _ => 1
  | .bool => 1
  | .str => 1
  | .rd _ => 1
  | .nil => 0
  | .cons e es => e.sz + es.sz
  | .ar n e => n * e.sz

def El.dflt : (e : El) → e.ty
  | .u8 => (0 : UInt8)
  | .int _ => (0 : Int)
  | .bool => false
  | .str => ([] : List UInt8)
  | .rd e => ([] : List e.ty)
  | .nil => ()
  | .cons e es => (e.dflt, es.dflt)
  | .ar n e => List.replicate n e.dflt

/-- A step into a struct's field (its number, its offset), or an array's element (its number, its size). -/
inductive Stp where
  | f (i o : Nat)
  | x (i sz : Nat)

def poff : List Stp → Nat
  | [] => 0
  | .f _ o :: p => o + poff p
  | .x i sz :: p => i * sz + poff p

/-- A value of one cell. Blocks of the call's own have numbers of ours (r). -/
inductive V where
  | any
  | int (k : IntKind) (n : Int)
  | tt
  | ff
  | bool (b : Bool)
  | str (s : List UInt8)
  | nilp
  | ptr (r : Nat) (p : List Stp)
  | rp (e : El) (xs : List e.ty) (i : Nat) (p : List Stp)
  | nils
  | rd (e : El) (xs : List e.ty)
  | own (r : Nat)
  | sl (r : Nat) (p : List Stp) (off len sz : Nat)
  | fn (f : FuncId) (c : List Nat)

/-- A value: one cell, or a struct (nil, cons), or an array. -/
inductive T where
  | v (x : V)
  | nil
  | cons (t ts : T)
  | arr (e : El) (xs : List e.ty) (n : Nat)
  | tup (ts : T)

def T.size : T → Nat
  | .v _ => 1
  | .nil => 0
  | .cons t ts => t.size + ts.size
  | .arr e _ n => n * e.sz
  | .tup _ => 0

def El.enc : (e : El) → e.ty → T
  | .u8, x => .v (.int .u8 x.toNat)
  | .int k, n => .v (.int k n)
  | .bool, b => .v (.bool b)
  | .str, s => .v (.str s)
  | .rd e, xs => .v (.rd e xs)
  | .nil, _ => .nil
  | .cons e es, (x, y) => .cons (e.enc x) (es.enc y)
  | .ar n e, xs => .arr e xs n

theorem El.size_enc : (e : El) → (x : e.ty) → (e.enc x).size = e.sz
  | .u8, _ => rfl
  | .int _, _ => rfl
  | .bool, _ => rfl
  | .str, _ => rfl
  | .rd _, _ => rfl
  | .nil, _ => rfl
  | .cons e es, x => by simp [El.enc, T.size, El.sz, El.size_enc e, El.size_enc es]
  | .ar _ _, _ => rfl

/-- A block of the call's own: own: its cells, all; row: it grows; fz: a row that nobody writes any more. -/
inductive Chunk where
  | own (t : T)
  | row (ty : TypeId) (e : El) (xs : List e.ty)
  | fz (ty : TypeId) (e : El) (xs : List e.ty)

/-- Where a block of ours lies. -/
structure B where
  blk : Nat
  nil : Bool
  len : Nat
  cap : Nat

/-- What the numbers of ours stand for; which blocks nobody writes; the world. -/
structure Cx where
  rho : Nat → Option B
  im : Nat → Prop
  w : World

def cellsAt (w : World) (b o : Nat) (cs : List Value) : Prop := ∀ j v, cs[j]? = some v → w.cell? ⟨b, o + j, none⟩ = some v

def listOf {α : Type} (R : α → List Value → Prop) : List α → List Value → Prop
  | [], cs => cs = []
  | x :: xs, cs => ∃ c1 c2, cs = c1 ++ c2 ∧ R x c1 ∧ listOf R xs c2

/-- These cells hold that element. -/
def cellsOf (im : Nat → Prop) (w : World) : (e : El) → e.ty → List Value → Prop
  | .u8, x, cs => cs = [.int .u8 x.toNat]
  | .int k, n, cs => cs = [.int k n]
  | .bool, b, cs => cs = [.bool b]
  | .str, s, cs => cs = [.string ⟨⟨s⟩⟩]
  | .rd e, xs, cs => ∃ A c, cs = [.slice A xs.length c] ∧ xs.length ≤ c ∧ c ≤ maxLen ∧
      (0 < xs.length → ∃ b o css, A = some ⟨b, o, none⟩ ∧ im b ∧ b < w.heap.size ∧ cellsAt w b o css ∧ listOf (cellsOf im w e) xs css)
  | .nil, _, cs => cs = []
  | .cons e es, x, cs => ∃ c1 c2, cs = c1 ++ c2 ∧ cellsOf im w e x.1 c1 ∧ cellsOf im w es x.2 c2
  | .ar n e, xs, cs => xs.length = n ∧ listOf (cellsOf im w e) xs cs

def vOk (G : Cx) : V → Value → Prop
  | .any, _ => True
  | .int k n, v => v = .int k n
  | .tt, v => v = .bool true
  | .ff, v => v = .bool false
  | .bool b, v => v = .bool b
  | .str s, v => v = .string ⟨⟨s⟩⟩
  | .nilp, v => v = .pointer none
  | .ptr r p, v => ∃ b, G.rho r = some b ∧ b.nil = false ∧ v = .pointer (some ⟨b.blk, poff p, none⟩)
  | .rp e xs i p, v => i < xs.length ∧ ∃ b o css, v = .pointer (some ⟨b, o + i * e.sz + poff p, none⟩) ∧ G.im b ∧ b < G.w.heap.size ∧ cellsAt G.w b o css ∧ listOf (cellsOf G.im G.w e) xs css
  | .nils, v => v = .slice none 0 0
  | .rd e xs, v => cellsOf G.im G.w (.rd e) xs [v]
  | .own r, v => ∃ b, G.rho r = some b ∧ v = .slice (if b.nil then none else some ⟨b.blk, 0, none⟩) b.len b.cap
  | .sl r p off len sz, v => ∃ b c A, G.rho r = some b ∧ len ≤ c ∧ c ≤ maxLen ∧ v = .slice A len c ∧ (0 < len → b.nil = false ∧ A = some ⟨b.blk, poff p + off * sz, none⟩)
  | .fn f c, v => c = [] ∧ v = .func (.func f) #[] #[]

def one (v : Value) : Prop := v.oneCell' = true

/-- These cells hold that value. -/
def tCells (G : Cx) : T → List Value → Prop
  | .v x, cs => ∃ c, cs = [c] ∧ one c ∧ vOk G x c
  | .nil, cs => cs = []
  | .cons t ts, cs => ∃ c1 c2, cs = c1 ++ c2 ∧ tCells G t c1 ∧ tCells G ts c2
  | .arr e xs n, cs => xs.length = n ∧ listOf (cellsOf G.im G.w e) xs cs
  | .tup _, _ => False

/-- The value itself, in a slot. -/
def tVal1 (G : Cx) : T → Value → Prop
  | .v x, v => vOk G x v
  | .tup _, _ => False
  | t, v => ∃ cs : List Value, v = .agg ⟨cs⟩ ∧ tCells G t cs

/-- Results, one behind the other. -/
def tTup (G : Cx) : T → List Value → Prop
  | .nil, vs => vs = []
  | .cons t ts, vs => ∃ v vs', vs = v :: vs' ∧ tVal1 G t v ∧ tTup G ts vs'
  | _, _ => False

def tVal (G : Cx) : T → Value → Prop
  | .tup ts, v => ∃ vs : List Value, v = .tuple ⟨vs⟩ ∧ tTup G ts vs
  | t, v => tVal1 G t v

structure Ext (G G' : Cx) : Prop where
  rho : ∀ r b, G.rho r = some b → G'.rho r = some b
  im : ∀ b, G.im b → G'.im b
  keep : ∀ b, G.im b → G'.w.heap[b]? = G.w.heap[b]?
  size : G.w.heap.size ≤ G'.w.heap.size

theorem Ext.refl (G : Cx) : Ext G G := ⟨fun _ _ h => h, fun _ h => h, fun _ _ => rfl, Nat.le_refl _⟩
theorem Ext.trans {G G' G2 : Cx} (h : Ext G G') (k : Ext G' G2) : Ext G G2 :=
  ⟨fun r b e => k.rho r b (h.rho r b e), fun b e => k.im b (h.im b e), fun b e => (k.keep b (h.im b e)).trans (h.keep b e), Nat.le_trans h.size k.size⟩

theorem cellsAt.keep {w w' : World} {b o : Nat} {cs : List Value} (h : cellsAt w b o cs) (hk : w'.heap[b]? = w.heap[b]?) : cellsAt w' b o cs :=
  fun j v hv => (World.cell?_of_block (w := w) (a := ⟨b, o + j, none⟩) hk).trans (h j v hv)

theorem listOf.mono {α : Type} {R R' : α → List Value → Prop} (h : ∀ x cs, R x cs → R' x cs) : ∀ (xs : List α) (cs : List Value), listOf R xs cs → listOf R' xs cs
  | [], _, hh => hh
  | _ :: xs, _, ⟨c1, c2, e, h1, h2⟩ => ⟨c1, c2, e, h _ _ h1, listOf.mono h xs c2 h2⟩

theorem cellsOf.mono {im im' : Nat → Prop} {w w' : World} (h1 : ∀ b, im b → im' b) (h2 : ∀ b, im b → w'.heap[b]? = w.heap[b]?) (h3 : w.heap.size ≤ w'.heap.size) :
    ∀ (e : El) (x : e.ty) (cs : List Value), cellsOf im w e x cs → cellsOf im' w' e x cs
  | .u8, _, _, h => h
  | .int _, _, _, h => h
  | .bool, _, _, h => h
  | .str, _, _, h => h
  | .rd e, _, _, ⟨A, c, e1, e2, e3, h⟩ => ⟨A, c, e1, e2, e3, fun hp => by
      obtain ⟨b, o, css, k1, k2, k3, k4, k5⟩ := h hp
      exact ⟨b, o, css, k1, h1 b k2, Nat.lt_of_lt_of_le k3 h3, k4.keep (h2 b k2), listOf.mono (fun x cs => cellsOf.mono h1 h2 h3 e x cs) _ _ k5⟩⟩
  | .nil, _, _, h => h
  | .cons e es, x, _, ⟨c1, c2, e1, k1, k2⟩ => ⟨c1, c2, e1, cellsOf.mono h1 h2 h3 e x.1 c1 k1, cellsOf.mono h1 h2 h3 es x.2 c2 k2⟩
  | .ar _ e, _, _, ⟨h, k⟩ => ⟨h, listOf.mono (fun x cs => cellsOf.mono h1 h2 h3 e x cs) _ _ k⟩

theorem Ext.cellsOf {G G' : Cx} (h : Ext G G') {e : El} {x : e.ty} {cs : List Value} (hc : cellsOf G.im G.w e x cs) : cellsOf G'.im G'.w e x cs :=
  cellsOf.mono h.im h.keep h.size e x cs hc
theorem Ext.listOf {G G' : Cx} (h : Ext G G') {e : El} {xs : List e.ty} {cs : List Value} (hc : listOf (J.cellsOf G.im G.w e) xs cs) : listOf (J.cellsOf G'.im G'.w e) xs cs :=
  listOf.mono (fun _ _ k => h.cellsOf k) _ _ hc

theorem Ext.vOk {G G' : Cx} (h : Ext G G') : ∀ {x : V} {v : Value}, vOk G x v → vOk G' x v
  | .any, _, k => k
  | .int _ _, _, k => k
  | .tt, _, k => k
  | .ff, _, k => k
  | .bool _, _, k => k
  | .str _, _, k => k
  | .nilp, _, k => k
  | .ptr _ _, _, ⟨b, e1, e2⟩ => ⟨b, h.rho _ _ e1, e2⟩
  | .rp _ _ _ _, _, ⟨e0, b, o, css, e1, e2, e3, e4, e5⟩ => ⟨e0, b, o, css, e1, h.im _ e2, Nat.lt_of_lt_of_le e3 h.size, e4.keep (h.keep _ e2), h.listOf e5⟩
  | .nils, _, k => k
  | .rd _ _, _, k => h.cellsOf k
  | .own _, _, ⟨b, e1, e2⟩ => ⟨b, h.rho _ _ e1, e2⟩
  | .sl _ _ _ _ _, _, ⟨b, c, A, e1, e2⟩ => ⟨b, c, A, h.rho _ _ e1, e2⟩
  | .fn _ _, _, k => k

theorem Ext.tCells {G G' : Cx} (h : Ext G G') : ∀ {t : T} {cs : List Value}, tCells G t cs → tCells G' t cs
  | .v _, _, ⟨c, e1, e2, e3⟩ => ⟨c, e1, e2, h.vOk e3⟩
  | .nil, _, k => k
  | .cons _ _, _, ⟨c1, c2, e1, k1, k2⟩ => ⟨c1, c2, e1, h.tCells k1, h.tCells k2⟩
  | .arr _ _ _, _, ⟨k1, k2⟩ => ⟨k1, h.listOf k2⟩

theorem Ext.tVal1 {G G' : Cx} (h : Ext G G') : ∀ {t : T} {v : Value}, tVal1 G t v → tVal1 G' t v
  | .v _, _, k => h.vOk k
  | .nil, _, ⟨cs, e, k⟩ => ⟨cs, e, h.tCells k⟩
  | .cons _ _, _, ⟨cs, e, k⟩ => ⟨cs, e, h.tCells k⟩
  | .arr _ _ _, _, ⟨cs, e, k⟩ => ⟨cs, e, h.tCells k⟩

theorem Ext.tTup {G G' : Cx} (h : Ext G G') : ∀ {t : T} {vs : List Value}, tTup G t vs → tTup G' t vs
  | .nil, _, k => k
  | .cons _ _, _, ⟨v, vs, e, k1, k2⟩ => ⟨v, vs, e, h.tVal1 k1, h.tTup k2⟩

theorem Ext.tVal {G G' : Cx} (h : Ext G G') : ∀ {t : T} {v : Value}, tVal G t v → tVal G' t v
  | .v _, _, k => h.vOk k
  | .nil, _, ⟨cs, e, k⟩ => ⟨cs, e, h.tCells k⟩
  | .cons _ _, _, ⟨cs, e, k⟩ => ⟨cs, e, h.tCells k⟩
  | .arr _ _ _, _, ⟨cs, e, k⟩ => ⟨cs, e, h.tCells k⟩
  | .tup _, _, ⟨vs, e, k⟩ => ⟨vs, e, h.tTup k⟩

/-! Sizes. -/
theorem listOf.length {α : Type} {R : α → List Value → Prop} {n : Nat} (h : ∀ x cs, R x cs → cs.length = n) : ∀ (xs : List α) (cs : List Value), listOf R xs cs → cs.length = xs.length * n
  | [], _, hh => by simp [listOf] at hh; simp [hh]
  | x :: xs, _, ⟨c1, c2, e, h1, h2⟩ => by
    have := h _ _ h1
    have := listOf.length h xs c2 h2
    subst e
    simp [List.length_append, Nat.add_mul]
    omega

theorem cellsOf.length {im : Nat → Prop} {w : World} : ∀ (e : El) (x : e.ty) (cs : List Value), cellsOf im w e x cs → cs.length = e.sz
  | .u8, _, _, h => by simp [cellsOf] at h; simp [h, El.sz]
  | .int _, _, _, h => by simp [cellsOf] at h; simp [h, El.sz]
  | .bool, _, _, h => by simp [cellsOf] at h; simp [h, El.sz]
  | .str, _, _, h => by simp [cellsOf] at h; simp [h, El.sz]
  | .rd e, _, _, ⟨A, c, e1, _⟩ => by simp [e1, El.sz]
  | .nil, _, _, h => by simp [cellsOf] at h; simp [h, El.sz]
  | .cons e es, x, _, ⟨c1, c2, e1, k1, k2⟩ => by
    have := cellsOf.length e x.1 c1 k1
    have := cellsOf.length es x.2 c2 k2
    simp [e1, El.sz]; omega
  | .ar n e, xs, cs, ⟨h, k⟩ => by
    have := listOf.length (fun x cs => cellsOf.length e x cs) xs cs k
    simp [El.sz, this, h]

theorem tCells.length {G : Cx} : ∀ {t : T} {cs : List Value}, tCells G t cs → cs.length = t.size
  | .v _, _, ⟨c, e1, _⟩ => by simp [e1, T.size]
  | .nil, _, k => by simp [tCells] at k; simp [k, T.size]
  | .cons _ _, _, ⟨c1, c2, e1, k1, k2⟩ => by
    have := tCells.length k1
    have := tCells.length k2
    simp [e1, T.size]; omega
  | .arr e xs n, cs, ⟨k1, k2⟩ => by
    have := listOf.length (fun x cs => cellsOf.length e x cs) xs cs k2
    simp [T.size, this, k1]

/-! An element's cells, as a value's. -/
theorem listOf.one {α : Type} {R : α → List Value → Prop} (h : ∀ x cs, R x cs → ∀ c ∈ cs, J.one c) : ∀ (xs : List α) (cs : List Value), listOf R xs cs → ∀ c ∈ cs, J.one c
  | [], _, hh => by simp [listOf] at hh; simp [hh]
  | x :: xs, _, ⟨c1, c2, e, h1, h2⟩ => by
    subst e
    intro c hc
    rcases List.mem_append.1 hc with hc | hc
    · exact h _ _ h1 c hc
    · exact listOf.one h xs c2 h2 c hc

theorem cellsOf.one {im : Nat → Prop} {w : World} : ∀ (e : El) (x : e.ty) (cs : List Value), cellsOf im w e x cs → ∀ c ∈ cs, J.one c
  | .u8, _, _, h => by simp [cellsOf] at h; simp [h, J.one, Value.oneCell']
  | .int _, _, _, h => by simp [cellsOf] at h; simp [h, J.one, Value.oneCell']
  | .bool, _, _, h => by simp [cellsOf] at h; simp [h, J.one, Value.oneCell']
  | .str, _, _, h => by simp [cellsOf] at h; simp [h, J.one, Value.oneCell']
  | .rd e, _, _, ⟨A, c, e1, _⟩ => by simp [e1, J.one, Value.oneCell']
  | .nil, _, _, h => by simp [cellsOf] at h; simp [h]
  | .cons e es, x, _, ⟨c1, c2, e1, k1, k2⟩ => by
    subst e1
    intro c hc
    rcases List.mem_append.1 hc with hc | hc
    · exact cellsOf.one e x.1 c1 k1 c hc
    · exact cellsOf.one es x.2 c2 k2 c hc
  | .ar n e, xs, cs, ⟨h, k⟩ => listOf.one (fun x cs => cellsOf.one e x cs) xs cs k

theorem tCells.one {G : Cx} : ∀ {t : T} {cs : List Value}, tCells G t cs → ∀ c ∈ cs, J.one c
  | .v _, _, ⟨c, e1, e2, _⟩ => by subst e1; simpa using e2
  | .nil, _, k => by simp [tCells] at k; simp [k]
  | .cons _ _, _, ⟨c1, c2, e1, k1, k2⟩ => by
    subst e1
    intro c hc
    rcases List.mem_append.1 hc with hc | hc
    · exact tCells.one k1 c hc
    · exact tCells.one k2 c hc
  | .arr e xs n, cs, ⟨k1, k2⟩ => listOf.one (fun x cs => cellsOf.one e x cs) xs cs k2

theorem tCells_enc {G : Cx} : ∀ (e : El) (x : e.ty) (cs : List Value), tCells G (e.enc x) cs ↔ cellsOf G.im G.w e x cs
  | .u8, n, cs => by
    constructor
    · rintro ⟨c, rfl, _, h⟩; simp [vOk] at h; simp [cellsOf, h]
    · intro h; exact ⟨_, h, rfl, rfl⟩
  | .int k, n, cs => by
    constructor
    · rintro ⟨c, rfl, _, h⟩; simp [vOk] at h; simp [cellsOf, h]
    · intro h; exact ⟨_, h, rfl, rfl⟩
  | .bool, n, cs => by
    constructor
    · rintro ⟨c, rfl, _, h⟩; simp [vOk] at h; simp [cellsOf, h]
    · intro h; exact ⟨_, h, rfl, rfl⟩
  | .str, n, cs => by
    constructor
    · rintro ⟨c, rfl, _, h⟩; simp [vOk] at h; simp [cellsOf, h]
    · intro h; exact ⟨_, h, rfl, rfl⟩
  | .rd e, xs, cs => by
    constructor
    · rintro ⟨c, rfl, _, h⟩; exact h
    · intro h
      obtain ⟨A, c, e1, _⟩ := id h
      subst e1
      exact ⟨_, rfl, rfl, h⟩
  | .nil, _, cs => Iff.rfl
  | .cons e es, x, cs => by
    constructor
    · rintro ⟨c1, c2, e1, k1, k2⟩; exact ⟨c1, c2, e1, (tCells_enc e x.1 c1).1 k1, (tCells_enc es x.2 c2).1 k2⟩
    · rintro ⟨c1, c2, e1, k1, k2⟩; exact ⟨c1, c2, e1, (tCells_enc e x.1 c1).2 k1, (tCells_enc es x.2 c2).2 k2⟩
  | .ar n e, xs, cs => Iff.rfl

theorem listOf_append {α : Type} {R : α → List Value → Prop} : ∀ {xs ys : List α} {cs ds : List Value}, listOf R xs cs → listOf R ys ds → listOf R (xs ++ ys) (cs ++ ds)
  | [], _, _, _, h, k => by simp [listOf] at h; subst h; simpa using k
  | x :: xs, _, _, _, ⟨c1, c2, e, h1, h2⟩, k => by
    subst e
    exact ⟨c1, c2 ++ _, by simp, h1, listOf_append h2 k⟩

/-- The cells of the elements from i on. -/
theorem listOf_drop {α : Type} {R : α → List Value → Prop} {n : Nat} (hn : ∀ x cs, R x cs → cs.length = n) : ∀ {xs : List α} {cs : List Value} (i : Nat), listOf R xs cs → listOf R (xs.drop i) (cs.drop (i * n))
  | [], cs, i, h => by simp [listOf] at h; subst h; simp [listOf]
  | x :: xs, cs, 0, h => by simpa using h
  | x :: xs, cs, i + 1, ⟨c1, c2, e, h1, h2⟩ => by
    subst e
    have h3 := hn _ _ h1
    have h4 := listOf_drop hn i h2
    rw [List.drop_succ_cons, Nat.succ_mul, Nat.add_comm, ← List.drop_drop, List.drop_append, List.drop_eq_nil_of_le (Nat.le_of_eq h3), h3]
    simpa using h4

theorem listOf_take {α : Type} {R : α → List Value → Prop} {n : Nat} (hn : ∀ x cs, R x cs → cs.length = n) : ∀ {xs : List α} {cs : List Value} (i : Nat), listOf R xs cs → listOf R (xs.take i) (cs.take (i * n))
  | [], cs, i, h => by simp [listOf] at h; subst h; simp [listOf]
  | x :: xs, cs, 0, h => by simp [listOf]
  | x :: xs, cs, i + 1, ⟨c1, c2, e, h1, h2⟩ => by
    subst e
    have h3 := hn _ _ h1
    refine ⟨c1, c2.take (i * n), ?_, h1, listOf_take hn i h2⟩
    rw [Nat.succ_mul, Nat.add_comm, List.take_append, List.take_of_length_le (by omega), h3]
    simp

theorem listOf_get {α : Type} {R : α → List Value → Prop} {n : Nat} (hn : ∀ x cs, R x cs → cs.length = n) {xs : List α} {cs : List Value} {i : Nat} {x : α} (h : listOf R xs cs) (hi : xs[i]? = some x) :
    R x ((cs.drop (i * n)).take n) := by
  have h1 := listOf_drop hn i h
  have h2 : xs.drop i = x :: xs.drop (i + 1) := by
    have hlt : i < xs.length := (List.getElem?_eq_some_iff.1 hi).1
    rw [List.drop_eq_getElem_cons hlt, (List.getElem?_eq_some_iff.1 hi).2]
  rw [h2] at h1
  obtain ⟨c1, c2, e, k1, _⟩ := h1
  rw [e, ← hn _ _ k1]
  simpa using k1

theorem listOf_set {α : Type} {R : α → List Value → Prop} {n : Nat} (hn : ∀ x cs, R x cs → cs.length = n) : ∀ {xs : List α} {cs : List Value} {i : Nat} {x : α} {c : List Value}, listOf R xs cs → i < xs.length → R x c →
    listOf R (xs.set i x) (cs.take (i * n) ++ c ++ cs.drop ((i + 1) * n))
  | [], _, i, _, _, _, hi, _ => by simp at hi
  | y :: xs, _, 0, x, c, ⟨c1, c2, e, h1, h2⟩, _, hc => by
    subst e
    have h3 := hn _ _ h1
    refine ⟨c, c2, ?_, hc, h2⟩
    simp [← h3]
  | y :: xs, _, i + 1, x, c, ⟨c1, c2, e, h1, h2⟩, hi, hc => by
    subst e
    have h3 := hn _ _ h1
    have h4 := listOf_set hn (i := i) h2 (by simpa using hi) hc
    refine ⟨c1, _, ?_, h1, h4⟩
    have e1 : (i + 1) * n = n + i * n := by rw [Nat.succ_mul, Nat.add_comm]
    have e2 : (i + 1 + 1) * n = n + (i + 1) * n := by rw [Nat.succ_mul (i + 1), Nat.add_comm]
    rw [e2, e1, List.take_append, List.drop_append, List.take_of_length_le (by omega), List.drop_eq_nil_of_le (show c1.length ≤ n + (n + i * n) by omega), h3]
    simp

end Go.J
