/-
  THE ENGINE, part 2: what a function's text asks for ('den'): a proposition over numbers and lists, computed by the kernel out of the text.
-/
import Derived.Test.YtpanhnkcgmcghaaE1
set_option linter.unusedSimpArgs false
set_option linter.unusedVariables false
set_option linter.unusedSectionVars false

namespace Go.J

def El.same : El → El → Bool
  | .u8, .u8 => true
  | .int k, .int k' => k == k'
  | .bool, .bool => true
  | .str, .str => true
  | .rd e, .rd e' => e.same e'
  | .nil, .nil => true
  | .cons e es, .cons e' es' => e.same e' && es.same es'
  | .ar n e, .ar n' e' => Nat.beq n n' && e.same e'
  | _, _ => false

theorem El.same_eq : ∀ {e e' : El}, e.same e' = true → e = e'
  | .u8, e', h => by cases e' <;> first | rfl | (simp [El.same] at h)
  | .int k, e', h => by cases e' <;> simp [El.same] at h; simp [h]
  | .bool, e', h => by cases e' <;> first | rfl | (simp [El.same] at h)
  | .str, e', h => by cases e' <;> first | rfl | (simp [El.same] at h)
  | .rd e, e', h => by cases e' <;> simp [El.same] at h; simp [El.same_eq h]
  | .nil, e', h => by cases e' <;> first | rfl | (simp [El.same] at h)
  | .cons e es, e', h => by cases e' <;> simp [El.same] at h; simp [El.same_eq h.1, El.same_eq h.2]
  | .ar n e, e', h => by cases e' <;> simp [El.same] at h; simp [h.1, El.same_eq h.2]

def castK (e' e : El) (xs : List e'.ty) (K : List e.ty → Prop) : Prop :=
  match e', e, xs, K with
  | .u8, .u8, xs, K => K xs
  | .bool, .bool, xs, K => K xs
  | .str, .str, xs, K => K xs
  | .int a, .int b, xs, K => match a == b with
    | true => K xs
    | false => False
  | e', e, xs, K => if h : e'.same e = true then K (El.same_eq h ▸ xs) else False
theorem castK_iff {e' e : El} {xs : List e'.ty} {K : List e.ty → Prop} (h : castK e' e xs K) : if h : e'.same e = true then K (El.same_eq h ▸ xs) else False := by
  unfold castK at h
  split at h
  · exact h
  · exact h
  · exact h
  · split at h
    · next hb =>
      obtain rfl := eq_of_beq hb
      rw [dif_pos (by simp [El.same])]
      exact h
    · exact h.elim
  · exact h

abbrev Hp := List (Nat × Chunk)

/-! Lists, one at a time. -/
def lgetK {α : Type} (l : List α) (n : Nat) (k : α → Prop) : Prop :=
  match l, n with
  | [], _ => False
  | x :: _, 0 => k x
  | _ :: l, n + 1 => lgetK l n k
def lsetK {α : Type} (l : List α) (n : Nat) (x : α) (k : List α → Prop) : Prop :=
  match l, n with
  | [], _ => False
  | _ :: l, 0 => k (x :: l)
  | y :: l, n + 1 => lsetK l n x fun l => k (y :: l)
def lappK {α : Type} (l m : List α) (k : List α → Prop) : Prop :=
  match l with
  | [] => k m
  | y :: l => lappK l m fun l => k (y :: l)
def lpadK (n : Nat) (l : List T) (k : List T → Prop) : Prop :=
  match n, l with
  | 0, [] => k []
  | 0, _ :: _ => False
  | n + 1, [] => lpadK n [] fun l => k (.v .any :: l)
  | n + 1, x :: l => lpadK n l fun l => k (x :: l)

def lookK (hp : Hp) (r : Nat) (k : Chunk → Prop) : Prop :=
  match hp with
  | [] => False
  | (r', c) :: hp => match Nat.beq r' r with
    | true => k c
    | false => lookK hp r k
def updK (hp : Hp) (r : Nat) (c : Chunk) (k : Hp → Prop) : Prop :=
  match hp with
  | [] => False
  | (r', c') :: hp => match Nat.beq r' r with
    | true => k ((r', c) :: hp)
    | false => updK hp r c fun hp => k ((r', c') :: hp)
def delK (hp : Hp) (r : Nat) (k : Hp → Prop) : Prop :=
  match hp with
  | [] => False
  | (r', c') :: hp => match Nat.beq r' r with
    | true => k hp
    | false => delK hp r fun hp => k ((r', c') :: hp)

/-! Inside a value. -/
def fieldK (i o : Nat) (t : T) (k : T → Prop) : Prop :=
  match i, t with
  | 0, .cons t _ => match o with
    | 0 => k t
    | _ + 1 => False
  | i + 1, .cons t ts => match Nat.ble t.size o with
    | true => fieldK i (o - t.size) ts k
    | false => False
  | _, _ => False
def setFieldK (i : Nat) (t new : T) (k : T → Prop) : Prop :=
  match i, t with
  | 0, .cons _ ts => k (.cons new ts)
  | i + 1, .cons t ts => setFieldK i ts new fun ts => k (.cons t ts)
  | _, _ => False

/-- An element told by its value. -/
def decK : (e : El) → T → Hp → (e.ty → Prop) → Prop
  | .u8, .v (.int ik n), _, k => match ik == .u8 with
    | true => (0 ≤ n ∧ n < 256) ∧ k (UInt8.ofNat n.toNat)
    | false => False
  | .int ik, .v (.int ik' n), _, k => match ik == ik' with
    | true => k n
    | false => False
  | .bool, .v .tt, _, k => k true
  | .bool, .v .ff, _, k => k false
  | .bool, .v (.bool b), _, k => k b
  | .str, .v (.str s), _, k => k s
  | .rd _, .v .nils, _, k => k []
  | .rd e, .v (.rd e' xs), _, k => castK e' e xs k
  | .nil, .nil, _, k => k ()
  | .cons e es, .cons t ts, hp, k => decK e t hp fun x => decK es ts hp fun y => k (x, y)
  | .ar n e, .arr e' xs n', _, k => match Nat.beq n n' with
    | true => castK e' e xs k
    | false => False
  | _, _, _, _ => False

def tgetK : List Stp → T → (T → Prop) → Prop
  | [], t, k => k t
  | .f i o :: p, t, k => fieldK i o t fun t => tgetK p t k
  | .x i sz :: p, .arr e xs _, k => match Nat.beq sz e.sz with
    | true => i < xs.length ∧ tgetK p (e.enc (xs.getD i e.dflt)) k
    | false => False
  | .x i sz :: p, .cons t ts, k => fieldK i (i * sz) (.cons t ts) fun t => tgetK p t k
  | _, _, _ => False

def tsetK : List Stp → T → T → Hp → (T → Prop) → Prop
  | [], t, new, _, k => match Nat.beq t.size new.size with
    | true => k new
    | false => False
  | .f i o :: p, t, new, hp, k => fieldK i o t fun t' => tsetK p t' new hp fun t' => setFieldK i t t' k
  | .x i sz :: p, .arr e xs n, new, hp, k => match Nat.beq sz e.sz with
    | true => i < xs.length ∧ tsetK p (e.enc (xs.getD i e.dflt)) new hp fun t' => decK e t' hp fun x => k (.arr e (xs.set i x) n)
    | false => False
  | .x i sz :: p, .cons t ts, new, hp, k => fieldK i (i * sz) (.cons t ts) fun t' => tsetK p t' new hp fun t' => setFieldK i (.cons t ts) t' k
  | _, _, _, _, _ => False

def Chunk.tree : Chunk → T
  | .own t => t
  | .row _ e xs => .arr e xs xs.length
  | .fz _ e xs => .arr e xs xs.length

/-- What a slice holds. -/
def rdK (e : El) (hp : Hp) (x : V) (k : List e.ty → Prop) : Prop :=
  match x with
  | .rd e' xs => castK e' e xs k
  | .nils => k []
  | .own r => lookK hp r fun
    | .row _ e' xs => castK e' e xs k
    | .fz _ e' xs => castK e' e xs k
    | .own _ => False
  | .sl r p off len sz => lookK hp r fun c => tgetK p c.tree fun
    | .arr e' xs _ => match Nat.beq sz e'.sz with
      | true => off + len ≤ xs.length ∧ castK e' e ((xs.drop off).take len) k
      | false => False
    | _ => False
  | _ => False

/-! Types, as far as they are asked for. -/
inductive Ty where
  | int (k : IntKind) | bool | str | ptr (e : TypeId) | sl (e : TypeId) | st (fs : List (TypeId × Nat)) | ar (n : Nat) (e : TypeId) | fn | other

/-- The zero value of a type. -/
inductive Z where
  | int (k : IntKind) | bool | str | nils | nilp | nilf | nil | cons (z zs : Z) | arr (e : El) (n : Nat)

def Z.toT : Z → T
  | .int k => .v (.int k 0)
  | .bool => .v .ff
  | .str => .v (.str [])
  | .nils => .v .nils
  | .nilp => .v .nilp
  | .nilf => .v .any
  | .nil => .nil
  | .cons z zs => .cons z.toT zs.toT
  | .arr e n => .arr e (List.replicate n e.dflt) n

structure TyI where
  k : Ty
  size : Nat
  bytes : Nat
  zero : Z
  el : Option El
  eqok : Bool

/-- How many parts a value has. -/
def kids : T → Nat
  | .cons _ ts => kids ts + 1
  | _ => 0

def slK (y : Ty) (k : Prop) : Prop := match y with
  | .sl _ => k
  | _ => False
def strK (y : Ty) (k : Prop) : Prop := match y with
  | .str => k
  | _ => False
def ptrK (y : Ty) (k : Prop) : Prop := match y with
  | .ptr _ => k
  | _ => False
def fnK (y : Ty) (k : Prop) : Prop := match y with
  | .fn => k
  | _ => False

structure Env where
  ty : List (Nat × TyI)
  call : List (Nat × (List T → Hp → Nat → (T → Hp → Nat → Prop) → Prop))

def tyK (l : List (Nat × TyI)) (t : TypeId) (k : TyI → Prop) : Prop :=
  match l with
  | [] => False
  | (t', i) :: l => match Nat.beq t' t with
    | true => k i
    | false => tyK l t k

/-! Operands. -/
def constT : Value → T
  | .int k n => .v (.int k n)
  | .bool true => .v .tt
  | .bool false => .v .ff
  | .string s => .v (.str s.data.toList)
  | .slice none 0 0 => .v .nils
  | .pointer none => .v .nilp
  | _ => .v .any
def evalK (fr : List T) (o : Operand) (k : T → Prop) : Prop :=
  match o with
  | .tmp t => lgetK fr t k
  | .const c => k (constT c)
  | .func f => k (.v (.fn f []))
  | .global _ => False
def evalsK (fr : List T) (os : List Operand) (k : List T → Prop) : Prop :=
  match os with
  | [] => k []
  | o :: os => evalK fr o fun x => evalsK fr os fun xs => k (x :: xs)

/-! Single operations. -/
def cmpI (op : BinOp) (x y : Int) (k : V → Prop) : Prop :=
  match op with
  | .lss => k (.bool (decide (x < y)))
  | .leq => k (.bool (decide (x ≤ y)))
  | .gtr => k (.bool (decide (y < x)))
  | .geq => k (.bool (decide (y ≤ x)))
  | .eql => k (.bool (decide (x = y)))
  | .neq => k (.bool (!decide (x = y)))
  | _ => False
def binI (op : BinOp) (ik : IntKind) (x y : Int) (k : V → Prop) : Prop :=
  match op with
  | .add => k (.int ik (ik.wrap (x + y)))
  | .sub => k (.int ik (ik.wrap (x - y)))
  | .mul => k (.int ik (ik.wrap (x * y)))
  | .quo => y ≠ 0 ∧ k (.int ik (ik.wrap (x.tdiv y)))
  | .rem => y ≠ 0 ∧ k (.int ik (x.tmod y))
  | .and => k (.int ik (bits .and ik x y))
  | .or => k (.int ik (bits .or ik x y))
  | .xor => k (.int ik (bits .xor ik x y))
  | .andNot => k (.int ik (bits .andNot ik x y))
  | op => cmpI op x y k
def shI (op : BinOp) (ik : IntKind) (x y : Int) (k : V → Prop) : Prop :=
  match op with
  | .shl => 0 ≤ y ∧ k (.int ik (ik.wrap (x * 2 ^ (min y.toNat ik.bits))))
  | .shr => 0 ≤ y ∧ k (.int ik (x.fdiv (2 ^ (min y.toNat ik.bits))))
  | _ => False
def isSh : BinOp → Bool
  | .shl => true
  | .shr => true
  | _ => false
def boolV : V → Option Bool
  | .tt => some true
  | .ff => some false
  | .bool b => some b
  | _ => none
def notV : V → V
  | .tt => .ff
  | .ff => .tt
  | .bool b => .bool (!b)
  | x => x
def notIf (b : Bool) (x : V) : V := match b with
  | true => notV x
  | false => x
/-- Are two values the same? -/
def andV : V → V → V
  | .tt, y => y
  | .ff, _ => .ff
  | x, .tt => x
  | _, .ff => .ff
  | .bool a, .bool b => .bool (a && b)
  | _, _ => .any
def eqBool : V → V → V
  | .tt, .tt => .tt
  | .ff, .ff => .tt
  | .tt, .ff => .ff
  | .ff, .tt => .ff
  | .tt, .bool b => .bool b
  | .bool b, .tt => .bool b
  | .ff, .bool b => .bool (!b)
  | .bool b, .ff => .bool (!b)
  | .bool a, .bool b => .bool (decide (a = b))
  | _, _ => .any
instance El.decEqTy : (e : El) → DecidableEq e.ty
  | .u8 => inferInstanceAs (DecidableEq UInt8)
  | .int _ => inferInstanceAs (DecidableEq Int)
  | .bool => inferInstanceAs (DecidableEq Bool)
  | .str => inferInstanceAs (DecidableEq (List UInt8))
  | .rd e => @instDecidableEqList _ (El.decEqTy e)
  | .nil => inferInstanceAs (DecidableEq Unit)
  | .cons e es => @instDecidableEqProd _ _ (El.decEqTy e) (El.decEqTy es)
  | .ar _ e => @instDecidableEqList _ (El.decEqTy e)
def eqTK : T → T → (V → Prop) → Prop
  | .v (.int a x), .v (.int b y), k => match a == b with
    | true => k (.bool (decide (x = y)))
    | false => False
  | .v (.str x), .v (.str y), k => k (.bool (decide (x = y)))
  | .v x, .v y, k => match boolV x, boolV y with
    | some _, some _ => k (eqBool x y)
    | _, _ => False
  | .nil, .nil, k => k .tt
  | .cons t ts, .cons u us, k => eqTK t u fun x => eqTK ts us fun y => k (andV x y)
  | .arr e xs n, .arr e' ys n', k => match Nat.beq n n' with
    | true => castK e' e ys fun ys => k (.bool (decide (xs = ys)))
    | false => False
  | _, _, _ => False

/-- One cell each: numbers, truths, strings. -/
def El.scal : El → Bool
  | .u8 => true
  | .int _ => true
  | .bool => true
  | .str => true
  | _ => false
def lookTy (l : List (Nat × TyI)) (t : TypeId) : Option TyI :=
  match l with
  | [] => none
  | (t', i) :: l => match Nat.beq t' t with
    | true => some i
    | false => lookTy l t
/-- Is an element of that type? -/
def scalTy (y : Ty) (e : El) : Bool :=
  match y, e with
  | .int k, .int k' => k == k'
  | .int k, .u8 => k == .u8
  | .bool, .bool => true
  | .str, .str => true
  | _, _ => false
def typedL (f : TypeId → T → Bool) : List (TypeId × Nat) → Nat → T → Bool
  | [], _, .nil => true
  | (t, d) :: fs, d', .cons x xs => Nat.beq d d' && f t x && typedL f fs (d' + x.size) xs
  | _, _, _ => false
/-- Is a value of that type's shape, without interfaces, pointers, slices? -/
def typed : Nat → List (Nat × TyI) → TypeId → T → Bool
  | 0, _, _, _ => false
  | n + 1, l, t, x => match lookTy l t with
    | none => false
    | some y => Nat.beq x.size y.size && (match y.k with
      | .int k => (match x with
        | .v (.int k' _) => k == k'
        | _ => false)
      | .bool => (match x with
        | .v v => (boolV v).isSome
        | _ => false)
      | .str => (match x with
        | .v (.str _) => true
        | _ => false)
      | .ar m e => (match x with
        | .arr e' _ m' => (match lookTy l e with
          | none => false
          | some z => Nat.beq m m' && e'.scal && scalTy z.k e' && Nat.beq z.size 1)
        | _ => false)
      | .st fs => typedL (typed n l) fs 0 x
      | _ => false)

def inRange (i : Int) (n : Nat) : Prop := 0 ≤ i ∧ i < n

/-- A part told by its field numbers or indices. -/
def placeK : List (TypeId × Nat) → Nat → (TypeId → Nat → Prop) → Prop
  | [], _, _ => False
  | (t, o) :: _, 0, k => k t o
  | _ :: l, i + 1, k => placeK l i k

/-- Elements told by their values. -/
noncomputable def decsK (e : El) (ts : List T) : Hp → (List e.ty → Prop) → Prop :=
  List.rec (motive := fun _ => Hp → (List e.ty → Prop) → Prop) (fun _ k => k []) (fun t _ ih hp k => decK e t hp fun x => ih hp fun xs => k (x :: xs)) ts

/-- Parts laid into a struct, into an array. -/
def setFieldChkK (i : Nat) (t new : T) (k : T → Prop) : Prop :=
  match i, t with
  | 0, .cons t ts => match Nat.beq t.size new.size with
    | true => k (.cons new ts)
    | false => False
  | i + 1, .cons t ts => setFieldChkK i ts new fun ts => k (.cons t ts)
  | _, _ => False
def fillSK : T → List (Nat × T) → (T → Prop) → Prop
  | t, [], k => k t
  | t, (i, x) :: ps, k => setFieldChkK i t x fun t => fillSK t ps k
def fillAK (e : El) : List e.ty → List (Nat × T) → Hp → (List e.ty → Prop) → Prop
  | xs, [], _, k => k xs
  | xs, (i, x) :: ps, hp, k => decK e x hp fun x => lsetK xs i x fun xs => fillAK e xs ps hp k

/-- A value that is known. -/
def T.known : T → Bool
  | .v .any => false
  | .tup _ => false
  | _ => true

def partsK (fr : List T) : List (Nat × Operand) → (List (Nat × T) → Prop) → Prop
  | [], k => k []
  | (i, o) :: ps, k => evalK fr o fun x => match x.known with
    | false => False
    | true => partsK fr ps fun l => k ((i, x) :: l)

/-- Are the parts' numbers 0, 1, 2 ..? -/
def idxOk : List (Nat × T) → Nat → Bool
  | [], _ => true
  | (i, _) :: ps, n => Nat.beq i n && idxOk ps (n + 1)

/-- Is it a value of one cell, as its type says? -/
def shapeK (y : Ty) (t : T) (k : T → Prop) : Prop :=
  match y with
  | .st _ => match t with
    | .nil => k .nil
    | .cons t ts => k (.cons t ts)
    | _ => False
  | .ar _ _ => match t with
    | .nil => k .nil
    | .cons t ts => k (.cons t ts)
    | .arr e xs n => k (.arr e xs n)
    | _ => False
  | _ => match t with
    | .v x => k (.v x)
    | _ => False

def appPath : List Stp → Stp → List Stp
  | [], s => [s]
  | t :: p, s => t :: appPath p s

def loK (fr : List T) (o : Option Operand) (d : Int) (k : Int → Prop) : Prop :=
  match o with
  | none => k d
  | some o => evalK fr o fun
    | .v (.int _ n) => k n
    | _ => False

noncomputable def denOp (E : Env) (o : Op) (fr : List T) (hp : Hp) (nx : Nat) (k : T → Hp → Nat → Prop) : Prop :=
  match o with
  | .move x => evalK fr x fun x => k x hp nx
  | .assign x => evalK fr x fun x => k x hp nx
  | .pick c a b => evalK fr c fun
    | .v .tt => evalK fr a fun x => k x hp nx
    | .v .ff => evalK fr b fun x => k x hp nx
    | .v (.bool c) => (c = true → evalK fr a fun x => k x hp nx) ∧ (c = false → evalK fr b fun x => k x hp nx)
    | _ => False
  | .nilCheck x => evalK fr x fun
    | .v (.ptr r p) => k (.v (.ptr r p)) hp nx
    | .v (.rp e xs i p) => k (.v (.rp e xs i p)) hp nx
    | _ => False
  | .fieldAddr t x f => evalK fr x fun x => tyK E.ty t fun y => match y.k with
    | .st fs => placeK fs f fun _ d => match x with
      | .v (.ptr r p) => k (.v (.ptr r (appPath p (.f f d)))) hp nx
      | .v (.rp e xs i p) => k (.v (.rp e xs i (appPath p (.f f d)))) hp nx
      | _ => False
    | _ => False
  | .field t x f => evalK fr x fun x => tyK E.ty t fun y => match y.k with
    | .st fs => placeK fs f fun ft d => tyK E.ty ft fun z => fieldK f d x fun t => match Nat.beq t.size z.size with
      | true => shapeK z.k t fun t => k t hp nx
      | false => False
    | _ => False
  | .load t x => evalK fr x fun x => tyK E.ty t fun y => match x with
    | .v (.ptr r p) => lookK hp r fun c => tgetK p c.tree fun t => match Nat.beq t.size y.size with
      | true => shapeK y.k t fun t => k t hp nx
      | false => False
    | .v (.rp e xs i p) => tgetK p (e.enc (xs.getD i e.dflt)) fun t => match Nat.beq t.size y.size with
      | true => shapeK y.k t fun t => k t hp nx
      | false => False
    | _ => False
  | .store t x new => evalK fr x fun x => tyK E.ty t fun y => evalK fr new fun new => match new.known with
    | false => False
    | true => match Nat.beq new.size y.size with
      | true => match x with
        | .v (.ptr r p) => lookK hp r fun
          | .own t => tsetK p t new hp fun t => updK hp r (.own t) fun hp => k (.v .any) hp nx
          | .row ty e xs => match p with
            | .x i sz :: q => match Nat.beq sz e.sz with
              | true => i < xs.length ∧ tsetK q (e.enc (xs.getD i e.dflt)) new hp fun t => decK e t hp fun x => updK hp r (.row ty e (xs.set i x)) fun hp => k (.v .any) hp nx
              | false => False
            | _ => False
          | .fz _ _ _ => False
        | _ => False
      | false => False
  | .alloc t => tyK E.ty t fun y => lappK hp [(nx, .own y.zero.toT)] fun hp => k (.v (.ptr nx [])) hp (nx + 1)
  | .box t x => evalK fr x fun x => tyK E.ty t fun y => match x.known with
    | false => False
    | true => match Nat.beq x.size y.size with
      | true => lappK hp [(nx, .own x)] fun hp => k (.v (.ptr nx [])) hp (nx + 1)
      | false => False
  | .build t ps => tyK E.ty t fun y => partsK fr ps.toList fun ps => match y.k with
    | .st _ => match y.zero with
      | .nil => fillSK .nil ps fun t => k t hp nx
      | .cons z zs => fillSK (.cons z.toT zs.toT) ps fun t => k t hp nx
      | _ => False
    | .ar _ _ => match y.zero with
      | .arr e n => fillAK e (List.replicate n e.dflt) ps hp fun xs => k (.arr e xs n) hp nx
      | _ => False
    | _ => False
  | .buildSlice t n ps => tyK E.ty t fun y => match y.k with
    | .sl et => tyK E.ty et fun z => partsK fr ps.toList fun ps => match Nat.beq ps.length n && idxOk ps 0 && Nat.ble (n * z.size) 16777216 with
      | true => match z.el with
        | some e => decsK e (ps.map (·.2)) hp fun xs => lappK hp [(nx, .row et e xs)] fun hp => k (.v (.own nx)) hp (nx + 1)
        | none => False
      | false => False
    | _ => False
  | .binOp op t x y _ => evalK fr x fun x => evalK fr y fun y => match x, y with
    | .v (.int a x), .v (.int b y) => match isSh op with
      | true => shI op a x y fun r => k (.v r) hp nx
      | false => match a == b with
        | true => binI op a x y fun r => k (.v r) hp nx
        | false => False
    | .v (.str x), .v (.str y) => match op with
      | .eql => k (.v (.bool (decide (x = y)))) hp nx
      | .neq => k (.v (.bool (!decide (x = y)))) hp nx
      | .lss => k (.v (.bool (Op.bytesLess x y))) hp nx
      | .add => (x.length + y.length : Nat) ≤ maxLen ∧ k (.v (.str (x ++ y))) hp nx
      | _ => False
    | x, y => tyK E.ty t fun ti => match x, y with
      | .v .nils, .v .nils => slK ti.k (eqOpK op .tt fun r => k (.v r) hp nx)
      | .v (.own r), .v .nils => slK ti.k (lookK hp r fun
        | .row _ e xs => ∀ b : Bool, (0 < xs.length → b = false) → eqOpK op (.bool b) fun r => k (.v r) hp nx
        | .fz _ e xs => ∀ b : Bool, (0 < xs.length → b = false) → eqOpK op (.bool b) fun r => k (.v r) hp nx
        | .own _ => False)
      | .v (.rd e xs), .v .nils => slK ti.k (∀ b : Bool, (0 < xs.length → b = false) → eqOpK op (.bool b) fun r => k (.v r) hp nx)
      | .v .nilp, .v .nilp => ptrK ti.k (eqOpK op .tt fun r => k (.v r) hp nx)
      | .v (.ptr _ _), .v .nilp => ptrK ti.k (eqOpK op .ff fun r => k (.v r) hp nx)
      | .v (.rp _ _ _ _), .v .nilp => ptrK ti.k (eqOpK op .ff fun r => k (.v r) hp nx)
      | x, y => match typed 9 E.ty t x && typed 9 E.ty t y && eqTyOk ti x with
        | true => eqTK x y fun r => eqOpK op r fun r => k (.v r) hp nx
        | false => False
  | .unOp op _ x => evalK fr x fun x => match op, x with
    | .not, .v .tt => k (.v .ff) hp nx
    | .not, .v .ff => k (.v .tt) hp nx
    | .not, .v (.bool b) => k (.v (.bool (!b))) hp nx
    | .neg, .v (.int ik n) => k (.v (.int ik (ik.wrap (0 - n)))) hp nx
    | .xor, .v (.int ik n) => k (.v (.int ik (bits .xor ik (if ik.signed then -1 else ik.max) n))) hp nx
    | _, _ => False
  | .convert a b x => evalK fr x fun x => tyK E.ty a fun ya => tyK E.ty b fun yb => match ya.k, yb.k, x with
    | .int _, .int ik, .v (.int _ n) => k (.v (.int ik (ik.wrap n))) hp nx
    | .sl e, .str, .v x => tyK E.ty e fun z => match z.k with
      | .int ik => match ik == .u8 with
        | true => rdK .u8 hp x fun xs => k (.v (.str xs)) hp nx
        | false => False
      | _ => False
    | _, _, _ => False
  | .slice t x lo hi mx => match mx with
    | some _ => False
    | none => evalK fr x fun x => loK fr lo 0 fun a => tyK E.ty t fun y => match y.k with
      | .str => match x with
        | .v (.str s) => loK fr hi s.length fun b => (0 ≤ a ∧ a ≤ b ∧ b ≤ s.length) ∧ k (.v (.str ((s.drop a.toNat).take (b - a).toNat))) hp nx
        | _ => False
      | .sl et => tyK E.ty et fun z => match x with
        | .v (.rd e xs) => match Nat.beq z.size e.sz with
          | true => loK fr hi xs.length fun b => (0 ≤ a ∧ a ≤ b ∧ b ≤ xs.length) ∧ k (.v (.rd e ((xs.drop a.toNat).take (b - a).toNat))) hp nx
          | false => False
        | .v .nils => loK fr hi 0 fun b => (a = 0 ∧ b = 0) ∧ k (.v .nils) hp nx
        | .v (.own r) => lookK hp r fun
          | .row _ e xs => match Nat.beq z.size e.sz with
            | true => loK fr hi xs.length fun b => (0 ≤ a ∧ a ≤ b ∧ b ≤ xs.length) ∧ k (.v (.sl r [] a.toNat (b - a).toNat e.sz)) hp nx
            | false => False
          | .fz _ e xs => match Nat.beq z.size e.sz with
            | true => loK fr hi xs.length fun b => (0 ≤ a ∧ a ≤ b ∧ b ≤ xs.length) ∧ k (.v (.rd e ((xs.drop a.toNat).take (b - a).toNat))) hp nx
            | false => False
          | .own _ => False
        | .v (.sl r p off len sz) => match Nat.beq z.size sz with
          | true => loK fr hi len fun b => (0 ≤ a ∧ a ≤ b ∧ b ≤ len) ∧ k (.v (.sl r p (off + a.toNat) (b - a).toNat sz)) hp nx
          | false => False
        | _ => False
      | .ar n et => tyK E.ty et fun z => match x with
        | .v (.ptr r p) => match Nat.ble n 4294967296 with
          | true => loK fr hi n fun b => (0 ≤ a ∧ a ≤ b ∧ b ≤ n) ∧ k (.v (.sl r p a.toNat (b - a).toNat z.size)) hp nx
          | false => False
        | _ => False
      | _ => False
  | .indexAddr t x i => evalK fr x fun x => evalK fr i fun
    | .v (.int _ i) => tyK E.ty t fun y => match y.k with
      | .sl et => tyK E.ty et fun z => match x with
        | .v (.rd e xs) => match Nat.beq z.size e.sz with
          | true => inRange i xs.length ∧ k (.v (.rp e xs i.toNat [])) hp nx
          | false => False
        | .v (.own r) => lookK hp r fun
          | .row _ e xs => match Nat.beq z.size e.sz with
            | true => inRange i xs.length ∧ k (.v (.ptr r [.x i.toNat e.sz])) hp nx
            | false => False
          | .fz _ e xs => match Nat.beq z.size e.sz with
            | true => inRange i xs.length ∧ k (.v (.ptr r [.x i.toNat e.sz])) hp nx
            | false => False
          | .own _ => False
        | .v (.sl r p off len sz) => match Nat.beq z.size sz with
          | true => inRange i len ∧ k (.v (.ptr r (appPath p (.x (off + i.toNat) sz)))) hp nx
          | false => False
        | _ => False
      | .ar n et => tyK E.ty et fun z => match x with
        | .v (.ptr r p) => inRange i n ∧ k (.v (.ptr r (appPath p (.x i.toNat z.size)))) hp nx
        | .v (.rp e xs j p) => inRange i n ∧ k (.v (.rp e xs j (appPath p (.x i.toNat z.size)))) hp nx
        | _ => False
      | _ => False
    | _ => False
  | .index t x i => evalK fr x fun x => evalK fr i fun
    | .v (.int _ i) => match x with
      | .arr e xs n => tyK E.ty t fun y => match y.k with
        | .ar m et => tyK E.ty et fun z => match Nat.beq m n, Nat.beq e.sz z.size with
          | true, true => inRange i n ∧ shapeK z.k (e.enc (xs.getD i.toNat e.dflt)) fun t => k t hp nx
          | _, _ => False
        | _ => False
      | .v (.str s) => tyK E.ty t fun y => match y.k with
        | .str => inRange i s.length ∧ k (.v (.int .u8 (s.getD i.toNat 0).toNat)) hp nx
        | _ => False
      | _ => False
    | _ => False
  | .extract x i => evalK fr x fun
    | .tup ts => tupGetK i ts fun t => k t hp nx
    | _ => False
  | .makeSlice t l c => tyK E.ty t fun y => match y.k with
    | .sl et => tyK E.ty et fun z => evalK fr l fun
      | .v (.int _ n) => evalK fr c fun
        | .v (.int _ m) => match z.el with
          | some e => (n = m ∧ 0 ≤ n ∧ n ≤ maxLen ∧ n.toNat * z.bytes ≤ 140737488355328) ∧ lappK hp [(nx, .row et e (List.replicate n.toNat e.dflt))] fun hp => k (.v (.own nx)) hp (nx + 1)
          | none => False
        | _ => False
      | _ => False
    | _ => False
  | .call c => match c.callee with
    | .builtin .len => match c.argTypes.toList with
      | [t] => tyK E.ty t fun y => evalsK fr c.args.toList fun
        | [.v (.rd _ xs)] => slK y.k (k (.v (.int .i64 xs.length)) hp nx)
        | [.v .nils] => slK y.k (k (.v (.int .i64 0)) hp nx)
        | [.v (.str s)] => strK y.k (k (.v (.int .i64 s.length)) hp nx)
        | [.v (.own r)] => slK y.k (lookK hp r fun
          | .row _ _ xs => k (.v (.int .i64 xs.length)) hp nx
          | .fz _ _ xs => k (.v (.int .i64 xs.length)) hp nx
          | .own _ => False)
        | [.v (.sl _ _ _ len _)] => slK y.k (k (.v (.int .i64 len)) hp nx)
        | _ => False
      | _ => False
    | .builtin .min => evalsK fr c.args.toList fun
      | [.v (.int ik x), .v (.int _ y)] => k (.v (.int ik (if y < x then y else x))) hp nx
      | _ => False
    | .builtin .max => evalsK fr c.args.toList fun
      | [.v (.int ik x), .v (.int _ y)] => k (.v (.int ik (if x < y then y else x))) hp nx
      | _ => False
    | .builtin .append => evalsK fr c.args.toList fun
      | [.v x, .v y] => match c.argTypes.toList with
        | [tx, ty'] => tyK E.ty tx fun ti => match ti.k with
          | .sl et => tyK E.ty et fun z => match z.el with
            | some e => tyK E.ty ty' fun t2 => srcTyK z tx ty' t2 y fun _ => srcK e hp y fun ys => match x with
              | .nils => (ys.length * z.bytes ≤ 140737488355328 ∧ ys.length ≤ maxLen) ∧ lappK hp [(nx, .row et e ys)] fun hp => k (.v (.own nx)) hp (nx + 1)
              | .own r => lookK hp r fun
                | .row et' e' xs => match Nat.beq et' et with
                  | true => castK e' e xs fun xs => ((xs.length + ys.length) * z.bytes ≤ 140737488355328 ∧ xs.length + ys.length ≤ maxLen) ∧
                      delK hp r fun hp => lappK hp [(nx, .row et e (xs ++ ys))] fun hp => k (.v (.own nx)) hp (nx + 1)
                  | false => False
                | _ => False
              | _ => False
            | none => False
          | _ => False
        | _ => False
      | _ => False
    | .builtin .copy => match c.argTypes.toList with
      | [tx, _] => tyK E.ty tx fun ti => match ti.k with
        | .sl et => tyK E.ty et fun z => match Nat.beq z.size 1 with
          | true => evalsK fr c.args.toList fun
            | [.v (.own r), .v y] => lookK hp r fun
              | .row ty e xs => match Nat.beq e.sz 1 with
                | true => rdK e hp y fun ys => updK hp r (.row ty e (ys.take xs.length ++ xs.drop ys.length)) fun hp => k (.v (.int .i64 (min ys.length xs.length : Nat))) hp nx
                | false => False
              | _ => False
            | [.v (.sl r p off len sz), .v y] => lookK hp r fun
              | .own t => tgetK p t fun
                | .arr e xs n => match Nat.beq e.sz 1 && Nat.beq sz 1 with
                  | true => rdK e hp y fun ys => off + len ≤ xs.length ∧
                      tsetK p t (.arr e (xs.take off ++ ys.take len ++ xs.drop (off + min ys.length len)) n) hp fun t => updK hp r (.own t) fun hp => k (.v (.int .i64 (min ys.length len : Nat))) hp nx
                  | false => False
                | _ => False
              | _ => False
            | _ => False
          | false => False
        | _ => False
      | _ => False
    | .value (.func f) => callK E.call f fun g => evalsK fr c.args.toList fun vs => g vs hp nx k
    | _ => False
  | _ => False
where
  eqOpK (op : BinOp) (r : V) (k : V → Prop) : Prop :=
    match op with
    | .eql => k r
    | .neq => k (notV r)
    | _ => False
  eqTyOk (y : TyI) (x : T) : Bool :=
    match x with
    | .v x => (boolV x).isSome
    | .tup _ => false
    | _ => y.eqok
  tupGetK (i : Nat) (t : T) (k : T → Prop) : Prop :=
    match i, t with
    | 0, .cons t _ => k t
    | i + 1, .cons _ ts => tupGetK i ts k
    | _, _ => False
  srcTyK (z : TyI) (tx ty' : TypeId) (t2 : TyI) (y : V) (k : Unit → Prop) : Prop :=
    match y with
    | .str _ => match z.zero, t2.k, Nat.beq z.bytes 1, Nat.beq z.size 1 with
      | .int ik, .str, true, true => match ik == .u8 with
        | true => k ()
        | false => False
      | _, _, _, _ => False
    | _ => match Nat.beq tx ty' with
      | true => k ()
      | false => False
  srcK (e : El) (hp : Hp) (y : V) (k : List e.ty → Prop) : Prop :=
    match y with
    | .str s => castK .u8 e s k
    | y => rdK e hp y k
  callK (l : List (Nat × (List T → Hp → Nat → (T → Hp → Nat → Prop) → Prop))) (f : FuncId) (k : (List T → Hp → Nat → (T → Hp → Nat → Prop) → Prop) → Prop) : Prop :=
    match l with
    | [] => False
    | (f', g) :: l => match Nat.beq f' f with
      | true => k g
      | false => callK l f k

end Go.J
