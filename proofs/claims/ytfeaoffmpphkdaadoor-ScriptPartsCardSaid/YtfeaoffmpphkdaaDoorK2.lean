/-
  JOBBER: the engine and the functions of this claim, part 2.
-/
import Derived.Test.YtfeaoffmpphkdaaDoorK1
import Derived.Orders
import Derived.Deep.LoopGhost
import Derived.LoopN
set_option linter.unusedSimpArgs false
set_option linter.unusedVariables false
set_option linter.unusedSectionVars false

namespace Go.J

def putK (fr : List T) (dst : Option Tmp) (x : T) (k : List T → Prop) : Prop :=
  match dst with
  | none => k fr
  | some d => lsetK fr d x k

def slotK (ops : List Oper) (g : Nat) (k : Nat → Prop) : Prop :=
  match ops, g with
  | [], _ => False
  | o :: _, 0 => match o.dst with
    | some d => k d
    | none => False
  | _ :: os, g + 1 => slotK os g k

/-- In the text's order: a guard that is not known yet is told apart. -/
def guardK (ops : List Oper) (fr : List T) (g : Option (Nat × Bool)) (yes no : List T → Prop) : Prop :=
  match g with
  | none => yes fr
  | some (g, want) => slotK ops g fun d => lgetK fr d fun
    | .v .tt => match want with
      | true => yes fr
      | false => no fr
    | .v .ff => match want with
      | true => no fr
      | false => yes fr
    | .v (.bool b) => match want with
      | true => (b = true → lsetK fr d (.v .tt) yes) ∧ (b = false → lsetK fr d (.v .ff) no)
      | false => (b = true → lsetK fr d (.v .tt) no) ∧ (b = false → lsetK fr d (.v .ff) yes)
    | .tup .nil => no fr
    | _ => False

noncomputable def denOps (E : Env) (ops os : List Oper) : List T → Hp → Nat → (List T → Hp → Nat → Prop) → Prop :=
  List.rec (motive := fun _ => List T → Hp → Nat → (List T → Hp → Nat → Prop) → Prop) (fun fr hp nx k => k fr hp nx)
    (fun o _ ih fr hp nx k => guardK ops fr o.guard
      (fun fr => denOp E o.op fr hp nx fun x hp nx => putK fr o.dst x fun fr => ih fr hp nx k)
      (fun fr => putK fr o.dst (.tup .nil) fun fr => ih fr hp nx k)) os

/-! Where the order is drawn. -/
def valueOp : Op → Bool
  | .move _ => true
  | .pick _ _ _ => true
  | .nilCheck _ => true
  | .fieldAddr _ _ _ => true
  | .field _ _ _ => true
  | .load _ _ => true
  | .build _ _ => true
  | .binOp _ _ _ _ _ => true
  | .unOp _ _ _ => true
  | .convert _ _ _ => true
  | .slice _ _ _ _ _ => true
  | .indexAddr _ _ _ => true
  | .index _ _ _ => true
  | .extract _ _ => true
  | .call c => match c.callee with
    | .builtin .len => true
    | .builtin .min => true
    | .builtin .max => true
    | _ => false
  | _ => false

def readsHp : Op → Bool
  | .load _ _ => true
  | .convert _ _ _ => true
  | .slice _ _ _ _ _ => true
  | .indexAddr _ _ _ => true
  | .call _ => true
  | _ => false

/-- A slice is not held against nil here: whether it is nil may be open. -/
def noNilK (o : Op) (fr : List T) (k : Prop) : Prop :=
  match o with
  | .binOp _ _ _ y _ => evalK fr y fun
    | .v .nils => False
    | _ => k
  | _ => k

def gateK (ops : List Oper) (fr : List T) (g : Option (Nat × Bool)) (yes no : Prop) : Prop :=
  match g with
  | none => yes
  | some (g, want) => slotK ops g fun d => lgetK fr d fun
    | .v .tt => match want with
      | true => yes
      | false => no
    | .v .ff => match want with
      | true => no
      | false => yes
    | .tup .nil => no
    | _ => False

def isGuard (i : Nat) : List Oper → Bool
  | [] => false
  | o :: os => match o.guard with
    | some (g, _) => Nat.beq g i || isGuard i os
    | none => isGuard i os

def normK (b : Bool) (x : T) (k : T → Prop) : Prop :=
  match b with
  | false => k x
  | true => match x with
    | .v .tt => k (.v .tt)
    | .v .ff => k (.v .ff)
    | .v (.bool b) => (b = true → k (.v .tt)) ∧ (b = false → k (.v .ff))
    | _ => False

def sameK (y x : T) : Prop :=
  match x with
  | .v .tt => match y with
    | .v .tt => True
    | .v (.bool b) => b = true
    | _ => False
  | .v .ff => match y with
    | .v .ff => True
    | .v (.bool b) => b = false
    | _ => False
  | .v .any => True
  | x => y = x

def bindsAll (m : Nat) : List Edge → Bool
  | [] => true
  | e :: es => (!Region.binds .any e || m.testBit e.on) && bindsAll m es

def nextV (m : Nat) : List Oper → Nat → Option (Nat × Oper)
  | [], _ => none
  | o :: os, i => match !m.testBit i && valueOp o.op && bindsAll m o.after.toList with
    | true => some (i, o)
    | false => nextV m os (i + 1)

def readyE (m : Nat) : List Oper → Nat → List (Nat × Oper)
  | [], _ => []
  | o :: os, i => match !m.testBit i && bindsAll m o.after.toList with
    | true => (i, o) :: readyE m os (i + 1)
    | false => readyE m os (i + 1)

/-- The operations that stand ahead of each, as bits. -/
def ancOf (acc : List Nat) : List Edge → Nat
  | [] => 0
  | e :: es => match Region.binds .any e with
    | true => (2 ^ e.on ||| acc.getD e.on 0) ||| ancOf acc es
    | false => ancOf acc es
def ancs : List Oper → List Nat → List Nat
  | [], acc => acc
  | o :: os, acc => ancs os (acc ++ [ancOf acc o.after.toList])

/-- The values that were read ahead: they are read the same now. -/
def recheckK (E : Env) (ops : List Oper) (m anc : Nat) (fr : List T) (hp : Hp) (nx : Nat) (k : Prop) : List Oper → Nat → Prop
  | [], _ => k
  | o :: os, i => match m.testBit i && !anc.testBit i && valueOp o.op && readsHp o.op with
    | true => (match o.dst with
      | none => False
      | some d => gateK ops fr o.guard (denOp E o.op fr hp nx fun y _ _ => lgetK fr d fun x => sameK y x) True) ∧ recheckK E ops m anc fr hp nx k os (i + 1)
    | false => recheckK E ops m anc fr hp nx k os (i + 1)

/-! What is asked of the text of such a region. -/
def tmpOf : Operand → List Tmp
  | .tmp t => [t]
  | _ => []
def looks (ops : List Oper) (o : Oper) : List Tmp :=
  (o.op.operands.toList.flatMap tmpOf) ++ (match o.guard with
    | some (g, _) => (match (ops[g]?).bind (·.dst) with
      | some d => [d]
      | none => [])
    | none => [])
def notSelect : Op → Bool
  | .select _ _ => false
  | _ => true
/-- An operation and another one that writes a slot which the first looks at, or writes too: they stand in order; where the writer makes a value, the writer first. -/
def pairOk (ops : List Oper) (as : List Nat) (i j : Nat) (x y : Oper) : Bool :=
  match y.dst with
  | none => true
  | some d => Nat.beq i j && !(looks ops x).contains d || !Nat.beq i j && (
      (!(looks ops x).contains d || (as.getD i 0).testBit j || !valueOp y.op && (as.getD j 0).testBit i) &&
      (match x.dst with
        | none => true
        | some c => !Nat.beq c d || !valueOp x.op && !valueOp y.op && ((as.getD i 0).testBit j || (as.getD j 0).testBit i)))
def rowOk (ops : List Oper) (as : List Nat) (i : Nat) (x : Oper) : List Oper → Nat → Bool
  | [], _ => true
  | y :: ys, j => pairOk ops as i j x y && rowOk ops as i x ys (j + 1)
def edgesOk (i : Nat) (o : Oper) : Bool := o.after.toList.all fun e => !Region.binds .any e || Nat.blt e.on i
def drawOk (ops : List Oper) (as : List Nat) : List Oper → Nat → Bool
  | [], _ => true
  | x :: xs, i => rowOk ops as i x ops 0 && edgesOk i x && notSelect x.op && drawOk ops as xs (i + 1)

def forkK : List (Nat × Oper) → (Nat → Oper → Prop) → Prop
  | [], _ => True
  | (j, o) :: l, f => f j o ∧ forkK l f

def anyK (E : Env) (ops : List Oper) (as : List Nat) (k : List T → Hp → Nat → Prop) : Nat → Nat → List T → Hp → Nat → Prop
  | 0, _, _, _, _ => False
  | n + 1, m, fr, hp, nx => match nextV m ops 0 with
    | some (i, o) => gateK ops fr o.guard
        (noNilK o.op fr (denOp E o.op fr hp nx fun x _ _ => normK (isGuard i ops) x fun x => putK fr o.dst x fun fr => anyK E ops as k n (m ||| 2 ^ i) fr hp nx))
        (putK fr o.dst (.tup .nil) fun fr => anyK E ops as k n (m ||| 2 ^ i) fr hp nx)
    | none => match readyE m ops 0 with
      | [] => k fr hp nx
      | l => forkK l fun j o => gateK ops fr o.guard
          (denOp E o.op fr hp nx fun x hp nx => normK (isGuard j ops) x fun x => putK fr o.dst x fun fr => recheckK E ops m (as.getD j 0) fr hp nx (anyK E ops as k n (m ||| 2 ^ j) fr hp nx) ops 0)
          (putK fr o.dst (.tup .nil) fun fr => recheckK E ops m (as.getD j 0) fr hp nx (anyK E ops as k n (m ||| 2 ^ j) fr hp nx) ops 0)

/-- The road that 'anyK' takes, written down. -/
inductive Plan where
  | done
  | take (i : Nat) (g : Bool) (p : Plan)
  | last (i : Nat) (g : Bool) (rc : List Nat) (p : Plan)
  | alt (i : Nat) (g : Bool) (rc : List Nat) (p rest : Plan)
  | cash (i : Nat) (rc : List Nat) (p : Plan)

/-- So many values, one behind the other. -/
def tks (i : Nat) : Nat → Plan → Plan
  | 0, p => p
  | n + 1, p => .take i false (tks (i + 1) n p)

def opAtK (ops : List Oper) (i : Nat) (k : Oper → Prop) : Prop :=
  match ops, i with
  | [], _ => False
  | o :: _, 0 => k o
  | _ :: os, i + 1 => opAtK os i k

noncomputable def recheckL (E : Env) (ops : List Oper) (fr : List T) (hp : Hp) (nx : Nat) (k : Prop) (is : List Nat) : Prop :=
  List.rec (motive := fun _ => Prop) k (fun i _ ih => opAtK ops i fun o => (match o.dst with
      | none => False
      | some d => gateK ops fr o.guard (denOp E o.op fr hp nx fun y _ _ => lgetK fr d fun x => sameK y x) True) ∧ ih) is

/-- New blocks that no other operation is needed for: they may be made at any time. -/
def bankOp (o : Oper) : Bool :=
  match o.op with
  | .alloc _ => match o.guard with
    | none => match o.dst with
      | some _ => o.after.toList.all fun e => !Region.binds .any e
      | none => false
    | some _ => false
  | _ => false
/-- Those whose making is told by the plan, as bits. -/
def cashes : Plan → Nat
  | .done => 0
  | .take _ _ p => cashes p
  | .last _ _ _ p => cashes p
  | .alt _ _ _ p rest => cashes p ||| cashes rest
  | .cash i _ p => 2 ^ i ||| cashes p
def bankTyK (E : Env) (bk : Nat) : List Oper → Nat → Prop → Prop
  | [], _, k => k
  | o :: os, i, k => match bk.testBit i with
    | true => (match o.op with
      | .alloc t => tyK E.ty t fun _ => True
      | _ => False) ∧ bankTyK E bk os (i + 1) k
    | false => bankTyK E bk os (i + 1) k
noncomputable def planK (E : Env) (ops : List Oper) (k : List T → Hp → Nat → Prop) (p : Plan) : List T → Hp → Nat → Prop :=
  Plan.rec (motive := fun _ => List T → Hp → Nat → Prop) (fun fr hp nx => k fr hp nx)
    (fun i g _ ih fr hp nx => opAtK ops i fun o => gateK ops fr o.guard
      (noNilK o.op fr (denOp E o.op fr hp nx fun x _ _ => normK g x fun x => putK fr o.dst x fun fr => ih fr hp nx))
      (putK fr o.dst (.tup .nil) fun fr => ih fr hp nx))
    (fun i g rc _ ih fr hp nx => opAtK ops i fun o => gateK ops fr o.guard
      (denOp E o.op fr hp nx fun x hp nx => normK g x fun x => putK fr o.dst x fun fr => recheckL E ops fr hp nx (ih fr hp nx) rc)
      (putK fr o.dst (.tup .nil) fun fr => recheckL E ops fr hp nx (ih fr hp nx) rc))
    (fun i g rc _ _ ih ihr fr hp nx => (opAtK ops i fun o => gateK ops fr o.guard
      (denOp E o.op fr hp nx fun x hp nx => normK g x fun x => putK fr o.dst x fun fr => recheckL E ops fr hp nx (ih fr hp nx) rc)
      (putK fr o.dst (.tup .nil) fun fr => recheckL E ops fr hp nx (ih fr hp nx) rc)) ∧ ihr fr hp nx)
    (fun i rc _ ih fr hp nx => opAtK ops i fun o => denOp E o.op fr hp nx fun x hp nx => putK fr o.dst x fun fr => recheckL E ops fr hp nx (ih fr hp nx) rc) p
noncomputable def regionK (E : Env) (ops : List Oper) (k : List T → Hp → Nat → Prop) (p : Plan) (fr : List T) (hp : Hp) (nx : Nat) : Prop :=
  match Nat.beq (cashes p) 0 with
  | true => planK E ops k p fr hp nx
  | false => bankTyK E (cashes p) ops 0 (planK E ops k p fr hp nx)
/-! Is it that road? -/
def rcList (ops : List Oper) (m anc : Nat) : List Oper → Nat → List Nat
  | [], _ => []
  | o :: os, i => match m.testBit i && !anc.testBit i && valueOp o.op && readsHp o.op with
    | true => i :: rcList ops m anc os (i + 1)
    | false => rcList ops m anc os (i + 1)
def sameL : List Nat → List Nat → Bool
  | [], [] => true
  | a :: l, b :: m => Nat.beq a b && sameL l m
  | _, _ => false
def sameB : Bool → Bool → Bool
  | true, true => true
  | false, false => true
  | _, _ => false
/-- The operations that could be run here, if those of the bank were made; each is one that is ready. -/
def openE (bk m : Nat) : List Oper → Nat → List (Nat × Oper)
  | [], _ => []
  | o :: os, i => match !m.testBit i && !bk.testBit i && bindsAll (m ||| bk) o.after.toList with
    | true => (i, o) :: openE bk m os (i + 1)
    | false => openE bk m os (i + 1)
def allReady (m : Nat) : List (Nat × Oper) → Bool
  | [] => true
  | (_, o) :: l => bindsAll m o.after.toList && allReady m l
/-- All that is still to come, but for those of the bank, stands behind it. -/
def behind (as : List Nat) (bk m i : Nat) : List Oper → Nat → Bool
  | [], _ => true
  | _ :: os, j => (m.testBit j || bk.testBit j || Nat.beq i j || (as.getD j 0).testBit i) && behind as bk m i os (j + 1)
/-- 'rest': what is still to come of the operations that are ready here; none: a new place. -/
def planOk (ops : List Oper) (as : List Nat) (bk : Nat) : Plan → Nat → Option (List (Nat × Oper)) → Bool
  | .done, m, none => (match nextV m ops 0 with
    | some _ => false
    | none => true) && (match readyE m ops 0 with
    | [] => true
    | _ => false)
  | .take i g p, m, none => match nextV m ops 0 with
    | some (j, _) => Nat.beq i j && sameB g (isGuard i ops) && planOk ops as bk p (m ||| 2 ^ i) none
    | none => false
  | .last i g rc p, m, r => (match r with
      | none => (match nextV m ops 0 with
        | some _ => false
        | none => allReady m (openE bk m ops 0))
      | some _ => true) && (match r.getD (openE bk m ops 0) with
    | [(j, _)] => Nat.beq i j && sameB g (isGuard i ops) && sameL rc (rcList ops m (as.getD i 0) ops 0) && planOk ops as bk p (m ||| 2 ^ i) none
    | _ => false)
  | .alt i g rc p rest, m, r => (match r with
      | none => (match nextV m ops 0 with
        | some _ => false
        | none => allReady m (openE bk m ops 0))
      | some _ => true) && (match r.getD (openE bk m ops 0) with
    | (j, _) :: l => Nat.beq i j && sameB g (isGuard i ops) && sameL rc (rcList ops m (as.getD i 0) ops 0) && planOk ops as bk p (m ||| 2 ^ i) none && planOk ops as bk rest m (some l)
    | [] => false)
  | .cash i rc p, m, none => bk.testBit i && !m.testBit i && (match nextV m ops 0 with
    | some _ => false
    | none => true) && behind as bk m i ops 0 && sameL rc (rcList ops m 0 ops 0) && planOk ops as bk p (m ||| 2 ^ i) none
  | _, _, _ => false
def bankOk (bk : Nat) : List Oper → Nat → Bool
  | [], _ => true
  | o :: os, i => (!bk.testBit i || bankOp o) && bankOk bk os (i + 1)
def regOk (ops : List Oper) (p : Plan) : Bool := drawOk ops (ancs ops []) ops 0 && bankOk (cashes p) ops 0 && planOk ops (ancs ops []) (cashes p) p 0 none

end Go.J

set_option linter.unusedSimpArgs false
set_option linter.unusedVariables false
set_option linter.unusedSectionVars false

namespace Go.J

/-! The slots that an operation looks at. -/
def Agree (xs : List Operand) (fr fr2 : List T) : Prop := ∀ t, Operand.tmp t ∈ xs → fr2[t]? = fr[t]?

theorem lgetK_mk {α : Type} {k : α → Prop} : ∀ {l : List α} {n : Nat} {x : α}, l[n]? = some x → k x → lgetK l n k
  | [], _, _, h, _ => by simp at h
  | y :: _, 0, x, h, hk => by simp at h; subst h; exact hk
  | _ :: l, n + 1, x, h, hk => lgetK_mk (l := l) (n := n) (by simpa using h) hk

theorem lsetK_mk {α : Type} {x : α} : ∀ {l : List α} {n : Nat} {k : List α → Prop}, n < l.length → k (l.set n x) → lsetK l n x k
  | [], _, _, h, _ => by simp at h
  | y :: _, 0, _, _, hk => hk
  | y :: l, n + 1, k, h, hk => lsetK_mk (l := l) (n := n) (k := fun l => k (y :: l)) (by simpa using h) (by simpa using hk)

theorem evalK_congr {fr fr2 : List T} {o : Operand} {k k' : T → Prop} (h : evalK fr o k) (ha : ∀ t, o = .tmp t → fr2[t]? = fr[t]?) (hk : ∀ x, k x → k' x) : evalK fr2 o k' := by
  cases o with
  | tmp t =>
    obtain ⟨x, hx, hk0⟩ := lgetK_out h
    exact lgetK_mk ((ha t rfl).trans hx) (hk x hk0)
  | const c => exact hk _ h
  | func f => exact hk _ h
  | global g => exact h.elim

theorem evalsK_congr {fr fr2 : List T} : ∀ {os : List Operand} {k k' : List T → Prop}, evalsK fr os k → (∀ t, .tmp t ∈ os → fr2[t]? = fr[t]?) → (∀ x, k x → k' x) → evalsK fr2 os k'
  | [], _, _, h, _, hk => hk _ h
  | o :: os, k, k', h, ha, hk => evalK_congr h (fun t ht => ha t (by simp [ht])) fun x hx => evalsK_congr hx (fun t ht => ha t (by simp [ht])) fun xs hxs => hk _ hxs

theorem partsK_congr {fr fr2 : List T} : ∀ {ps : List (Nat × Operand)} {k k' : List (Nat × T) → Prop}, partsK fr ps k → (∀ t, .tmp t ∈ ps.map (·.2) → fr2[t]? = fr[t]?) → (∀ x, k x → k' x) → partsK fr2 ps k'
  | [], _, _, h, _, hk => hk _ h
  | (i, o) :: ps, k, k', h, ha, hk => evalK_congr h (fun t ht => ha t (by simp [ht])) fun x hx => by
    revert hx
    cases x.known
    · exact fun h => h
    · exact fun hx => partsK_congr hx (fun t ht => ha t (by simp at ht ⊢; exact .inr ht)) fun xs hxs => hk _ hxs

theorem loK_congr {fr fr2 : List T} {lo : Option Operand} {d : Int} {k k' : Int → Prop} (h : loK fr lo d k) (ha : ∀ t, .tmp t ∈ lo.toArray → fr2[t]? = fr[t]?) (hk : ∀ x, k x → k' x) : loK fr2 lo d k' := by
  cases lo with
  | none => exact hk _ h
  | some o =>
    refine evalK_congr h (fun t ht => ha t (by simp [ht])) fun x hx => ?_
    revert hx
    split
    · exact hk _
    · exact fun h => h

theorem tyK_mono {l : List (Nat × TyI)} {t : TypeId} {k k' : TyI → Prop} (h : tyK l t k) (hk : ∀ y, k y → k' y) : tyK l t k' := by
  obtain ⟨y, _, h1, _, h2⟩ := tyK_both h h
  exact h2 _ (hk y h1)

theorem den_congr {E : Env} {o : Op} {fr fr2 : List T} {hp : Hp} {nx : Nat} {k : T → Hp → Nat → Prop} (h : denOp E o fr hp nx k) (ha : Agree o.operands.toList fr fr2) : denOp E o fr2 hp nx k := by
  have a1 : ∀ {x : Operand}, x ∈ o.operands.toList → ∀ t, x = .tmp t → fr2[t]? = fr[t]? := fun hx t ht => ha t (ht ▸ hx)
  cases o
  case move x => exact evalK_congr h (a1 (by simp [Op.operands])) fun _ h => h
  case assign x => exact evalK_congr h (a1 (by simp [Op.operands])) fun _ h => h
  case pick c a b =>
    refine evalK_congr h (a1 (by simp [Op.operands])) fun x hx => ?_
    revert hx
    split
    · exact fun hx => evalK_congr hx (a1 (by simp [Op.operands])) fun _ h => h
    · exact fun hx => evalK_congr hx (a1 (by simp [Op.operands])) fun _ h => h
    · exact fun hx => ⟨fun hc => evalK_congr (hx.1 hc) (a1 (by simp [Op.operands])) fun _ h => h, fun hc => evalK_congr (hx.2 hc) (a1 (by simp [Op.operands])) fun _ h => h⟩
    · exact fun h => h
  case alloc t => exact h
  case box t x => exact evalK_congr h (a1 (by simp [Op.operands])) fun _ h => h
  case build t ps => exact tyK_mono h fun y hy => partsK_congr hy (fun t ht => ha t (by simpa [Op.operands] using ht)) fun _ h => h
  case buildSlice t n ps =>
    refine tyK_mono h fun y hy => ?_
    revert hy
    split
    · exact fun hy => tyK_mono hy fun z hz => partsK_congr hz (fun t ht => ha t (by simpa [Op.operands] using ht)) fun _ h => h
    · exact fun h => h
  case load t x => exact evalK_congr h (a1 (by simp [Op.operands])) fun _ h => h
  case store t x y => exact evalK_congr h (a1 (by simp [Op.operands])) fun x hx => tyK_mono hx fun y hy => evalK_congr hy (a1 (by simp [Op.operands])) fun _ h => h
  case nilCheck x => exact evalK_congr h (a1 (by simp [Op.operands])) fun _ h => h
  case binOp op t x y b => exact evalK_congr h (a1 (by simp [Op.operands])) fun x hx => evalK_congr hx (a1 (by simp [Op.operands])) fun _ h => h
  case unOp op t x => exact evalK_congr h (a1 (by simp [Op.operands])) fun _ h => h
  case convert s t x => exact evalK_congr h (a1 (by simp [Op.operands])) fun _ h => h
  case makeSlice t l c =>
    refine tyK_mono h fun y hy => ?_
    revert hy
    split
    · refine fun hy => tyK_mono hy fun z hz => evalK_congr hz (a1 (by simp [Op.operands])) fun x hx => ?_
      revert hx
      split
      · exact fun hx => evalK_congr hx (a1 (by simp [Op.operands])) fun _ h => h
      · exact fun h => h
    · exact fun h => h
  case slice t x lo hi mx =>
    cases mx with
    | some _ => exact h.elim
    | none =>
      refine evalK_congr h (a1 (by simp [Op.operands])) fun x hx => loK_congr hx (fun t ht => ha t (by simp only [Op.operands, Array.toList_append, List.mem_append]; exact .inl (.inl (.inr (by simpa using ht))))) fun n hn => tyK_mono hn fun y hy => ?_
      have hb : ∀ {d : Int} {k k' : Int → Prop}, loK fr hi d k → (∀ x, k x → k' x) → loK fr2 hi d k' := fun h hk => loK_congr h (fun t ht => ha t (by simp only [Op.operands, Array.toList_append, List.mem_append]; exact .inl (.inr (by simpa using ht)))) hk
      revert hy
      split
      · split
        · exact fun hy => hb hy fun _ h => h
        · exact fun h => h
      · refine fun hy => tyK_mono hy fun z hz => ?_
        revert hz
        split
        · split
          · exact fun hy => hb hy fun _ h => h
          · exact fun h => h
        · exact fun hy => hb hy fun _ h => h
        · intro hy
          have : ∀ (hp : Hp) (r : Nat) (k k' : Chunk → Prop), lookK hp r k → (∀ c, k c → k' c) → lookK hp r k' := by
            intro hp r k k' h hk
            induction hp with
            | nil => exact h
            | cons p hp ih =>
              obtain ⟨r', c⟩ := p
              unfold lookK at h ⊢
              cases hb : Nat.beq r' r <;> rw [hb] at h
              · exact ih h
              · exact hk _ h
          refine this _ _ _ _ hy fun c hc => ?_
          revert hc
          split
          · split
            · exact fun hy => hb hy fun _ h => h
            · exact fun h => h
          · split
            · exact fun hy => hb hy fun _ h => h
            · exact fun h => h
          · exact fun h => h
        · split
          · exact fun hy => hb hy fun _ h => h
          · exact fun h => h
        · exact fun h => h
      · refine fun hy => tyK_mono hy fun z hz => ?_
        revert hz
        split
        · split
          · exact fun hy => hb hy fun _ h => h
          · exact fun h => h
        · exact fun h => h
      · exact fun h => h
  case fieldAddr t x f => exact evalK_congr h (a1 (by simp [Op.operands])) fun _ h => h
  case field t x f => exact evalK_congr h (a1 (by simp [Op.operands])) fun _ h => h
  case indexAddr t x i => exact evalK_congr h (a1 (by simp [Op.operands])) fun x hx => evalK_congr hx (a1 (by simp [Op.operands])) fun _ h => h
  case index t x i => exact evalK_congr h (a1 (by simp [Op.operands])) fun x hx => evalK_congr hx (a1 (by simp [Op.operands])) fun _ h => h
  case extract x i => exact evalK_congr h (a1 (by simp [Op.operands])) fun _ h => h
  case call c =>
    have hargs : ∀ t, .tmp t ∈ c.args.toList → fr2[t]? = fr[t]? := fun t ht => ha t (by simp [Op.operands, Call.operands]; exact .inr (by simpa using ht))
    have : ∀ (l : List (Nat × (List T → Hp → Nat → (T → Hp → Nat → Prop) → Prop))) (f : FuncId) (k k' : _ → Prop), denOp.callK l f k → (∀ g, k g → k' g) → denOp.callK l f k' := by
      intro l f k k' h hk
      induction l with
      | nil => exact h
      | cons p l ih =>
        obtain ⟨f', g⟩ := p
        unfold denOp.callK at h ⊢
        cases hb : Nat.beq f' f <;> rw [hb] at h
        · exact ih h
        · exact hk _ h
    simp only [denOp] at h ⊢
    split at h
    · split at h
      · exact tyK_mono h fun y hy => evalsK_congr hy hargs fun _ h => h
      · exact h
    · exact evalsK_congr h hargs fun _ h => h
    · exact evalsK_congr h hargs fun _ h => h
    · exact evalsK_congr h hargs fun _ h => h
    · split at h
      · refine tyK_mono h fun y hy => ?_
        revert hy
        split
        · refine fun hy => tyK_mono hy fun z hz => ?_
          revert hz
          split
          · exact fun hz => evalsK_congr hz hargs fun _ h => h
          · exact fun h => h
        · exact fun h => h
      · exact h
    · exact this _ _ _ _ h fun g hg => evalsK_congr hg hargs fun _ h => h
    · next y hy =>
      refine evalK_congr (o := .tmp y) h (a1 (by simp [Op.operands, Call.operands, hy])) fun u hu => ?_
      revert hu
      split
      · exact fun hu => this _ _ _ _ hu fun g hg => evalsK_congr hg hargs fun _ h => h
      · exact fun h => h
    · exact h
  case makeFunc fn first cap =>
    revert h
    simp only [denOp]
    split
    · exact fun h => evalsK_congr h (fun t ht => ha t (by simp only [Op.operands, Array.toList_append, List.mem_append]; exact .inr ht)) fun _ h => h
    · exact fun h => h
  all_goals exact h.elim

end Go.J

set_option linter.unusedSimpArgs false
set_option linter.unusedVariables false
set_option linter.unusedSectionVars false

namespace Go.J

/-- There is an outcome, and it alone counts. -/
def Det {α : Type} (p : (α → Prop) → Prop) : Prop := ∀ k, p k → ∃ x, k x ∧ ∀ k' : α → Prop, k' x → p k'

theorem Det.pure {α : Type} (a : α) : Det fun k : α → Prop => k a := fun _ h => ⟨a, h, fun _ h => h⟩
theorem Det.no {α : Type} : Det fun _ : α → Prop => False := fun _ h => h.elim
theorem Det.bind {α β : Type} {p : (α → Prop) → Prop} {q : α → (β → Prop) → Prop} (hp : Det p) (hq : ∀ x, Det (q x)) : Det fun k => p fun x => q x k := fun k h => by
  obtain ⟨x, h1, h2⟩ := hp _ h
  obtain ⟨y, h3, h4⟩ := hq x _ h1
  exact ⟨y, h3, fun k' hk => h2 _ (h4 k' hk)⟩
theorem Det.and {α : Type} {c : Prop} {q : (α → Prop) → Prop} (hq : Det q) : Det fun k => c ∧ q k := fun k h => by
  obtain ⟨x, h1, h2⟩ := hq _ h.2
  exact ⟨x, h1, fun k' hk => ⟨h.1, h2 k' hk⟩⟩
theorem Det.split {α : Type} {b : Bool} {q r : (α → Prop) → Prop} (hq : Det q) (hr : Det r) : Det fun k => (b = true → q k) ∧ (b = false → r k) := fun k h => by
  cases b with
  | true =>
    obtain ⟨x, h1, h2⟩ := hq _ (h.1 rfl)
    exact ⟨x, h1, fun k' hk => ⟨fun _ => h2 k' hk, fun e => by cases e⟩⟩
  | false =>
    obtain ⟨x, h1, h2⟩ := hr _ (h.2 rfl)
    exact ⟨x, h1, fun k' hk => ⟨fun e => (by cases e), fun _ => h2 k' hk⟩⟩
theorem Det.map {α β : Type} {p : (α → Prop) → Prop} (hp : Det p) (f : α → β) : Det fun k : β → Prop => p fun x => k (f x) := hp.bind fun x => Det.pure (f x)

theorem lgetK_det {α : Type} (l : List α) (n : Nat) : Det (lgetK l n) := fun k h => by
  obtain ⟨x, h1, h2⟩ := lgetK_out h
  exact ⟨x, h2, fun k' hk => lgetK_mk h1 hk⟩
theorem lsetK_det {α : Type} (l : List α) (n : Nat) (x : α) : Det (lsetK l n x) := fun k h => by
  obtain ⟨h1, h2⟩ := lsetK_out h
  exact ⟨_, h2, fun k' hk => lsetK_mk h1 hk⟩
theorem evalK_det (fr : List T) (o : Operand) : Det (evalK fr o) := by
  cases o with
  | tmp t => exact lgetK_det fr t
  | const c => exact Det.pure _
  | func f => exact Det.pure _
  | global g => exact Det.no
theorem evalsK_det (fr : List T) : ∀ os : List Operand, Det (evalsK fr os)
  | [] => Det.pure _
  | o :: os => (evalK_det fr o).bind fun x => (evalsK_det fr os).map (x :: ·)
theorem tyK_det (l : List (Nat × TyI)) (t : TypeId) : Det (tyK l t) := by
  intro k h
  obtain ⟨y, _, h1, _, h2⟩ := tyK_both h h
  exact ⟨y, h1, h2⟩
theorem lookK_det (hp : Hp) (r : Nat) : Det (lookK hp r) := by
  induction hp with
  | nil => exact Det.no
  | cons p l ih =>
    obtain ⟨t', i⟩ := p
    intro k h
    unfold lookK at h
    cases hb : Nat.beq t' r <;> rw [hb] at h
    · obtain ⟨x, h1, h2⟩ := ih _ h
      exact ⟨x, h1, fun k' hk => by unfold lookK; rw [hb]; exact h2 k' hk⟩
    · exact ⟨i, h, fun k' hk => by unfold lookK; rw [hb]; exact hk⟩
theorem castK_det (e' e : El) (xs : List e'.ty) : Det (castK e' e xs) := fun k h => by
  obtain ⟨he, hk⟩ := castK_out h
  subst he
  exact ⟨xs, hk, fun k' hk' => castK_mk hk'⟩
theorem fieldK_det : ∀ (i o : Nat) (t : T), Det (fieldK i o t)
  | 0, o, .cons t ts => by
    cases o with
    | zero => exact Det.pure t
    | succ o => exact Det.no
  | i + 1, o, .cons t ts => by
    show Det fun k => fieldK (i + 1) o (.cons t ts) k
    simp only [fieldK]
    cases t.eat o
    · exact Det.no
    · exact fieldK_det i _ ts
  | 0, _, .v _ => by simp only [fieldK]; exact Det.no
  | 0, _, .nil => by simp only [fieldK]; exact Det.no
  | 0, _, .arr _ _ _ => by simp only [fieldK]; exact Det.no
  | 0, _, .tup _ => by simp only [fieldK]; exact Det.no
  | _ + 1, _, .v _ => by simp only [fieldK]; exact Det.no
  | _ + 1, _, .nil => by simp only [fieldK]; exact Det.no
  | _ + 1, _, .arr _ _ _ => by simp only [fieldK]; exact Det.no
  | _ + 1, _, .tup _ => by simp only [fieldK]; exact Det.no
theorem tgetK_det : ∀ (p : List Stp) (t : T), Det (tgetK p t)
  | [], t => Det.pure t
  | .f i o :: p, t => by
    show Det fun k => tgetK (.f i o :: p) t k
    simp only [tgetK]
    exact (fieldK_det i o t).bind fun t => tgetK_det p t
  | .x i sz :: p, .arr e xs n => by
    show Det fun k => tgetK (.x i sz :: p) (.arr e xs n) k
    simp only [tgetK]
    cases Nat.beq sz e.sz
    · exact Det.no
    · exact (tgetK_det p _).and
  | .x i sz :: p, .cons t ts => by
    show Det fun k => tgetK (.x i sz :: p) (.cons t ts) k
    simp only [tgetK]
    exact (fieldK_det i _ _).bind fun t => tgetK_det p t
  | .x _ _ :: _, .v _ => by simp only [tgetK]; exact Det.no
  | .x _ _ :: _, .nil => by simp only [tgetK]; exact Det.no
  | .x _ _ :: _, .tup _ => by simp only [tgetK]; exact Det.no
theorem shapeK_det (y : Ty) (t : T) : Det (shapeK y t) := by
  cases y <;> cases t <;> first | exact Det.pure _ | exact Det.no
theorem placeK_det2 {α : Type} {q : TypeId → Nat → (α → Prop) → Prop} (hq : ∀ t d, Det (q t d)) : ∀ (fs : List (TypeId × Nat)) (f : Nat), Det fun k => placeK fs f fun t d => q t d k
  | [], _ => by simp only [placeK]; exact Det.no
  | (t, d) :: _, 0 => hq t d
  | _ :: fs, f + 1 => placeK_det2 hq fs f
theorem decK_det : ∀ (e : El) (t : T) (hp : Hp), Det (decK e t hp) := by
  intro e
  induction e with
  | u8 =>
    intro t hp
    cases t with
    | v x =>
      cases x
      case int ik n =>
        show Det fun k => decK .u8 (.v (.int ik n)) hp k
        simp only [decK]
        cases ik == .u8
        · exact Det.no
        · exact (Det.pure _).and
      all_goals (simp only [decK]; exact Det.no)
    | _ => simp only [decK]; exact Det.no
  | int jk =>
    intro t hp
    cases t with
    | v x =>
      cases x
      case int ik n =>
        show Det fun k => decK (.int jk) (.v (.int ik n)) hp k
        simp only [decK]
        cases jk == ik
        · exact Det.no
        · exact Det.pure _
      all_goals (simp only [decK]; exact Det.no)
    | _ => simp only [decK]; exact Det.no
  | bool =>
    intro t hp
    cases t with
    | v x => cases x <;> first | exact Det.pure _ | (simp only [decK]; exact Det.no)
    | _ => simp only [decK]; exact Det.no
  | str =>
    intro t hp
    cases t with
    | v x => cases x <;> first | exact Det.pure _ | (simp only [decK]; exact Det.no)
    | _ => simp only [decK]; exact Det.no
  | rd e _ =>
    intro t hp
    cases t with
    | v x => cases x <;> first | exact Det.pure _ | exact castK_det _ _ _ | (simp only [decK]; exact Det.no)
    | _ => simp only [decK]; exact Det.no
  | nil =>
    intro t hp
    cases t with
    | v x => cases x <;> (simp only [decK]; exact Det.no)
    | nil => exact Det.pure _
    | _ => simp only [decK]; exact Det.no
  | cons e es ih1 ih2 =>
    intro t hp
    cases t with
    | v x => cases x <;> (simp only [decK]; exact Det.no)
    | cons t ts =>
      show Det fun k => decK (.cons e es) (.cons t ts) hp k
      simp only [decK]
      exact (ih1 t hp).bind fun x => (ih2 ts hp).map fun y => (x, y)
    | _ => simp only [decK]; exact Det.no
  | ar n e _ =>
    intro t hp
    cases t with
    | v x => cases x <;> (simp only [decK]; exact Det.no)
    | arr e' xs n' =>
      show Det fun k => decK (.ar n e) (.arr e' xs n') hp k
      simp only [decK]
      cases Nat.beq n n'
      · exact Det.no
      · exact castK_det _ _ _
    | _ => simp only [decK]; exact Det.no
theorem rdK_det (e : El) (hp : Hp) (x : V) : Det (rdK e hp x) := by
  cases x
  case rd e' xs => exact castK_det _ _ _
  case nils => exact Det.pure _
  case own r =>
    show Det fun k => rdK e hp (.own r) k
    simp only [rdK]
    refine (lookK_det hp r).bind (q := fun c k => match c with
      | .row _ e' xs => castK e' e xs k
      | .fz _ e' xs => castK e' e xs k
      | .own _ => False) fun c => ?_
    cases c
    · exact Det.no
    · exact castK_det _ _ _
    · exact castK_det _ _ _
  case sl r p off len sz =>
    show Det fun k => rdK e hp (.sl r p off len sz) k
    simp only [rdK]
    refine (lookK_det hp r).bind fun c => (tgetK_det p c.tree).bind (q := fun t k => match t with
      | .arr e' xs _ => match Nat.beq sz e'.sz with
        | true => off + len ≤ xs.length ∧ castK e' e ((xs.drop off).take len) k
        | false => False
      | _ => False) fun t => ?_
    cases t
    case arr e' xs n =>
      show Det fun k => match Nat.beq sz e'.sz with
        | true => off + len ≤ xs.length ∧ castK e' e ((xs.drop off).take len) k
        | false => False
      cases Nat.beq sz e'.sz
      · exact Det.no
      · exact (castK_det _ _ _).and
    all_goals exact Det.no
  all_goals exact (show Det fun k => rdK e hp _ k from Det.no)
theorem loK_det (fr : List T) (lo : Option Operand) (d : Int) : Det (loK fr lo d) := by
  cases lo with
  | none => exact Det.pure _
  | some o =>
    show Det fun k => loK fr (some o) d k
    simp only [loK]
    refine (evalK_det fr o).bind (q := fun t k => match t with
      | .v (.int _ n) => k n
      | _ => False) fun t => ?_
    cases t with
    | v x => cases x <;> first | exact Det.pure _ | exact Det.no
    | _ => exact Det.no
theorem partsK_det (fr : List T) : ∀ ps : List (Nat × Operand), Det (partsK fr ps)
  | [] => Det.pure _
  | (i, o) :: ps => by
    show Det fun k => partsK fr ((i, o) :: ps) k
    simp only [partsK]
    refine (evalK_det fr o).bind (q := fun x k => match x.known with
      | false => False
      | true => partsK fr ps fun l => k ((i, x) :: l)) fun x => ?_
    cases x.known
    · exact Det.no
    · exact (partsK_det fr ps).map _
theorem setChk_det {new : T} : ∀ (i : Nat) (t : T), Det (setFieldChkK i t new)
  | 0, .cons t ts => by
    show Det fun k => setFieldChkK 0 (.cons t ts) new k
    simp only [setFieldChkK]
    cases sizeSame t new
    · exact Det.no
    · exact Det.pure _
  | i + 1, .cons t ts => (setChk_det i ts).map _
  | 0, .v _ => by simp only [setFieldChkK]; exact Det.no
  | 0, .nil => by simp only [setFieldChkK]; exact Det.no
  | 0, .arr _ _ _ => by simp only [setFieldChkK]; exact Det.no
  | 0, .tup _ => by simp only [setFieldChkK]; exact Det.no
  | _ + 1, .v _ => by simp only [setFieldChkK]; exact Det.no
  | _ + 1, .nil => by simp only [setFieldChkK]; exact Det.no
  | _ + 1, .arr _ _ _ => by simp only [setFieldChkK]; exact Det.no
  | _ + 1, .tup _ => by simp only [setFieldChkK]; exact Det.no
theorem fillSK_det : ∀ (ps : List (Nat × T)) (t : T), Det (fillSK t ps)
  | [], t => Det.pure _
  | (i, x) :: ps, t => (setChk_det i t).bind fun t => fillSK_det ps t
theorem fillAK_det (e : El) (hp : Hp) : ∀ (ps : List (Nat × T)) (xs : List e.ty), Det (fillAK e xs ps hp)
  | [], xs => Det.pure _
  | (i, x) :: ps, xs => (decK_det e x hp).bind fun x => (lsetK_det xs i x).bind fun xs => fillAK_det e hp ps xs
theorem cmpI_det (op : BinOp) (x y : Int) : Det (cmpI op x y) := by
  cases op <;> first | exact Det.pure _ | exact (show Det fun k => cmpI _ x y k from Det.no)
theorem binI_det (op : BinOp) (ik : IntKind) (x y : Int) : Det (binI op ik x y) := by
  cases op <;> first | exact Det.pure _ | exact (Det.pure _).and | exact (show Det fun k => binI _ ik x y k from Det.no)
theorem shI_det (op : BinOp) (ik : IntKind) (x y : Int) : Det (shI op ik x y) := by
  cases op <;> first | exact (Det.pure _).and | exact (show Det fun k => shI _ ik x y k from Det.no)
theorem eqOpK_det (op : BinOp) (r : V) : Det (denOp.eqOpK op r) := by
  cases op <;> first | exact Det.pure _ | exact (show Det fun k => denOp.eqOpK _ r k from Det.no)
theorem eqTK_det : ∀ (x y : T), Det (eqTK x y)
  | .nil, .nil => Det.pure _
  | .cons t ts, .cons u us => (eqTK_det t u).bind fun x => (eqTK_det ts us).map fun y => andV x y
  | .arr e xs n, .arr e' ys n' => by
    show Det fun k => eqTK (.arr e xs n) (.arr e' ys n') k
    simp only [eqTK]
    cases Nat.beq n n'
    · exact Det.no
    · exact (castK_det _ _ _).map _
  | .v x, .v y => by
    show Det fun k => eqTK (.v x) (.v y) k
    cases x <;> cases y <;> simp only [eqTK, boolV] <;> first
      | exact Det.pure _
      | exact Det.no
      | skip
    rename_i a x b y
    cases a == b
    · exact Det.no
    · exact Det.pure _
  | .nil, .v _ => by simp only [eqTK]; exact Det.no
  | .nil, .cons _ _ => by simp only [eqTK]; exact Det.no
  | .nil, .arr _ _ _ => by simp only [eqTK]; exact Det.no
  | .nil, .tup _ => by simp only [eqTK]; exact Det.no
  | .cons _ _, .v _ => by simp only [eqTK]; exact Det.no
  | .cons _ _, .nil => by simp only [eqTK]; exact Det.no
  | .cons _ _, .arr _ _ _ => by simp only [eqTK]; exact Det.no
  | .cons _ _, .tup _ => by simp only [eqTK]; exact Det.no
  | .arr _ _ _, .v _ => by simp only [eqTK]; exact Det.no
  | .arr _ _ _, .nil => by simp only [eqTK]; exact Det.no
  | .arr _ _ _, .cons _ _ => by simp only [eqTK]; exact Det.no
  | .arr _ _ _, .tup _ => by simp only [eqTK]; exact Det.no
  | .v x, .nil => by cases x <;> exact (show Det fun k => eqTK (.v _) _ k from Det.no)
  | .v x, .cons _ _ => by cases x <;> exact (show Det fun k => eqTK (.v _) _ k from Det.no)
  | .v x, .arr _ _ _ => by cases x <;> exact (show Det fun k => eqTK (.v _) _ k from Det.no)
  | .v x, .tup _ => by cases x <;> exact (show Det fun k => eqTK (.v _) _ k from Det.no)
  | .tup _, _ => by simp only [eqTK]; exact Det.no

theorem tupGetK_det : ∀ (i : Nat) (t : T), Det (denOp.tupGetK i t)
  | 0, .cons t _ => Det.pure _
  | i + 1, .cons _ ts => tupGetK_det i ts
  | 0, .v _ => by simp only [denOp.tupGetK]; exact Det.no
  | 0, .nil => by simp only [denOp.tupGetK]; exact Det.no
  | 0, .arr _ _ _ => by simp only [denOp.tupGetK]; exact Det.no
  | 0, .tup _ => by simp only [denOp.tupGetK]; exact Det.no
  | _ + 1, .v _ => by simp only [denOp.tupGetK]; exact Det.no
  | _ + 1, .nil => by simp only [denOp.tupGetK]; exact Det.no
  | _ + 1, .arr _ _ _ => by simp only [denOp.tupGetK]; exact Det.no
  | _ + 1, .tup _ => by simp only [denOp.tupGetK]; exact Det.no

end Go.J

set_option linter.unusedSimpArgs false
set_option linter.unusedVariables false
set_option linter.unusedSectionVars false

namespace Go.J

def notNils : T → Prop
  | .v .nils => False
  | _ => True
def noNilP (o : Op) (fr : List T) : Prop :=
  match o with
  | .binOp _ _ _ y _ => evalK fr y notNils
  | _ => True

/-- What a value operation asks of whoever takes its value. -/
def valK (E : Env) (o : Op) (fr : List T) (hp : Hp) (k : T → Prop) : Prop := denOp E o fr hp 0 fun x _ _ => k x

theorem noNilK_out {o : Op} {fr : List T} {q : Prop} (h : noNilK o fr q) : noNilP o fr ∧ q := by
  cases o <;> first | exact ⟨trivial, h⟩ | skip
  rename_i y _
  obtain ⟨u, hu, hk⟩ := evalK_det fr y _ h
  revert hu
  split
  · exact fun h => h.elim
  · next hn =>
    refine fun hq => ⟨hk notNils ?_, hq⟩
    unfold notNils
    split
    · exact (hn rfl).elim
    · trivial
theorem noNilK_mk {o : Op} {fr : List T} {q : Prop} (h : noNilP o fr) (hq : q) : noNilK o fr q := by
  cases o <;> first | exact hq | skip
  refine evalK_congr h (fun _ _ => rfl) fun u hu => ?_
  split
  · exact hu
  · exact hq

theorem val_same {E : Env} {o : Op} {fr : List T} {hp : Hp} {nx : Nat} {k : T → Hp → Nat → Prop} (hv : valueOp o = true) : denOp E o fr hp nx k = denOp E o fr hp 0 (fun x _ _ => k x hp nx) := by
  cases o <;> first | rfl | (simp only [valueOp, Bool.false_eq_true] at hv; done) | skip
  case call c =>
    cases hc : c.callee with
    | builtin b => cases b <;> simp only [denOp, hc] <;> first | rfl | (simp [valueOp, hc] at hv)
    | value x => simp [valueOp, hc] at hv
    | invoke _ _ => simp [valueOp, hc] at hv

theorem decK_hp : ∀ (e : El) (t : T) (hp hp2 : Hp) (k : e.ty → Prop), decK e t hp k = decK e t hp2 k := by
  intro e
  induction e with
  | cons e es ih1 ih2 =>
    intro t hp hp2 k
    cases t with
    | cons t ts =>
      simp only [decK]
      rw [ih1 t hp hp2]
      congr 1
      funext x
      exact ih2 ts hp hp2 _
    | v x => cases x <;> rfl
    | _ => rfl
  | u8 => intro t hp hp2 k; cases t with
    | v x => cases x <;> rfl
    | _ => rfl
  | int _ => intro t hp hp2 k; cases t with
    | v x => cases x <;> rfl
    | _ => rfl
  | bool => intro t hp hp2 k; cases t with
    | v x => cases x <;> rfl
    | _ => rfl
  | str => intro t hp hp2 k; cases t with
    | v x => cases x <;> rfl
    | _ => rfl
  | rd _ _ => intro t hp hp2 k; cases t with
    | v x => cases x <;> rfl
    | _ => rfl
  | nil => intro t hp hp2 k; cases t with
    | v x => cases x <;> rfl
    | _ => rfl
  | ar _ _ _ => intro t hp hp2 k; cases t with
    | v x => cases x <;> rfl
    | _ => rfl

theorem fillAK_hp (e : El) : ∀ (ps : List (Nat × T)) (xs : List e.ty) (hp hp2 : Hp) (k : List e.ty → Prop), fillAK e xs ps hp k = fillAK e xs ps hp2 k
  | [], _, _, _, _ => rfl
  | (i, x) :: ps, xs, hp, hp2, k => by
    simp only [fillAK]
    rw [decK_hp e x hp hp2]
    congr 1
    funext y
    congr 1
    funext ys
    exact fillAK_hp e ps ys hp hp2 k

theorem evalK_iff {fr : List T} {o : Operand} {k k' : T → Prop} (hk : ∀ x, k x ↔ k' x) : evalK fr o k ↔ evalK fr o k' :=
  ⟨fun h => evalK_congr h (fun _ _ => rfl) fun x => (hk x).1, fun h => evalK_congr h (fun _ _ => rfl) fun x => (hk x).2⟩

/-- Both sides hang on the same operand. -/
theorem evalK_two {fr : List T} {o : Operand} {p q r : T → Prop} (h1 : evalK fr o p) (h2 : evalK fr o q) (h : ∀ x, p x → q x → r x) : evalK fr o r := by
  obtain ⟨x, hx, hp⟩ := evalK_det fr o _ h1
  obtain ⟨y, hy, hq⟩ := evalK_det fr o _ h2
  obtain ⟨z, e1, e2⟩ := evalK_det fr o _ (hp (fun t => t = x) rfl)
  subst e1
  obtain ⟨z', e1', _⟩ := evalK_det fr o _ (hq (fun t => t = y) rfl)
  subst e1'
  have : z = z' := by
    cases o with
    | tmp t =>
      obtain ⟨a, ha, ka⟩ := lgetK_out (hp (fun t => t = z) rfl)
      obtain ⟨b, hb, kb⟩ := lgetK_out (hq (fun t => t = z') rfl)
      rw [ha] at hb
      simp at hb
      rw [← ka, ← kb, hb]
    | const c => exact (hp (fun t => t = z) rfl).symm.trans (hq (fun t => t = z') rfl)
    | func f => exact (hp (fun t => t = z) rfl).symm.trans (hq (fun t => t = z') rfl)
    | global g => exact h1.elim
  subst this
  exact e2 r (h z hx hy)

/-- A known operand. -/
theorem evalK_at {fr : List T} {o : Operand} {p : T → Prop} (h : evalK fr o p) : ∃ t, p t ∧ ∀ q : T → Prop, evalK fr o q ↔ q t := by
  cases o with
  | tmp i =>
    obtain ⟨t, ht, hp⟩ := lgetK_out h
    refine ⟨t, hp, fun q => ⟨fun hq => ?_, fun hq => lgetK_mk ht hq⟩⟩
    obtain ⟨t', ht', hq'⟩ := lgetK_out hq
    rw [ht] at ht'
    simp at ht'
    subst ht'
    exact hq'
  | const c => exact ⟨_, h, fun q => Iff.rfl⟩
  | func f => exact ⟨_, h, fun q => Iff.rfl⟩
  | global g => exact h.elim

theorem valK_hp {E : Env} {o : Op} {fr : List T} {hp hp2 : Hp} {k : T → Prop} (hv : valueOp o = true) (hr : readsHp o = false) (hn : noNilP o fr) (h : valK E o fr hp k) : valK E o fr hp2 k := by
  cases o <;> first | exact h | (simp only [valueOp, Bool.false_eq_true] at hv; done) | (simp only [readsHp, Bool.true_eq_false] at hr; done) | skip
  case build t ps =>
    simp only [valK, denOp] at h ⊢
    refine tyK_mono h fun y hy => partsK_congr hy (fun _ _ => rfl) fun l hl => ?_
    revert hl
    split
    · exact fun h => h
    · split
      · exact fun h => by rw [fillAK_hp _ _ _ hp2 hp]; exact h
      · exact fun h => h
    · exact fun h => h
  case binOp op t x y b =>
    obtain ⟨ty, hty, hat⟩ := evalK_at hn
    simp only [valK, denOp] at h ⊢
    refine evalK_congr h (fun _ _ => rfl) fun tx htx => ?_
    rw [hat] at htx ⊢
    revert htx
    split
    · exact fun h => h
    · exact fun h => h
    · refine fun hq => tyK_mono hq fun ti hti => ?_
      revert hti
      split
      · exact fun h => h
      · exact hty.elim
      · exact fun h => h
      · exact fun h => h
      · exact fun h => h
      · exact fun h => h
      · exact fun h => h

theorem valK_det {E : Env} {o : Op} {fr : List T} {hp : Hp} (hv : valueOp o = true) (hn : noNilP o fr) : Det (valK E o fr hp) := by
  show Det fun k => valK E o fr hp k
  have dsl : ∀ {y : Ty} {q : (T → Prop) → Prop}, Det q → Det fun k => slK y (q k) := by
    intro y q hq
    cases y <;> first | exact hq | exact Det.no
  have dst : ∀ {y : Ty} {q : (T → Prop) → Prop}, Det q → Det fun k => strK y (q k) := by
    intro y q hq
    cases y <;> first | exact hq | exact Det.no
  have dpt : ∀ {y : Ty} {q : (T → Prop) → Prop}, Det q → Det fun k => ptrK y (q k) := by
    intro y q hq
    cases y <;> first | exact hq | exact Det.no
  cases o <;> first | (simp only [valueOp, Bool.false_eq_true] at hv; done) | simp only [valK, denOp]
  case move x => exact (evalK_det fr x)
  case pick c a b =>
    refine (evalK_det fr c).bind fun t => ?_
    cases t with
    | v x => cases x <;> first | exact evalK_det fr a | exact evalK_det fr b | exact Det.split (evalK_det fr a) (evalK_det fr b) | exact Det.no
    | _ => exact Det.no
  case nilCheck x =>
    refine (evalK_det fr x).bind fun t => ?_
    cases t with
    | v x => cases x <;> first | exact Det.pure _ | exact Det.no
    | _ => exact Det.no
  case fieldAddr t x f =>
    refine (evalK_det fr x).bind fun x => (tyK_det E.ty t).bind fun y => ?_
    cases y.k
    case st fs =>
      refine placeK_det2 (fun _ d => ?_) fs f
      cases x with
      | v x => cases x <;> first | exact Det.pure _ | exact Det.no
      | _ => exact Det.no
    all_goals exact Det.no
  case field t x f =>
    refine (evalK_det fr x).bind fun x => (tyK_det E.ty t).bind fun y => ?_
    cases y.k
    case st fs =>
      refine placeK_det2 (fun ft d => (tyK_det E.ty ft).bind fun z => (fieldK_det f d x).bind fun t => ?_) fs f
      cases sizeEq t z.size
      · exact Det.no
      · exact shapeK_det _ _
    all_goals exact Det.no
  case load t x =>
    refine (evalK_det fr x).bind fun x => (tyK_det E.ty t).bind fun y => ?_
    cases x with
    | v x =>
      cases x
      case ptr r p =>
        refine (lookK_det hp r).bind fun c => (tgetK_det p c.tree).bind fun t => ?_
        cases sizeEq t y.size
        · exact Det.no
        · exact shapeK_det _ _
      case rp e xs i p =>
        refine (tgetK_det p _).bind fun t => ?_
        cases sizeEq t y.size
        · exact Det.no
        · exact shapeK_det _ _
      all_goals exact Det.no
    | _ => exact Det.no
  case build t ps =>
    refine (tyK_det E.ty t).bind fun y => (partsK_det fr ps.toList).bind fun l => ?_
    cases y.k
    case st fs => cases y.zero <;> first | exact fillSK_det l _ | exact Det.no
    case ar n e => cases y.zero <;> first | exact (fillAK_det _ hp l _).map fun xs => T.arr _ xs _ | exact Det.no
    all_goals exact Det.no
  case binOp op t x y b =>
    obtain ⟨ty, hty, hat⟩ := evalK_at hn
    refine (evalK_det fr x).bind fun tx => ?_
    simp only [hat]
    split
    · split
      · exact (shI_det op _ _ _).map _
      · split
        · exact (binI_det op _ _ _).map _
        · exact Det.no
    · cases op <;> first | exact Det.pure _ | exact (Det.pure _).and | exact Det.no
    · refine (tyK_det E.ty t).bind fun ti => ?_
      split
      · exact hty.elim
      · exact hty.elim
      · exact hty.elim
      · exact dpt ((eqOpK_det op _).map _)
      · exact dpt ((eqOpK_det op _).map _)
      · exact dpt ((eqOpK_det op _).map _)
      · split
        · exact (eqTK_det _ _).bind fun r => (eqOpK_det op r).map _
        · exact Det.no
  case unOp op t x =>
    refine (evalK_det fr x).bind fun x => ?_
    cases op <;> cases x <;> first | exact Det.no | skip
    all_goals
      rename_i x
      cases x <;> first | exact Det.pure _ | exact Det.no
  case convert s t x =>
    refine (evalK_det fr x).bind fun x => (tyK_det E.ty s).bind fun ya => (tyK_det E.ty t).bind fun yb => ?_
    split
    · exact Det.pure _
    · refine (tyK_det E.ty _).bind fun z => ?_
      cases z.k
      case int ik =>
        dsimp only
        cases ik == .u8
        · exact Det.no
        · exact (rdK_det .u8 hp _).map _
      all_goals exact Det.no
    · exact Det.no
  case slice t x lo hi mx =>
    cases mx with
    | some _ => exact Det.no
    | none =>
      refine (evalK_det fr x).bind fun x => (loK_det fr lo 0).bind fun a => (tyK_det E.ty t).bind fun y => ?_
      have lo : ∀ {d : Int} {c : Int → Prop} {f : Int → T}, Det fun k : T → Prop => loK fr hi d fun b => c b ∧ k (f b) := (loK_det fr hi _).bind fun b => (Det.pure _).and
      cases y.k
      case str =>
        cases x with
        | v x => cases x <;> first | exact lo | exact Det.no
        | _ => exact Det.no
      case sl et =>
        refine (tyK_det E.ty et).bind fun z => ?_
        cases x with
        | v x =>
          cases x
          case rd e xs =>
            dsimp only
            cases Nat.beq z.size e.sz
            · exact Det.no
            · exact lo
          case nils => exact lo
          case own r =>
            refine (lookK_det hp r).bind fun c => ?_
            cases c with
            | own t => exact Det.no
            | row ty e xs =>
              dsimp only
              cases Nat.beq z.size e.sz
              · exact Det.no
              · exact lo
            | fz ty e xs =>
              dsimp only
              cases Nat.beq z.size e.sz
              · exact Det.no
              · exact lo
          case sl r p off len sz =>
            dsimp only
            cases Nat.beq z.size sz
            · exact Det.no
            · exact lo
          all_goals exact Det.no
        | _ => exact Det.no
      case ar n et =>
        refine (tyK_det E.ty et).bind fun z => ?_
        cases x with
        | v x =>
          cases x
          case ptr r p =>
            dsimp only
            cases Nat.ble n 4294967296
            · exact Det.no
            · exact lo
          all_goals exact Det.no
        | _ => exact Det.no
      all_goals exact Det.no
  case indexAddr t x i =>
    refine (evalK_det fr x).bind fun x => (evalK_det fr i).bind fun i => ?_
    cases i with
    | v i =>
      cases i
      case int ik i =>
        refine (tyK_det E.ty t).bind fun y => ?_
        cases y.k
        case sl et =>
          refine (tyK_det E.ty et).bind fun z => ?_
          cases x with
          | v x =>
            cases x
            case rd e xs =>
              dsimp only
              cases Nat.beq z.size e.sz
              · exact Det.no
              · exact (Det.pure _).and
            case own r =>
              refine (lookK_det hp r).bind fun c => ?_
              cases c with
              | own t => exact Det.no
              | row ty e xs =>
                dsimp only
                cases Nat.beq z.size e.sz
                · exact Det.no
                · exact (Det.pure _).and
              | fz ty e xs =>
                dsimp only
                cases Nat.beq z.size e.sz
                · exact Det.no
                · exact (Det.pure _).and
            case sl r p off len sz =>
              dsimp only
              cases Nat.beq z.size sz
              · exact Det.no
              · exact (Det.pure _).and
            all_goals exact Det.no
          | _ => exact Det.no
        case ar n et =>
          refine (tyK_det E.ty et).bind fun z => ?_
          cases x with
          | v x => cases x <;> first | exact (Det.pure _).and | exact Det.no
          | _ => exact Det.no
        all_goals exact Det.no
      all_goals exact Det.no
    | _ => exact Det.no
  case index t x i =>
    refine (evalK_det fr x).bind fun x => (evalK_det fr i).bind fun i => ?_
    cases i with
    | v i =>
      cases i
      case int ik i =>
        cases x with
        | arr e xs n =>
          refine (tyK_det E.ty t).bind fun y => ?_
          cases y.k
          case ar m et =>
            refine (tyK_det E.ty et).bind fun z => ?_
            cases Nat.beq m n <;> cases Nat.beq e.sz z.size <;> first | exact Det.no | exact (shapeK_det _ _).and
          all_goals exact Det.no
        | v x =>
          cases x
          case str s =>
            refine (tyK_det E.ty t).bind fun y => ?_
            cases y.k <;> first | exact (Det.pure _).and | exact Det.no
          all_goals exact Det.no
        | _ => exact Det.no
      all_goals exact Det.no
    | _ => exact Det.no
  case extract x i =>
    refine (evalK_det fr x).bind fun t => ?_
    cases t with
    | tup ts => exact tupGetK_det i ts
    | _ => exact Det.no
  case call c =>
    cases hc : c.callee with
    | builtin b =>
      cases b
      case len =>
        simp only []
        split
        · refine (tyK_det E.ty _).bind fun y => (evalsK_det fr _).bind fun ts => ?_
          split
          · exact dsl (Det.pure _)
          · exact dsl (Det.pure _)
          · exact dst (Det.pure _)
          · refine dsl ((lookK_det hp _).bind fun c => ?_)
            cases c <;> first | exact Det.pure _ | exact Det.no
          · exact dsl (Det.pure _)
          · exact Det.no
        · exact Det.no
      case min =>
        simp only []
        refine (evalsK_det fr _).bind fun ts => ?_
        split
        · exact Det.pure _
        · exact Det.no
      case max =>
        simp only []
        refine (evalsK_det fr _).bind fun ts => ?_
        split
        · exact Det.pure _
        · exact Det.no
      all_goals (simp [valueOp, hc] at hv)
    | value x => simp [valueOp, hc] at hv
    | invoke _ _ => simp [valueOp, hc] at hv

end Go.J

set_option linter.unusedSimpArgs false
set_option linter.unusedVariables false
set_option linter.unusedSectionVars false

namespace Go.J

/-- The blocks that may be written. -/
def baseOf (G : Cx) (hp : Hp) : Base := ⟨fun b => ∃ r c bb, (r, c) ∈ hp ∧ c.rw = true ∧ G.rho r = some bb ∧ bb.nil = false ∧ b = bb.blk, G.im⟩
theorem Mdl.base {w0 : World} {F0 : Base} {G : Cx} {hp : Hp} {nx : Nat} (h : Mdl w0 F0 G hp nx) : Mdl G.w (baseOf G hp) G hp nx :=
  ⟨rfl, rfl, rfl, Nat.le_refl _, fun _ _ _ => rfl, h.imLt, h.fresh, h.chunk, h.ids, h.apart, fun r c b h1 h2 h3 h4 => ⟨.inr ⟨r, c, b, h1, h2, h3, h4, rfl⟩, (h.mine r c b h1 h2 h3 h4).2⟩, fun b hb => .inl hb⟩
theorem Mdl.unbase {w0 : World} {F0 : Base} {G G' : Cx} {hp hp' : Hp} {nx nx' : Nat} (h : Mdl w0 F0 G hp nx) (k : Mdl G.w (baseOf G hp) G' hp' nx') : Mdl w0 F0 G' hp' nx' := by
  have hb : ∀ b, baseOf G hp b → w0.heap.size ≤ b ∨ F0 b := fun b ⟨r, c, bb, h1, h2, h3, h4, h5⟩ => h5 ▸ (h.mine r c bb h1 h2 h3 h4).1
  refine ⟨k.os.trans h.os, k.tape.trans h.tape, k.output.trans h.output, Nat.le_trans h.size k.size, fun b hlt hF => ?_, k.imLt, k.fresh, k.chunk, k.ids, k.apart, fun r c b h1 h2 h3 h4 => ⟨?_, (k.mine r c b h1 h2 h3 h4).2⟩, fun b hi => ?_⟩
  · refine (k.keep b (Nat.lt_of_lt_of_le hlt h.size) fun hbs => ?_).trans (h.keep b hlt hF)
    rcases hb b hbs with h1 | h1
    · omega
    · exact hF h1
  · rcases (k.mine r c b h1 h2 h3 h4).1 with h5 | h5
    · exact .inl (Nat.le_trans h.size h5)
    · exact hb _ h5
  · rcases k.imNew b hi with h5 | h5 | h5
    · exact h.imNew b h5
    · exact .inr (.inl (Nat.le_trans h.size h5))
    · exact .inr (hb b h5)

structure Ext0 (G G' : Cx) : Prop where
  im : ∀ b, G.im b → G'.im b
  keep : ∀ b, G.im b → G'.w.heap[b]? = G.w.heap[b]?
  size : G.w.heap.size ≤ G'.w.heap.size
theorem Ext0.refl (G : Cx) : Ext0 G G := ⟨fun _ h => h, fun _ _ => rfl, Nat.le_refl _⟩
theorem Ext0.trans {G G' G2 : Cx} (h : Ext0 G G') (k : Ext0 G' G2) : Ext0 G G2 :=
  ⟨fun b e => k.im b (h.im b e), fun b e => (k.keep b (h.im b e)).trans (h.keep b e), Nat.le_trans h.size k.size⟩
theorem Ext.zero {G G' : Cx} (h : Ext G G') : Ext0 G G' := ⟨h.im, h.keep, h.size⟩

/-- Whatever is y is x. -/
def Ref (y x : T) : Prop := ∀ (G : Cx) v, tVal G y v → tVal G x v
theorem Ref.refl (x : T) : Ref x x := fun _ _ h => h

theorem normK_out {b : Bool} {x : T} {k : T → Prop} (h : normK b x k) : ∃ x', k x' ∧ Ref x x' := by
  unfold normK at h
  split at h
  · exact ⟨x, h, Ref.refl x⟩
  · split at h
    · exact ⟨_, h, Ref.refl _⟩
    · exact ⟨_, h, Ref.refl _⟩
    · next b =>
      cases b with
      | true => exact ⟨_, h.1 rfl, fun _ _ h => h⟩
      | false => exact ⟨_, h.2 rfl, fun _ _ h => h⟩
    · exact h.elim

theorem sameK_out {y x : T} (h : sameK y x) : Ref y x := by
  unfold sameK at h
  split at h
  · split at h
    · exact Ref.refl _
    · next b => subst h; exact fun _ _ h => h
    · exact h.elim
  · split at h
    · exact Ref.refl _
    · next b => subst h; exact fun _ _ h => h
    · exact h.elim
  · exact fun _ _ _ => trivial
  · subst h; exact Ref.refl _

theorem putK_out {fr : List T} {dst : Option Tmp} {x : T} {k : List T → Prop} (h : putK fr dst x k) : ∃ fr', k fr' ∧ fr'.length = fr.length ∧ (∀ t, dst ≠ some t → fr'[t]? = fr[t]?) ∧ ∀ d, dst = some d → fr'[d]? = some x := by
  unfold putK at h
  split at h
  · exact ⟨fr, h, rfl, fun _ _ => rfl, fun d hd => by cases hd⟩
  · next d =>
    obtain ⟨h1, h2⟩ := lsetK_out h
    refine ⟨_, h2, by simp, fun t ht => ?_, fun d' hd => ?_⟩
    · rw [List.getElem?_set_ne]
      rintro rfl
      exact ht rfl
    · cases hd
      simp [h1]

theorem slotK_out : ∀ {ops : List Oper} {g : Nat} {k : Nat → Prop}, slotK ops g k → ∃ d, (ops[g]?).bind (·.dst) = some d ∧ k d
  | [], _, _, h => by simp [slotK] at h
  | o :: _, 0, k, h => by
    simp only [slotK] at h
    split at h
    · next d hd => exact ⟨d, by simpa using hd, h⟩
    · exact h.elim
  | _ :: os, g + 1, k, h => by simpa using slotK_out (ops := os) (g := g) h
theorem slotK_mk : ∀ {ops : List Oper} {g : Nat} {k : Nat → Prop} {d : Nat}, (ops[g]?).bind (·.dst) = some d → k d → slotK ops g k
  | [], _, _, _, h, _ => by simp at h
  | o :: _, 0, k, d, h, hk => by
    simp at h
    simp only [slotK, h]
    exact hk
  | _ :: os, g + 1, k, d, h, hk => slotK_mk (ops := os) (g := g) (by simpa using h) hk

/-- What a guard's slot may hold. -/
def gvT : Option Bool → T
  | some true => .v .tt
  | some false => .v .ff
  | none => .tup .nil
theorem gvT_inj : ∀ {a b : Option Bool}, gvT a = gvT b → a = b
  | some true, some true, _ => rfl
  | some false, some false, _ => rfl
  | none, none, _ => rfl
  | some true, some false, h => by simp [gvT] at h
  | some false, some true, h => by simp [gvT] at h
  | some true, none, h => by simp [gvT] at h
  | some false, none, h => by simp [gvT] at h
  | none, some true, h => by simp [gvT] at h
  | none, some false, h => by simp [gvT] at h
/-- A guard that is known. -/
theorem gateK_out {ops : List Oper} {fr : List T} {g : Option (Nat × Bool)} {yes no : Prop} (h : gateK ops fr g yes no) :
    (g = none ∧ yes) ∨ ∃ j want d b, g = some (j, want) ∧ (ops[j]?).bind (·.dst) = some d ∧ fr[d]? = some (gvT b) ∧ (if b = some want then yes else no) := by
  unfold gateK at h
  split at h
  · exact .inl ⟨rfl, h⟩
  · next j want =>
    obtain ⟨d, hd, h2⟩ := slotK_out h
    obtain ⟨x, hx, h3⟩ := lgetK_out h2
    refine .inr ⟨j, want, d, ?_⟩
    split at h3
    · exact ⟨some true, rfl, hd, hx, by cases want <;> simpa using h3⟩
    · exact ⟨some false, rfl, hd, hx, by cases want <;> simpa using h3⟩
    · exact ⟨none, rfl, hd, hx, by simpa using h3⟩
    · exact h3.elim
theorem gateK_mk {ops : List Oper} {fr : List T} {g : Option (Nat × Bool)} {yes no : Prop} (h : (g = none ∧ yes) ∨ ∃ j want d b, g = some (j, want) ∧ (ops[j]?).bind (·.dst) = some d ∧ fr[d]? = some (gvT b) ∧ (if b = some want then yes else no)) : gateK ops fr g yes no := by
  rcases h with ⟨rfl, h⟩ | ⟨j, want, d, b, rfl, hd, hx, h⟩
  · exact h
  · refine slotK_mk hd (lgetK_mk hx ?_)
    rcases b with _ | b
    · simpa [gvT] using h
    · cases b <;> cases want <;> simpa [gvT] using h

/-- The slots of an operation and of its guard. -/
theorem mem_looks {ops : List Oper} {o : Oper} {t : Tmp} : t ∈ looks ops o ↔ Operand.tmp t ∈ o.op.operands.toList ∨ ∃ g w, o.guard = some (g, w) ∧ (ops[g]?).bind (·.dst) = some t := by
  unfold looks
  rw [List.mem_append, List.mem_flatMap]
  constructor
  · rintro (⟨x, hx, ht⟩ | h)
    · cases x <;> simp [tmpOf] at ht
      subst ht
      exact .inl hx
    · right
      cases hg : o.guard with
      | none => simp [hg] at h
      | some p =>
        obtain ⟨g, w⟩ := p
        simp only [hg] at h
        split at h
        · next d hd => simp at h; subst h; exact ⟨g, w, rfl, hd⟩
        · simp at h
  · rintro (h | ⟨g, w, hg, hd⟩)
    · exact .inl ⟨_, h, by simp [tmpOf]⟩
    · exact .inr (by simp [hg, hd])

theorem gateK_congr {ops : List Oper} {fr fr2 : List T} {o : Oper} {yes no yes' no' : Prop} (h : gateK ops fr o.guard yes no) (ha : ∀ t, t ∈ looks ops o → fr2[t]? = fr[t]?) (hy : yes → yes') (hn : no → no') : gateK ops fr2 o.guard yes' no' := by
  refine gateK_mk ?_
  rcases gateK_out h with ⟨h1, h2⟩ | ⟨j, want, d, b, h1, h2, h3, h4⟩
  · exact .inl ⟨h1, hy h2⟩
  · refine .inr ⟨j, want, d, b, h1, h2, (ha d (mem_looks.2 (.inr ⟨j, want, h1, h2⟩))).trans h3, ?_⟩
    split <;> simp_all

theorem gateK_and {ops : List Oper} {fr : List T} {g : Option (Nat × Bool)} {y1 n1 y2 n2 y n : Prop} (h1 : gateK ops fr g y1 n1) (h2 : gateK ops fr g y2 n2) (hy : y1 → y2 → y) (hn : n1 → n2 → n) : gateK ops fr g y n := by
  refine gateK_mk ?_
  rcases gateK_out h1 with ⟨e1, k1⟩ | ⟨j, want, d, b, e1, e2, e3, k1⟩ <;> rcases gateK_out h2 with ⟨e1', k2⟩ | ⟨j', want', d', b', e1', e2', e3', k2⟩
  · exact .inl ⟨e1, hy k1 k2⟩
  · rw [e1] at e1'; cases e1'
  · rw [e1] at e1'; cases e1'
  · rw [e1] at e1'
    cases e1'
    rw [e2] at e2'
    cases e2'
    rw [e3] at e3'
    have hb : b = b' := gvT_inj (Option.some.inj e3')
    subst hb
    refine .inr ⟨j, want, d, b, e1, e2, e3, ?_⟩
    by_cases hw : b = some want <;> simp_all

/-! The operations that stand ahead. -/
def Below (ops : List Oper) (L : Nat → Prop) : Prop := ∀ (j : Nat) (o : Oper), ops[j]? = some o → L j → ∀ e ∈ o.after.toList, Region.binds .any e = true → L e.on

theorem ancOf_out {acc : List Nat} : ∀ {es : List Edge} {i : Nat}, (ancOf acc es).testBit i = true → ∃ e ∈ es, Region.binds .any e = true ∧ (e.on = i ∨ (acc.getD e.on 0).testBit i = true)
  | [], i, h => by simp [ancOf] at h
  | e :: es, i, h => by
    unfold ancOf at h
    split at h
    · next hb =>
      simp only [Nat.testBit_or, Bool.or_eq_true] at h
      rcases h with (h | h) | h
      · refine ⟨e, by simp, hb, .inl ?_⟩
        rw [Nat.testBit_two_pow] at h
        simpa using h
      · exact ⟨e, by simp, hb, .inr h⟩
      · obtain ⟨e', h1, h2⟩ := ancOf_out h
        exact ⟨e', by simp [h1], h2⟩
    · obtain ⟨e', h1, h2⟩ := ancOf_out h
      exact ⟨e', by simp [h1], h2⟩

theorem ancs_out (all : List Oper) (L : Nat → Prop) (hL : Below all L) : ∀ (os : List Oper) (acc : List Nat) (done : List Oper), all = done ++ os → acc.length = done.length →
    (∀ (j : Nat) (o : Oper) (i : Nat), done[j]? = some o → (acc.getD j 0).testBit i = true → (∀ e ∈ o.after.toList, Region.binds .any e = true → L e.on) → L i) →
    ∀ (j : Nat) (o : Oper) (i : Nat), all[j]? = some o → ((ancs os acc).getD j 0).testBit i = true → (∀ e ∈ o.after.toList, Region.binds .any e = true → L e.on) → L i
  | [], acc, done, he, hl, h => by
    intro j o i hj hb hd
    simp only [List.append_nil] at he
    subst he
    exact h j o i hj hb hd
  | o :: os, acc, done, he, hl, h => by
    refine ancs_out all L hL os (acc ++ [ancOf acc o.after.toList]) (done ++ [o]) (by simp [he]) (by simp [hl]) ?_
    intro j o' i hj hb hd
    by_cases hlt : j < done.length
    · rw [List.getElem?_append_left hlt] at hj
      rw [List.getD_eq_getElem?_getD, List.getElem?_append_left (by omega), ← List.getD_eq_getElem?_getD] at hb
      exact h j o' i hj hb hd
    · have hj2 : j = done.length := by
        have := (List.getElem?_eq_some_iff.1 hj).1
        simp at this
        omega
      subst hj2
      simp at hj
      subst hj
      rw [List.getD_eq_getElem?_getD, ← hl] at hb
      simp at hb
      obtain ⟨e, h1, h2, h3⟩ := ancOf_out hb
      rcases h3 with h3 | h3
      · exact h3 ▸ hd e h1 h2
      · have hLe := hd e h1 h2
        by_cases hlt2 : e.on < done.length
        · have hget : done[e.on]? = some done[e.on] := List.getElem?_eq_getElem hlt2
          exact h e.on _ i hget h3 (hL e.on _ (by rw [he, List.getElem?_append_left hlt2]; exact hget) hLe)
        · rw [List.getD_eq_getElem?_getD, List.getElem?_eq_none (by omega)] at h3
          simp at h3

theorem anc_ready {ops : List Oper} {L : Nat → Prop} (hL : Below ops L) {j i : Nat} {o : Oper} (hj : ops[j]? = some o) (hb : ((ancs ops []).getD j 0).testBit i = true) (hd : ∀ e ∈ o.after.toList, Region.binds .any e = true → L e.on) : L i :=
  ancs_out ops L hL ops [] [] rfl rfl (fun j o i h => by simp at h) j o i hj hb hd
theorem anc_in {ops : List Oper} {L : Nat → Prop} (hL : Below ops L) {j i : Nat} {o : Oper} (hj : ops[j]? = some o) (hb : ((ancs ops []).getD j 0).testBit i = true) (h : L j) : L i :=
  anc_ready hL hj hb (hL j o hj h)

/-! What the text was asked. -/
structure DrawOk (ops : List Oper) (as : List Nat) : Prop where
  self : ∀ (i : Nat) (x : Oper) (d : Tmp), ops[i]? = some x → x.dst = some d → d ∉ looks ops x
  look : ∀ (i j : Nat) (x y : Oper) (d : Tmp), ops[i]? = some x → ops[j]? = some y → i ≠ j → y.dst = some d → d ∈ looks ops x → (as.getD i 0).testBit j = true ∨ (valueOp y.op = false ∧ (as.getD j 0).testBit i = true)
  dst : ∀ (i j : Nat) (x y : Oper) (d : Tmp), ops[i]? = some x → ops[j]? = some y → i ≠ j → y.dst = some d → x.dst = some d → (valueOp x.op = false ∧ valueOp y.op = false) ∧ ((as.getD i 0).testBit j = true ∨ (as.getD j 0).testBit i = true)
  edge : ∀ (i : Nat) (x : Oper), ops[i]? = some x → ∀ e ∈ x.after.toList, Region.binds .any e = true → e.on < i

theorem rowOk_out {ops : List Oper} {as : List Nat} {i : Nat} {x : Oper} : ∀ {ys : List Oper} {j0 : Nat}, rowOk ops as i x ys j0 = true → ∀ (j : Nat) (y : Oper), ys[j]? = some y → pairOk ops as i (j0 + j) x y = true
  | [], _, _, _, _, h => by simp at h
  | y :: ys, j0, h, j, z, hz => by
    simp only [rowOk, Bool.and_eq_true] at h
    cases j with
    | zero => simp at hz; subst hz; exact h.1
    | succ j =>
      have := rowOk_out h.2 j z (by simpa using hz)
      rwa [show j0 + 1 + j = j0 + (j + 1) by omega] at this

theorem drawOk_rows {ops : List Oper} {as : List Nat} : ∀ {xs : List Oper} {i0 : Nat}, drawOk ops as xs i0 = true → ∀ (i : Nat) (x : Oper), xs[i]? = some x → rowOk ops as (i0 + i) x ops 0 = true ∧ edgesOk (i0 + i) x = true
  | [], _, _, _, _, h => by simp at h
  | x :: xs, i0, h, i, z, hz => by
    simp only [drawOk, Bool.and_eq_true] at h
    cases i with
    | zero => simp at hz; subst hz; exact ⟨h.1.1.1, h.1.1.2⟩
    | succ i =>
      have := drawOk_rows h.2 i z (by simpa using hz)
      rwa [show i0 + 1 + i = i0 + (i + 1) by omega] at this

theorem nat_beq_ne {a b : Nat} (h : a ≠ b) : Nat.beq a b = false := by
  cases hb : Nat.beq a b with
  | false => rfl
  | true => exact (h (nat_beq_eq hb)).elim
theorem nat_beq_self (a : Nat) : Nat.beq a a = true := Nat.beq_refl a

theorem drawOk_out {ops : List Oper} {as : List Nat} (h : drawOk ops as ops 0 = true) : DrawOk ops as := by
  have pair : ∀ (i j : Nat) (x y : Oper), ops[i]? = some x → ops[j]? = some y → pairOk ops as i j x y = true := fun i j x y hx hy => by
    have h1 := (drawOk_rows h i x hx).1
    rw [Nat.zero_add] at h1
    have := rowOk_out h1 j y hy
    rwa [Nat.zero_add] at this
  refine ⟨fun i x d hx hd => ?_, fun i j x y d hx hy hne hd hl => ?_, fun i j x y d hx hy hne hd hd2 => ?_, fun i x hx e he hb => ?_⟩
  · have := pair i i x x hx hx
    simp only [pairOk, hd, nat_beq_self, Bool.not_true, Bool.false_and, Bool.or_false, Bool.true_and, Bool.not_eq_true'] at this
    simpa using this
  · have := pair i j x y hx hy
    simp only [pairOk, hd, nat_beq_ne hne, Bool.not_false, Bool.true_and, Bool.false_and, Bool.false_or, Bool.and_eq_true, Bool.or_eq_true, Bool.not_eq_true'] at this
    rcases this.1 with (h1 | h1) | h1
    · simp at h1; exact (h1 hl).elim
    · exact .inl h1
    · exact .inr h1
  · have := pair i j x y hx hy
    simp only [pairOk, hd, hd2, nat_beq_ne hne, nat_beq_self, Bool.not_false, Bool.not_true, Bool.true_and, Bool.false_and, Bool.false_or, Bool.and_eq_true, Bool.not_eq_true', Bool.or_eq_true] at this
    exact ⟨⟨this.2.1.1, this.2.1.2⟩, this.2.2⟩
  · have h1 := (drawOk_rows h i x hx).2
    rw [Nat.zero_add] at h1
    simp only [edgesOk, List.all_eq_true] at h1
    have := h1 e he
    rw [hb] at this
    have h2 : Nat.blt e.on i = true := by simpa using this
    simpa [Nat.blt_eq] using h2

end Go.J

set_option linter.unusedSimpArgs false
set_option linter.unusedVariables false
set_option linter.unusedSectionVars false

namespace Go.J

open Go.RowKit
section
variable {P : Program} {E : Env} {w0 : World} {F0 : Base} {ops : Array Oper} {bk : Nat} {G0 : Cx} {ds : List Deferred}

theorem valK_congr {o : Op} {fr fr2 : List T} {hp : Hp} {k : T → Prop} (h : valK E o fr hp k) (ha : Agree o.operands.toList fr fr2) : valK E o fr2 hp k := den_congr h ha
theorem noNilP_congr {o : Op} {fr fr2 : List T} (h : noNilP o fr) (ha : Agree o.operands.toList fr fr2) : noNilP o fr2 := by
  cases o <;> first | exact trivial | skip
  exact evalK_congr h (fun t ht => ha t (by simp [Op.operands, ht])) fun _ h => h

theorem looks_agree {opl : List Oper} {o : Oper} {fr fr2 : List T} (h : ∀ t, t ∈ looks opl o → fr2[t]? = fr[t]?) : Agree o.op.operands.toList fr fr2 := fun t ht => h t (mem_looks.2 (.inl ht))

theorem valK_mono {o : Op} {fr : List T} {hp : Hp} {k k' : T → Prop} (hv : valueOp o = true) (hn : noNilP o fr) (h : valK E o fr hp k) (hk : ∀ x, k x → k' x) : valK E o fr hp k' := by
  obtain ⟨x, h1, h2⟩ := valK_det hv hn _ h
  exact h2 _ (hk x h1)

/-- What a value that was taken ahead is, is what it will be. -/
def Stab (E : Env) (opl : List Oper) (o : Oper) (fr : List T) (hp : Hp) : Prop :=
  gateK opl fr o.guard (noNilP o.op fr ∧ ∃ x, valK E o.op fr hp (fun y => Ref y x) ∧ ∀ d, o.dst = some d → fr[d]? = some x) (∀ d, o.dst = some d → fr[d]? = some (.tup .nil))

/-- A new block that was made, but is not yet told of. -/
structure Banked (w0 : World) (G : Cx) (hp : Hp) (a : Act) (z : T) (d : Tmp) (b : Nat) : Prop where
  slot : d < a.tmps.size → a.tmps[d]? = some (.pointer (some ⟨b, 0, none⟩))
  ok : chunkOk G (.own z) ⟨b, false, 0, 0⟩
  lt : b < G.w.heap.size
  new : w0.heap.size ≤ b
  notIm : ¬ G.im b
  apart : ∀ r c bb, (r, c) ∈ hp → c.rw = true → G.rho r = some bb → bb.nil = false → bb.blk ≠ b

theorem Banked.step {w0 : World} {G G' : Cx} {hp hp' : Hp} {nx' : Nat} {a a' : Act} {z : T} {d : Tmp} {b : Nat} (hb : Banked w0 G hp a z d b) (k : Mdl G.w (baseOf G hp) G' hp' nx') (hx : Ext G G') (ha : a'.tmps[d]? = a.tmps[d]?) (hs : a'.tmps.size = a.tmps.size) : Banked w0 G' hp' a' z d b := by
  have hnb : ¬ baseOf G hp b := fun ⟨r, c, bb, h1, h2, h3, h4, h5⟩ => hb.apart r c bb h1 h2 h3 h4 h5.symm
  obtain ⟨h1, cs, ty, h2, h3⟩ := hb.ok
  refine ⟨fun hd => ha.trans (hb.slot (hs ▸ hd)), ⟨h1, cs, ty, (k.keep b hb.lt hnb).trans h2, hx.tCells h3⟩, Nat.lt_of_lt_of_le hb.lt k.size, hb.new, fun hi => ?_, fun r c bb h1 h2 h3 h4 he => ?_⟩
  · rcases k.imNew b hi with h5 | h5 | h5
    · exact hb.notIm h5
    · have := hb.lt; omega
    · exact hnb h5
  · rcases (k.mine r c bb h1 h2 h3 h4).1 with h5 | h5
    · have := hb.lt; omega
    · exact hnb (he ▸ h5)

structure Inv (E : Env) (w0 : World) (F0 : Base) (G0 : Cx) (ds : List Deferred) (ops : Array Oper) (bk : Nat) (listed : Array Bool) (m : Nat) (fr : List T) (hp : Hp) (nx : Nat) (a : Act) (G : Cx) : Prop where
  mdl : Mdl w0 F0 G hp nx
  ext : Ext G0 G
  defs : a.defers = ds
  size : listed.size = ops.size
  sub : ∀ i, listed.getD i false = true → m.testBit i = true ∨ bk.testBit i = true
  lt : ∀ i, m.testBit i = true → i < ops.size
  low : Below ops.toList fun i => listed.getD i false = true
  lowM : Below ops.toList fun i => m.testBit i = true
  val : ∀ i o, ops.toList[i]? = some o → m.testBit i = true → listed.getD i false = false → valueOp o.op = true
  len : fr.length = a.tmps.size
  frame : ∀ (t : Nat) (x : T), fr[t]? = some x → (∀ i o, ops.toList[i]? = some o → m.testBit i ≠ listed.getD i false → o.dst ≠ some t) → ∃ v : Value, a.tmps[t]? = some v ∧ tVal G x v
  stab : ∀ i o, ops.toList[i]? = some o → m.testBit i = true → listed.getD i false = false → Stab E ops.toList o fr hp
  bank : ∃ bb : Nat → Nat, (∀ i o, ops.toList[i]? = some o → listed.getD i false = true → m.testBit i = false → ∃ t y d, o.op = .alloc t ∧ (t, y) ∈ E.ty ∧ tyK E.ty t (fun y' => y' = y) ∧ o.dst = some d ∧ Banked w0 G hp a y.zero.toT d (bb i)) ∧
    ∀ i j oi oj, ops.toList[i]? = some oi → ops.toList[j]? = some oj → listed.getD i false = true → m.testBit i = false → listed.getD j false = true → m.testBit j = false → i ≠ j → bb i ≠ bb j

def unl (ops : Array Oper) (listed : Array Bool) : Nat := ((List.range ops.size).filter fun i => !listed.getD i true).length

theorem getD_both {listed : Array Bool} {i n : Nat} (hs : listed.size = n) (hi : i < n) : listed.getD i true = listed.getD i false := by
  simp [Array.getD, hs, hi]

theorem filter_lt {p q : Nat → Bool} {i : Nat} : ∀ {l : List Nat}, (∀ x ∈ l, q x = true → p x = true) → i ∈ l → p i = true → q i = false → (l.filter q).length < (l.filter p).length
  | [], _, h, _, _ => by simp at h
  | x :: l, hpq, hi, hp, hq => by
    have hle : (l.filter q).length ≤ (l.filter p).length := by
      clear hi
      induction l with
      | nil => simp
      | cons y l ih =>
        have h2 := ih (fun z hz => hpq z (by simp at hz ⊢; rcases hz with hz | hz; exact .inl hz; exact .inr (.inr hz)))
        have h3 := hpq y (by simp)
        by_cases hqy : q y = true
        · simp [List.filter_cons, hqy, h3 hqy]; omega
        · simp only [List.filter_cons, hqy]
          by_cases hpy : p y = true <;> simp [hpy] <;> omega
    rcases List.mem_cons.1 hi with rfl | hi
    · simp [List.filter_cons, hp, hq]; omega
    · have := filter_lt (l := l) (fun z hz => hpq z (by simp [hz])) hi hp hq
      by_cases hqx : q x = true
      · simp [List.filter_cons, hqx, hpq x (by simp) hqx]; omega
      · simp only [List.filter_cons, hqx]
        by_cases hpx : p x = true <;> simp [hpx] <;> omega

theorem unl_set {listed : Array Bool} {i : Nat} (hi : i < ops.size) (hs : listed.size = ops.size) (hl : listed.getD i true = false) : unl ops (listed.setIfInBounds i true) < unl ops listed := by
  refine filter_lt (i := i) (fun x hx hq => ?_) (by simpa using hi) (by simp [hl]) ?_
  · by_cases hxi : i = x
    · subst hxi; simp [hl]
    · rwa [getD_set_ne true hxi] at hq
  · simp [hs, hi]

theorem nextV_out {m : Nat} : ∀ {os : List Oper} {i0 i : Nat} {o : Oper}, nextV m os i0 = some (i, o) → ∃ j, i = i0 + j ∧ os[j]? = some o ∧ m.testBit i = false ∧ valueOp o.op = true ∧ bindsAll m o.after.toList = true
  | [], _, _, _, h => by simp [nextV] at h
  | x :: os, i0, i, o, h => by
    unfold nextV at h
    split at h
    · next hb =>
      simp only [Bool.and_eq_true, Bool.not_eq_true'] at hb
      simp only [Option.some.injEq, Prod.mk.injEq] at h
      obtain ⟨rfl, rfl⟩ := h
      exact ⟨0, rfl, rfl, hb.1.1, hb.1.2, hb.2⟩
    · obtain ⟨j, h1, h2, h3⟩ := nextV_out h
      exact ⟨j + 1, by omega, by simpa using h2, h3⟩
theorem nextV_none {m : Nat} : ∀ {os : List Oper} {i0 : Nat}, nextV m os i0 = none → ∀ (j : Nat) (o : Oper), os[j]? = some o → m.testBit (i0 + j) = false → bindsAll m o.after.toList = true → valueOp o.op = false
  | [], _, _, _, _, h, _, _ => by simp at h
  | x :: os, i0, h, j, o, hj, hm, hb => by
    unfold nextV at h
    split at h
    · cases h
    · next hn =>
      cases j with
      | zero =>
        simp at hj
        subst hj
        rw [Nat.add_zero] at hm
        simpa [hm, hb] using hn
      | succ j => exact nextV_none h j o (by simpa using hj) (by rwa [show i0 + 1 + j = i0 + (j + 1) by omega]) hb
theorem readyE_mem {m : Nat} : ∀ {os : List Oper} {i0 j : Nat} {o : Oper}, os[j]? = some o → m.testBit (i0 + j) = false → bindsAll m o.after.toList = true → (i0 + j, o) ∈ readyE m os i0
  | [], _, _, _, h, _, _ => by simp at h
  | x :: os, i0, j, o, hj, hm, hb => by
    unfold readyE
    cases j with
    | zero =>
      simp at hj
      subst hj
      rw [Nat.add_zero] at hm
      simp [hm, hb]
    | succ j =>
      have := readyE_mem (i0 := i0 + 1) (j := j) (os := os) (by simpa using hj) (by rwa [show i0 + 1 + j = i0 + (j + 1) by omega]) hb
      rw [show i0 + 1 + j = i0 + (j + 1) by omega] at this
      split
      · simp [this]
      · exact this
theorem readyE_out {m : Nat} : ∀ {os : List Oper} {i0 : Nat} {p : Nat × Oper}, p ∈ readyE m os i0 → ∃ j, p.1 = i0 + j ∧ os[j]? = some p.2 ∧ m.testBit p.1 = false ∧ bindsAll m p.2.after.toList = true
  | [], _, _, h => by simp [readyE] at h
  | x :: os, i0, p, h => by
    unfold readyE at h
    split at h
    · next hb =>
      simp only [Bool.and_eq_true, Bool.not_eq_true'] at hb
      rcases List.mem_cons.1 h with rfl | h
      · exact ⟨0, rfl, rfl, hb.1, hb.2⟩
      · obtain ⟨j, h1, h2, h3⟩ := readyE_out h
        exact ⟨j + 1, by omega, by simpa using h2, h3⟩
    · obtain ⟨j, h1, h2, h3⟩ := readyE_out h
      exact ⟨j + 1, by omega, by simpa using h2, h3⟩

theorem bindsAll_iff {m : Nat} : ∀ {es : List Edge}, bindsAll m es = true ↔ ∀ e ∈ es, Region.binds .any e = true → m.testBit e.on = true
  | [] => by simp [bindsAll]
  | e :: es => by
    simp only [bindsAll, Bool.and_eq_true, Bool.or_eq_true, Bool.not_eq_true', bindsAll_iff (es := es), List.mem_cons, forall_eq_or_imp]
    constructor
    · rintro ⟨h1, h2⟩
      exact ⟨fun hb => h1.resolve_left (by simp [hb]), h2⟩
    · rintro ⟨h1, h2⟩
      refine ⟨?_, h2⟩
      cases hb : Region.binds .any e
      · exact .inl rfl
      · exact .inr (h1 hb)

theorem forkK_out {f : Nat → Oper → Prop} : ∀ {l : List (Nat × Oper)} {j : Nat} {o : Oper}, forkK l f → (j, o) ∈ l → f j o
  | [], _, _, _, h => by simp at h
  | (j', o') :: l, j, o, h, hm => by
    rcases List.mem_cons.1 hm with hm | hm
    · cases hm; exact h.1
    · exact forkK_out h.2 hm

theorem recheckK_out {opl : List Oper} {m anc : Nat} {fr : List T} {hp : Hp} {nx : Nat} {k : Prop} : ∀ {os : List Oper} {i0 : Nat}, recheckK E opl m anc fr hp nx k os i0 →
    k ∧ ∀ (j : Nat) (o : Oper), os[j]? = some o → m.testBit (i0 + j) = true → anc.testBit (i0 + j) = false → valueOp o.op = true → readsHp o.op = true →
      ∃ d, o.dst = some d ∧ gateK opl fr o.guard (denOp E o.op fr hp nx fun y _ _ => lgetK fr d fun x => sameK y x) True
  | [], _, h => ⟨h, fun j o hj => by simp at hj⟩
  | x :: os, i0, h => by
    unfold recheckK at h
    split at h
    · next hb =>
      obtain ⟨h1, h2⟩ := h
      obtain ⟨hk, hr⟩ := recheckK_out h2
      refine ⟨hk, fun j o hj hm ha hv hrd => ?_⟩
      cases j with
      | zero =>
        simp at hj
        subst hj
        split at h1
        · exact h1.elim
        · next d hd => exact ⟨d, hd, h1⟩
      | succ j => exact hr j o (by simpa using hj) (by rwa [show i0 + 1 + j = i0 + (j + 1) by omega]) (by rwa [show i0 + 1 + j = i0 + (j + 1) by omega]) hv hrd
    · next hb =>
      obtain ⟨hk, hr⟩ := recheckK_out h
      refine ⟨hk, fun j o hj hm ha hv hrd => ?_⟩
      cases j with
      | zero =>
        simp at hj
        subst hj
        rw [Nat.add_zero] at hm ha
        simp [hm, ha, hv, hrd] at hb
      | succ j => exact hr j o (by simpa using hj) (by rwa [show i0 + 1 + j = i0 + (j + 1) by omega]) (by rwa [show i0 + 1 + j = i0 + (j + 1) by omega]) hv hrd

theorem testBit_set {m i j : Nat} : (m ||| 2 ^ i).testBit j = (m.testBit j || decide (i = j)) := by
  rw [Nat.testBit_or, Nat.testBit_two_pow]


theorem put_get {a : Act} {dst : Option Tmp} {v : Value} {t : Nat} (h : dst ≠ some t) : (a.put dst v).tmps[t]? = a.tmps[t]? := by
  cases dst with
  | none => rfl
  | some d => simp only [Act.put]; rw [Array.getElem?_setIfInBounds_ne (fun e => h (by rw [e]))]
theorem put_at {a : Act} {dst : Option Tmp} {v : Value} {t : Nat} (h : dst = some t) (ht : t < a.tmps.size) : (a.put dst v).tmps[t]? = some v := by
  subst h
  simp [Act.put, ht]
theorem put_size {a : Act} {dst : Option Tmp} {v : Value} : (a.put dst v).tmps.size = a.tmps.size := by
  cases dst <;> simp [Act.put]
theorem put_defs {a : Act} {dst : Option Tmp} {v : Value} : (a.put dst v).defers = a.defers := by
  cases dst <;> rfl

/-- The frame with the values that were taken ahead left out. -/
theorem frame_out {listed : Array Bool} {m : Nat} {fr : List T} {hp : Hp} {nx : Nat} {a : Act} {G : Cx} (h : Inv E w0 F0 G0 ds ops bk listed m fr hp nx a G) :
    ∃ fr2, frOk G fr2 a.tmps ∧ ∀ t, (∀ i o, ops.toList[i]? = some o → m.testBit i ≠ listed.getD i false → o.dst ≠ some t) → fr2[t]? = fr[t]? := by
  classical
  refine ⟨fr.mapIdx fun t x => if (∀ i o, ops.toList[i]? = some o → m.testBit i ≠ listed.getD i false → o.dst ≠ some t) then x else .v .any, ⟨by simp [h.len], fun t x ht => ?_⟩, fun t ht => ?_⟩
  · rw [List.getElem?_mapIdx] at ht
    cases hx : fr[t]? with
    | none => simp [hx] at ht
    | some y =>
      simp only [hx, Option.map_some, Option.some.injEq] at ht
      split at ht
      · next hD =>
        subst ht
        exact h.frame t y hx hD
      · subst ht
        have hlt : t < a.tmps.size := by rw [← h.len]; exact (List.getElem?_eq_some_iff.1 hx).1
        exact ⟨a.tmps[t], by simp [hlt], trivial⟩
  · rw [List.getElem?_mapIdx]
    cases hx : fr[t]? with
    | none => rfl
    | some y => rw [Option.map_some, if_pos ht]

/-- Who is about to be run looks at nothing that was taken ahead, nor at what is not yet told of. -/
theorem looks_free (hok : DrawOk ops.toList (ancs ops.toList [])) {listed : Array Bool} {m : Nat} {fr : List T} {hp : Hp} {nx : Nat} {a : Act} {G : Cx} (h : Inv E w0 F0 G0 ds ops bk listed m fr hp nx a G) {j : Nat} {o : Oper} (hj : ops.toList[j]? = some o)
    (hd : ∀ e ∈ o.after.toList, Region.binds .any e = true → listed.getD e.on false = true) (hl : listed.getD j false = false) (hdm : m.testBit j = true ∨ ∀ e ∈ o.after.toList, Region.binds .any e = true → m.testBit e.on = true) {t : Nat} (ht : t ∈ looks ops.toList o) :
    ∀ i o', ops.toList[i]? = some o' → m.testBit i ≠ listed.getD i false → o'.dst ≠ some t := by
  intro i o' hi hne hdst
  by_cases hij : j = i
  · subst hij
    rw [hj] at hi
    cases hi
    exact hok.self j o t hj hdst ht
  · rcases hok.look j i o o' t hj hi hij hdst ht with h1 | ⟨h1, h2⟩
    · have e1 := anc_ready h.low hj h1 hd
      have e2 : m.testBit i = true := by
        rcases hdm with hm | hdm
        · exact anc_in h.lowM hj h1 hm
        · exact anc_ready h.lowM hj h1 hdm
      exact hne (e2.trans e1.symm)
    · cases hli : listed.getD i false with
      | true =>
        have := anc_in h.low hi h2 hli
        rw [hl] at this
        cases this
      | false =>
        rw [hli] at hne
        have hmi : m.testBit i = true := by cases hm : m.testBit i <;> simp_all
        rw [h.val i o' hi hmi hli] at h1
        cases h1

/-- The guard as the machine reads it. -/
theorem wanted_of {listed : Array Bool} {m : Nat} {fr : List T} {hp : Hp} {nx : Nat} {a : Act} {G : Cx} (h : Inv E w0 F0 G0 ds ops bk listed m fr hp nx a G) {o : Oper} {yes no : Prop} (hg : gateK ops.toList fr o.guard yes no)
    (hfree : ∀ t, t ∈ looks ops.toList o → ∀ i o', ops.toList[i]? = some o' → m.testBit i ≠ listed.getD i false → o'.dst ≠ some t) :
    (Region.wanted o (yielded ops a.tmps) = true ∧ yes) ∨ (Region.wanted o (yielded ops a.tmps) = false ∧ no) := by
  rcases gateK_out hg with ⟨h1, h2⟩ | ⟨j, want, d, b, h1, h2, h3, h4⟩
  · exact .inl ⟨by simp [Region.wanted, h1], h2⟩
  · obtain ⟨v, hv, hvt⟩ := h.frame d _ h3 (hfree d (mem_looks.2 (.inr ⟨j, want, h1, h2⟩)))
    have h2' : (ops[j]?).bind (·.dst) = some d := by simpa using h2
    have hy : yielded ops a.tmps j = b := by
      unfold yielded
      rw [h2', Option.bind_some, hv]
      rcases b with _ | b
      · obtain ⟨vs, rfl, rfl⟩ := hvt
        rfl
      · have hvb : v = .bool b := by cases b <;> exact hvt
        subst hvb
        rfl
    have hw : Region.wanted o (yielded ops a.tmps) = (b == some want) := by
      simp only [Region.wanted, h1, hy]
    rw [hw]
    by_cases hb : b = some want
    · subst hb; exact .inl ⟨by simp, by simpa using h4⟩
    · exact .inr ⟨by simpa using hb, by simpa [hb] using h4⟩

/-- Nobody else writes the slot of a block of the bank. -/
theorem bank_slot (hok : DrawOk ops.toList (ancs ops.toList [])) {listed : Array Bool} {m : Nat} {fr : List T} {hp : Hp} {nx : Nat} {a : Act} {G : Cx} (h : Inv E w0 F0 G0 ds ops bk listed m fr hp nx a G) {i j : Nat} {o o' : Oper} (hj : ops.toList[j]? = some o') (hi : ops.toList[i]? = some o)
    (hl : listed.getD j false = false) (hdm : m.testBit j = true ∨ ∀ e ∈ o'.after.toList, Region.binds .any e = true → m.testBit e.on = true) (hli : listed.getD i false = true) (hmi : m.testBit i = false) {d : Tmp} (hd : o.dst = some d) : o'.dst ≠ some d := by
  intro hd'
  have hij : i ≠ j := by rintro rfl; rw [hl] at hli; cases hli
  rcases (hok.dst i j o o' d hi hj hij hd' hd).2 with h1 | h1
  · have := anc_in h.low hi h1 hli
    rw [hl] at this; cases this
  · have : m.testBit i = true := by
      rcases hdm with hm | hdm
      · exact anc_in h.lowM hj h1 hm
      · exact anc_ready h.lowM hj h1 hdm
    rw [hmi] at this; cases this

/-- A value that was taken ahead is made. -/
theorem step_ahead (hE : EnvOk P E) (hok : DrawOk ops.toList (ancs ops.toList [])) {listed : Array Bool} {m : Nat} {fr : List T} {hp : Hp} {nx : Nat} {a : Act} {G : Cx} (h : Inv E w0 F0 G0 ds ops bk listed m fr hp nx a G)
    {i : Nat} {o : Oper} (hi : ops.toList[i]? = some o) (hm : m.testBit i = true) (hl : listed.getD i false = false) (hd : ∀ e ∈ o.after.toList, Region.binds .any e = true → listed.getD e.on false = true) {K : Act → World → Prop} {Q : Exit → Act → World → Prop}
    (hK : ∀ a' G', Inv E w0 F0 G0 ds ops bk (listed.setIfInBounds i true) m fr hp nx a' G' → K a' G'.w) : wpOp P ops Q i K a G.w := by
  have hlt : i < ops.size := h.lt i hm
  have hfree := fun t ht => looks_free hok h hi hd hl (.inl hm) (t := t) ht
  have hold : ∀ j, (listed.setIfInBounds i true).getD j false = true ↔ (j = i ∨ listed.getD j false = true) := fun j => by
    by_cases hji : i = j
    · subst hji; simp [h.size, hlt]
    · rw [getD_set_ne false hji]; simp [Ne.symm hji]
  have hnew : ∀ j, (listed.setIfInBounds i true).getD j false = false ↔ (j ≠ i ∧ listed.getD j false = false) := fun j => by
    have := hold j
    cases h1 : (listed.setIfInBounds i true).getD j false <;> cases h2 : listed.getD j false <;> simp_all
  have done : ∀ (v : Value) (G' : Cx), Ext G G' → Mdl G.w (baseOf G hp) G' hp nx → (∀ d, o.dst = some d → ∀ x, fr[d]? = some x → tVal G' x v) → K (a.put o.dst v) G'.w := by
    intro v G' hx hmd hv
    refine hK _ G' ⟨h.mdl.unbase hmd, h.ext.trans hx, put_defs.trans h.defs, by simp [h.size], fun j hj => ?_, h.lt, ?_, h.lowM, fun j o' hj hmj hlj => ?_, by rw [put_size]; exact h.len, fun t x ht hD => ?_, fun j o' hj hmj hlj => h.stab j o' hj hmj ((hnew j).1 hlj).2, ?_⟩
    · rcases (hold j).1 hj with rfl | hj
      · exact .inl hm
      · exact h.sub j hj
    · intro j o' hj hlj e he hb
      refine (hold e.on).2 ?_
      rcases (hold j).1 hlj with rfl | hlj
      · rw [hi] at hj
        cases hj
        exact .inr (hd e he hb)
      · exact .inr (h.low j o' hj hlj e he hb)
    · exact h.val j o' hj hmj ((hnew j).1 hlj).2
    · by_cases hdt : o.dst = some t
      · have htl : t < a.tmps.size := by rw [← h.len]; exact (List.getElem?_eq_some_iff.1 ht).1
        exact ⟨v, put_at hdt htl, hv t hdt x ht⟩
      · obtain ⟨v', hv', hvt⟩ := h.frame t x ht fun j o' hj hne => by
          by_cases hji : j = i
          · subst hji
            rw [hi] at hj
            cases hj
            exact hdt
          · exact hD j o' hj (by rwa [getD_set_ne false (Ne.symm hji)])
        exact ⟨v', (put_get hdt).trans hv', hx.tVal hvt⟩
    · obtain ⟨bb, hb1, hb2⟩ := h.bank
      refine ⟨bb, fun j o' hj hlj hmj => ?_, fun j k oj ok hj hk hlj hmj hlk hmk hne => ?_⟩
      · have hji : j ≠ i := by rintro rfl; rw [hm] at hmj; cases hmj
        have hlj' := ((hold j).1 hlj).resolve_left hji
        obtain ⟨t, y, d, e1, e2, e3, e4, e5⟩ := hb1 j o' hj hlj' hmj
        exact ⟨t, y, d, e1, e2, e3, e4, e5.step hmd hx (put_get (bank_slot hok h hi hj hl (.inl hm) hlj' hmj e4)) put_size⟩
      · have hji : j ≠ i := by rintro rfl; rw [hm] at hmj; cases hmj
        have hki : k ≠ i := by rintro rfl; rw [hm] at hmk; cases hmk
        exact hb2 j k oj ok hj hk (((hold j).1 hlj).resolve_left hji) hmj (((hold k).1 hlk).resolve_left hki) hmk hne
  have hst := h.stab i o hi hm hl
  unfold wpOp
  rw [show ops[i]? = some o by simpa using hi]
  simp only []
  rcases wanted_of h hst hfree with ⟨hw, hn, x, hval, hx⟩ | ⟨hw, hno⟩
  · rw [if_pos hw]
    left
    obtain ⟨fr2, hf2, hag⟩ := frame_out h
    have hagr : Agree o.op.operands.toList fr fr2 := looks_agree (opl := ops.toList) fun t ht => hag t (hfree t ht)
    have hv := h.val i o hi hm hl
    have hval2 := valK_congr hval hagr
    have hn2 := noNilP_congr hn hagr
    have hden : denOp E o.op fr2 hp nx (fun y hp' nx' => hp' = hp ∧ nx' = nx ∧ Ref y x) := by
      rw [val_same hv]
      exact valK_mono hv hn2 hval2 fun y hy => ⟨rfl, rfl, hy⟩
    refine op_ok hE h.mdl.base hf2 hden _ Q fun G' y v hp' nx' hx' hmd hvt ⟨e1, e2, hr⟩ => ?_
    subst e1 e2
    exact done v G' hx' hmd fun d hd' x' hx2 => by
      rw [hx d hd'] at hx2
      cases hx2
      exact hr G' v hvt
  · rw [if_neg (by simp [hw])]
    exact done undef G (Ext.refl G) h.mdl.base fun d hd' x' hx2 => by
      rw [hno d hd'] at hx2
      cases hx2
      exact ⟨[], rfl, rfl⟩

/-- A block of the bank is made. -/
theorem step_bank (hE : EnvOk P E) (hok : DrawOk ops.toList (ancs ops.toList [])) {listed : Array Bool} {m : Nat} {fr : List T} {hp : Hp} {nx : Nat} {a : Act} {G : Cx} (h : Inv E w0 F0 G0 ds ops bk listed m fr hp nx a G)
    {i : Nat} {o : Oper} (hi : ops.toList[i]? = some o) (hm : m.testBit i = false) (hl : listed.getD i false = false) (hbi : bk.testBit i = true) (hbo : bankOp o = true) (hty : ∀ t, o.op = .alloc t → tyK E.ty t fun _ => True) {K : Act → World → Prop} {Q : Exit → Act → World → Prop}
    (hK : ∀ a' G', Inv E w0 F0 G0 ds ops bk (listed.setIfInBounds i true) m fr hp nx a' G' → K a' G'.w) : wpOp P ops Q i K a G.w := by
  have hlt : i < ops.size := by have := (List.getElem?_eq_some_iff.1 hi).1; simpa using this
  unfold bankOp at hbo
  split at hbo
  · next t hop =>
    split at hbo
    · next hgu =>
      split at hbo
      · next d hdst =>
        have hnodep : ∀ e ∈ o.after.toList, Region.binds .any e = false := fun e he => by simpa using List.all_eq_true.1 hbo e he
        have hold : ∀ j, (listed.setIfInBounds i true).getD j false = true ↔ (j = i ∨ listed.getD j false = true) := fun j => by
          by_cases hji : i = j
          · subst hji; simp [h.size, hlt]
          · rw [getD_set_ne false hji]; simp [Ne.symm hji]
        have hnew : ∀ j, (listed.setIfInBounds i true).getD j false = false ↔ (j ≠ i ∧ listed.getD j false = false) := fun j => by
          have := hold j
          cases h1 : (listed.setIfInBounds i true).getD j false <;> cases h2 : listed.getD j false <;> simp_all
        obtain ⟨y, hy, _, _, hk⟩ := tyK_both (hty t hop) (hty t hop)
        obtain ⟨ii, hii, _, _, z, hz, hz2⟩ := (hE.ty t y hy).info
        obtain ⟨hx, hmd⟩ := h.mdl.next (w' := G.w.alloc (.cells z.cells t)) rfl rfl rfl (by simp) (fun b hb => RowKit.Below.heap_alloc _ _ _ hb)
        unfold wpOp
        rw [show ops[i]? = some o by simpa using hi]
        simp only []
        rw [if_pos (by simp [Region.wanted, hgu])]
        left
        unfold Oper.wp
        have hexec : (execOp a.eval o).run P G.w = .ok (.value (.pointer (some ⟨G.w.heap.size, 0, none⟩))) (G.w.alloc (.cells z.cells t)) := by
          simp [execOp, hop, Instr.alloc, zeroValue, typeInfo, hii, hz, newVar, newRow]
        rw [hexec]
        have hslot : ∀ j o', ops.toList[j]? = some o' → listed.getD j false = true → m.testBit j = false → ∀ d', o'.dst = some d' → o.dst ≠ some d' := fun j o' hj hlj hmj d' hd' =>
          bank_slot hok h hi hj hl (.inr fun e he hb => by rw [hnodep e he] at hb; cases hb) hlj hmj hd'
        refine hK _ ⟨G.rho, G.im, G.w.alloc (.cells z.cells t)⟩ ⟨hmd, h.ext.trans hx, put_defs.trans h.defs, by simp [h.size], fun j hj => ?_, h.lt, ?_, h.lowM, fun j o' hj hmj hlj => ?_, by rw [put_size]; exact h.len, fun t' x ht hD => ?_, fun j o' hj hmj hlj => h.stab j o' hj hmj ((hnew j).1 hlj).2, ?_⟩
        · rcases (hold j).1 hj with rfl | hj
          · exact .inr hbi
          · exact h.sub j hj
        · intro j o' hj hlj e he hb
          refine (hold e.on).2 ?_
          rcases (hold j).1 hlj with rfl | hlj
          · rw [hi] at hj
            cases hj
            rw [hnodep e he] at hb; cases hb
          · exact .inr (h.low j o' hj hlj e he hb)
        · exact h.val j o' hj hmj ((hnew j).1 hlj).2
        · have hdt : o.dst ≠ some t' := hD i o hi (by rw [hm, (hold i).2 (.inl rfl)]; simp)
          obtain ⟨v', hv', hvt⟩ := h.frame t' x ht fun j o' hj hne => by
            by_cases hji : j = i
            · subst hji
              rw [hi] at hj
              cases hj
              exact hdt
            · exact hD j o' hj (by rwa [getD_set_ne false (Ne.symm hji)])
          exact ⟨v', (put_get hdt).trans hv', hx.tVal hvt⟩
        · obtain ⟨bb, hb1, hb2⟩ := h.bank
          have hmine : ∀ r c bb, (r, c) ∈ hp → c.rw = true → G.rho r = some bb → bb.nil = false → bb.blk ≠ G.w.heap.size := fun r c bb h1 h2 h3 h4 => by
            have := (h.mdl.mine r c bb h1 h2 h3 h4).2.1
            omega
          refine ⟨fun j => if j = i then G.w.heap.size else bb j, fun j o' hj hlj hmj => ?_, fun j k oj ok hj hk hlj hmj hlk hmk hne => ?_⟩
          · by_cases hji : j = i
            · subst hji
              rw [hi] at hj
              cases hj
              refine ⟨t, y, d, hop, hy, hk _ rfl, hdst, ?_⟩
              simp only [if_true]
              refine ⟨fun hd => put_at hdst (by rwa [put_size] at hd), ⟨rfl, z.cells.toList, t, by simpa using heap_alloc_new _ _, (hz2 _).2⟩, by simp, h.mdl.size, fun hi => ?_, hmine⟩
              · have := h.mdl.imLt _ hi; omega
            · have hlj' := ((hold j).1 hlj).resolve_left hji
              obtain ⟨t2, y2, d2, e1, e2, e3, e4, e5⟩ := hb1 j o' hj hlj' hmj
              refine ⟨t2, y2, d2, e1, e2, e3, e4, ?_⟩
              simp only [if_neg hji]
              obtain ⟨f1, ⟨f2, cs, ty, f3, f4⟩, f5, f6, f7, f8⟩ := e5
              exact ⟨fun hd => (put_get (hslot j o' hj hlj' hmj d2 e4)).trans (f1 (by rwa [put_size] at hd)), ⟨f2, cs, ty, (RowKit.Below.heap_alloc _ _ _ f5).trans f3, hx.tCells f4⟩, by simp; omega, f6, f7, f8⟩
          · have blt : ∀ j o', ops.toList[j]? = some o' → listed.getD j false = true → m.testBit j = false → bb j < G.w.heap.size := fun j o' hj hlj hmj => by
              obtain ⟨_, _, _, _, _, _, _, e5⟩ := hb1 j o' hj hlj hmj
              exact e5.lt
            by_cases hji : j = i <;> by_cases hki : k = i
            · exact (hne (hji.trans hki.symm)).elim
            · simp only [if_pos hji, if_neg hki]
              have := blt k ok hk (((hold k).1 hlk).resolve_left hki) hmk
              omega
            · simp only [if_neg hji, if_pos hki]
              have := blt j oj hj (((hold j).1 hlj).resolve_left hji) hmj
              omega
            · simp only [if_neg hji, if_neg hki]
              exact hb2 j k oj ok hj hk (((hold j).1 hlj).resolve_left hji) hmj (((hold k).1 hlk).resolve_left hki) hmk hne
      · cases hbo
    · cases hbo
  · cases hbo

end
end Go.J

set_option linter.unusedSimpArgs false
set_option linter.unusedVariables false
set_option linter.unusedSectionVars false

namespace Go.J

section
variable {P : Program} {E : Env} {w0 : World} {F0 : Base} {ops : Array Oper} {bk : Nat} {G0 : Cx} {ds : List Deferred}

theorem stab_move (hok : DrawOk ops.toList (ancs ops.toList [])) {i : Nat} {o : Oper} {fr fr' : List T} {hp : Hp} (h : Stab E ops.toList o fr hp) (ha : ∀ t, t ∈ looks ops.toList o → fr'[t]? = fr[t]?) (hd : ∀ d, o.dst = some d → fr'[d]? = fr[d]?) : Stab E ops.toList o fr' hp :=
  gateK_congr h ha (fun ⟨hn, x, hv, hx⟩ => ⟨noNilP_congr hn (looks_agree ha), x, valK_congr hv (looks_agree ha), fun d hd' => (hd d hd').trans (hx d hd')⟩) fun hn d hd' => (hd d hd').trans (hn d hd')

/-- A value is taken ahead. -/
theorem take_ahead (hok : DrawOk ops.toList (ancs ops.toList [])) {listed : Array Bool} {m : Nat} {fr fr' : List T} {hp : Hp} {nx : Nat} {a : Act} {G : Cx} (h : Inv E w0 F0 G0 ds ops bk listed m fr hp nx a G)
    (hbk : ∀ i o, ops.toList[i]? = some o → bk.testBit i = true → bankOp o = true) {i : Nat} {o : Oper} (hi : ops.toList[i]? = some o) (hm : m.testBit i = false) (hv : valueOp o.op = true) (hb : ∀ e ∈ o.after.toList, Region.binds .any e = true → m.testBit e.on = true)
    (hlen : fr'.length = fr.length) (hsame : ∀ t, o.dst ≠ some t → fr'[t]? = fr[t]?) (hst : Stab E ops.toList o fr' hp) :
    Inv E w0 F0 G0 ds ops bk listed (m ||| 2 ^ i) fr' hp nx a G := by
  have hlt : i < ops.size := by have := (List.getElem?_eq_some_iff.1 hi).1; simpa using this
  have hbit : ∀ j, (m ||| 2 ^ i).testBit j = true ↔ (m.testBit j = true ∨ i = j) := fun j => by rw [testBit_set]; simp
  have hli : listed.getD i false = false := by
    cases hl : listed.getD i false with
    | false => rfl
    | true =>
      rcases h.sub i hl with h1 | h1
      · rw [hm] at h1; cases h1
      · have := hbk i o hi h1
        unfold bankOp at this
        split at this
        · next hop => rw [hop] at hv; cases hv
        · cases this
  have old : ∀ j o', ops.toList[j]? = some o' → m.testBit j = true → listed.getD j false = false → Stab E ops.toList o' fr' hp := fun j o' hj hmj hlj => by
    have hji : j ≠ i := by rintro rfl; rw [hm] at hmj; cases hmj
    refine stab_move (i := j) hok (h.stab j o' hj hmj hlj) (fun t ht => hsame t fun hd => ?_) fun d hd => hsame d fun hd2 => ?_
    · rcases hok.look j i o' o t hj hi hji hd ht with h1 | ⟨h1, _⟩
      · have := anc_in h.lowM hj h1 hmj
        rw [hm] at this
        cases this
      · rw [hv] at h1; cases h1
    · have := (hok.dst j i o' o d hj hi hji hd2 hd).1.2
      rw [hv] at this
      cases this
  have hmne : ∀ j, j ≠ i → (m ||| 2 ^ i).testBit j = m.testBit j := fun j hji => by rw [testBit_set]; simp [Ne.symm hji]
  refine ⟨h.mdl, h.ext, h.defs, h.size, fun j hj => (h.sub j hj).imp (fun h1 => (hbit j).2 (.inl h1)) id, fun j hj => ?_, h.low, ?_, fun j o' hj hmj hlj => ?_, hlen.trans h.len, fun t x ht hD => ?_, fun j o' hj hmj hlj => ?_, ?_⟩
  · rcases (hbit j).1 hj with hj | rfl
    · exact h.lt j hj
    · exact hlt
  · intro j o' hj hmj e he hbe
    refine (hbit e.on).2 (.inl ?_)
    rcases (hbit j).1 hmj with hmj | rfl
    · exact h.lowM j o' hj hmj e he hbe
    · rw [hi] at hj
      cases hj
      exact hb e he hbe
  · rcases (hbit j).1 hmj with hmj | rfl
    · exact h.val j o' hj hmj hlj
    · rw [hi] at hj
      cases hj
      exact hv
  · have hdt : o.dst ≠ some t := hD i o hi (by rw [(hbit i).2 (.inr rfl), hli]; simp)
    rw [hsame t hdt] at ht
    exact h.frame t x ht fun j o' hj hne => by
      by_cases hji : j = i
      · subst hji; rw [hi] at hj; cases hj; exact hdt
      · exact hD j o' hj (by rwa [hmne j hji])
  · rcases (hbit j).1 hmj with hmj | rfl
    · exact old j o' hj hmj hlj
    · rw [hi] at hj
      cases hj
      exact hst
  · obtain ⟨bb, hb1, hb2⟩ := h.bank
    have hno : ∀ j, listed.getD j false = true → (m ||| 2 ^ i).testBit j = false → m.testBit j = false := fun j hlj hmj => by
      cases hq : m.testBit j with
      | false => rfl
      | true => rw [(hbit j).2 (.inl hq)] at hmj; cases hmj
    exact ⟨bb, fun j o' hj hlj hmj => hb1 j o' hj hlj (hno j hlj hmj), fun j k oj ok hj hk hlj hmj hlk hmk => hb2 j k oj ok hj hk hlj (hno j hlj hmj) hlk (hno k hlk hmk)⟩

theorem sameB_eq {a b : Bool} (h : sameB a b = true) : a = b := by cases a <;> cases b <;> simp_all [sameB]
theorem sameL_eq : ∀ {l m : List Nat}, sameL l m = true → l = m
  | [], [], _ => rfl
  | a :: l, b :: m, h => by
    simp only [sameL, Bool.and_eq_true] at h
    rw [nat_beq_eq h.1, sameL_eq h.2]
  | [], _ :: _, h => by simp [sameL] at h
  | _ :: _, [], h => by simp [sameL] at h
theorem opAtK_out : ∀ {ops : List Oper} {i : Nat} {k : Oper → Prop}, opAtK ops i k → ∃ o, ops[i]? = some o ∧ k o
  | [], _, _, h => h.elim
  | o :: _, 0, _, h => ⟨o, rfl, h⟩
  | _ :: os, i + 1, k, h => by simpa using opAtK_out (ops := os) (i := i) h

theorem recheckL_out {opl : List Oper} {m anc : Nat} {fr : List T} {hp : Hp} {nx : Nat} {k k' : Prop} (hk : k → k') : ∀ {os : List Oper} {i0 : Nat}, (∀ (j : Nat) (o : Oper), os[j]? = some o → opl[i0 + j]? = some o) → recheckL E opl fr hp nx k (rcList opl m anc os i0) → recheckK E opl m anc fr hp nx k' os i0
  | [], _, _, h => hk h
  | x :: os, i0, hall, h => by
    have hall' : ∀ (j : Nat) (o : Oper), os[j]? = some o → opl[i0 + 1 + j]? = some o := fun j o hj => by
      have := hall (j + 1) o (by simpa using hj)
      rwa [show i0 + 1 + j = i0 + (j + 1) by omega]
    unfold rcList at h
    unfold recheckK
    split at h
    · next hb =>
      obtain ⟨o, ho, h1, h2⟩ := opAtK_out h
      have hx := hall 0 x rfl
      rw [Nat.add_zero] at hx
      rw [hx] at ho
      cases ho
      exact ⟨h1, recheckL_out hk hall' h2⟩
    · next hb =>
      exact recheckL_out hk hall' h

def Plan.size : Plan → Nat
  | .done => 1
  | .take _ _ p => p.size + 1
  | .last _ _ _ p => p.size + 1
  | .alt _ _ _ p rest => p.size + rest.size + 1
  | .cash _ _ p => p.size + 1

theorem gateK_mono {ops : List Oper} {fr : List T} {g : Option (Nat × Bool)} {yes no yes' no' : Prop} (h : gateK ops fr g yes no) (hy : yes → yes') (hn : no → no') : gateK ops fr g yes' no' := by
  refine gateK_mk ?_
  rcases gateK_out h with ⟨h1, h2⟩ | ⟨j, want, d, b, h1, h2, h3, h4⟩
  · exact .inl ⟨h1, hy h2⟩
  · refine .inr ⟨j, want, d, b, h1, h2, h3, ?_⟩
    split <;> simp_all
theorem normK_mono {b : Bool} {x : T} {k k' : T → Prop} (h : normK b x k) (hk : ∀ x, k x → k' x) : normK b x k' := by
  unfold normK at h ⊢
  split at h
  · exact hk _ h
  · split at h
    · exact hk _ h
    · exact hk _ h
    · exact ⟨fun e => hk _ (h.1 e), fun e => hk _ (h.2 e)⟩
    · exact h
theorem putK_mono {fr : List T} {dst : Option Tmp} {x : T} {k k' : List T → Prop} (h : putK fr dst x k) (hk : ∀ fr, k fr → k' fr) : putK fr dst x k' := by
  unfold putK at h ⊢
  split at h
  · exact hk _ h
  · obtain ⟨h1, h2⟩ := lsetK_out h
    exact lsetK_mk h1 (hk _ h2)


/-- What is no value is done, here and there. -/
theorem step_both (hE : EnvOk P E) (hok : DrawOk ops.toList (ancs ops.toList [])) {listed : Array Bool} {m : Nat} {fr : List T} {hp : Hp} {nx : Nat} {a : Act} {G : Cx} (h : Inv E w0 F0 G0 ds ops bk listed m fr hp nx a G)
    {i : Nat} {o : Oper} (hi : ops.toList[i]? = some o) (hm : m.testBit i = false) (hv : valueOp o.op = false) (hl0 : listed.getD i false = false) (hd : ∀ e ∈ o.after.toList, Region.binds .any e = true → listed.getD e.on false = true) (hdm : ∀ e ∈ o.after.toList, Region.binds .any e = true → m.testBit e.on = true) {K : Act → World → Prop} {Q : Exit → Act → World → Prop} {rest : List T → Hp → Nat → Prop} {b : Bool}
    (hden : gateK ops.toList fr o.guard
      (denOp E o.op fr hp nx fun x hp nx => normK b x fun x => putK fr o.dst x fun fr => recheckL E ops.toList fr hp nx (rest fr hp nx) (rcList ops.toList m ((ancs ops.toList []).getD i 0) ops.toList 0))
      (putK fr o.dst (.tup .nil) fun fr => recheckL E ops.toList fr hp nx (rest fr hp nx) (rcList ops.toList m ((ancs ops.toList []).getD i 0) ops.toList 0)))
    (hK : ∀ a' G' fr' hp' nx', Inv E w0 F0 G0 ds ops bk (listed.setIfInBounds i true) (m ||| 2 ^ i) fr' hp' nx' a' G' → rest fr' hp' nx' → K a' G'.w) : wpOp P ops Q i K a G.w := by
  have hlt : i < ops.size := by have := (List.getElem?_eq_some_iff.1 hi).1; simpa using this
  have hfree := fun t ht => looks_free hok h hi hd hl0 (.inr hdm) (t := t) ht
  have hmne : ∀ j, j ≠ i → (m ||| 2 ^ i).testBit j = m.testBit j := fun j hji => by rw [testBit_set]; simp [Ne.symm hji]
  have hbit : ∀ j, (m ||| 2 ^ i).testBit j = true ↔ (m.testBit j = true ∨ i = j) := fun j => by rw [testBit_set]; simp
  have hold : ∀ j, (listed.setIfInBounds i true).getD j false = true ↔ (j = i ∨ listed.getD j false = true) := fun j => by
    by_cases hji : i = j
    · subst hji; simp [h.size, hlt]
    · rw [getD_set_ne false hji]; simp [Ne.symm hji]
  have hnew : ∀ j, (listed.setIfInBounds i true).getD j false = false ↔ (j ≠ i ∧ listed.getD j false = false) := fun j => by
    have := hold j
    cases h1 : (listed.setIfInBounds i true).getD j false <;> cases h2 : listed.getD j false <;> simp_all
  have done : ∀ (v : Value) (x : T) (G' : Cx) (hp' : Hp) (nx' : Nat) (fr' : List T), Ext G G' → Mdl G.w (baseOf G hp) G' hp' nx' → tVal G' x v → fr'.length = fr.length → (∀ t, o.dst ≠ some t → fr'[t]? = fr[t]?) → (∀ d, o.dst = some d → fr'[d]? = some x) →
      recheckL E ops.toList fr' hp' nx' (rest fr' hp' nx') (rcList ops.toList m ((ancs ops.toList []).getD i 0) ops.toList 0) → (readsHp o.op = readsHp o.op) → K (a.put o.dst v) G'.w := by
    intro v x G' hp' nx' fr' hx hmd hvt hlen hsame hat hre _
    obtain ⟨hrest, hrc⟩ := recheckK_out (recheckL_out (opl := ops.toList) id (fun j o hj => by rwa [Nat.zero_add]) hre)
    have side : ∀ j o', ops.toList[j]? = some o' → m.testBit j = true → listed.getD j false = false → (∀ t, t ∈ looks ops.toList o' → fr'[t]? = fr[t]?) ∧ (∀ d, o'.dst = some d → fr'[d]? = fr[d]?) := fun j o' hj hmj hlj => by
      have hji : j ≠ i := by rintro rfl; rw [hm] at hmj; cases hmj
      refine ⟨fun t ht => hsame t fun hdt => ?_, fun d hd' => hsame d fun hd2 => ?_⟩
      · rcases hok.look j i o' o t hj hi hji hdt ht with h1 | ⟨_, h1⟩
        · have := anc_in h.lowM hj h1 hmj
          rw [hm] at this
          cases this
        · have := anc_ready h.low hi h1 hd
          rw [hlj] at this
          cases this
      · have := (hok.dst j i o' o d hj hi hji hd2 hd').1.1
        rw [h.val j o' hj hmj hlj] at this
        cases this
    refine hK _ G' fr' hp' nx' ⟨h.mdl.unbase hmd, h.ext.trans hx, put_defs.trans h.defs, by simp [h.size], fun j hj => ?_, fun j hj => ?_, ?_, ?_, fun j o' hj hmj hlj => ?_, by rw [put_size, hlen]; exact h.len, fun t x' ht hD => ?_, fun j o' hj hmj hlj => ?_, ?_⟩ hrest
    · rcases (hold j).1 hj with rfl | hj
      · exact .inl ((hbit _).2 (.inr rfl))
      · exact (h.sub j hj).imp (fun h1 => (hbit j).2 (.inl h1)) id
    · rcases (hbit j).1 hj with hj | rfl
      · exact h.lt j hj
      · exact hlt
    · intro j o' hj hlj e he hbe
      refine (hold e.on).2 ?_
      rcases (hold j).1 hlj with rfl | hlj
      · rw [hi] at hj
        cases hj
        exact .inr (hd e he hbe)
      · exact .inr (h.low j o' hj hlj e he hbe)
    · intro j o' hj hmj e he hbe
      refine (hbit e.on).2 (.inl ?_)
      rcases (hbit j).1 hmj with hmj | rfl
      · exact h.lowM j o' hj hmj e he hbe
      · rw [hi] at hj
        cases hj
        exact hdm e he hbe
    · obtain ⟨hji, hlj⟩ := (hnew j).1 hlj
      rcases (hbit j).1 hmj with hmj | rfl
      · exact h.val j o' hj hmj hlj
      · exact (hji rfl).elim
    · by_cases hdt : o.dst = some t
      · have htl : t < a.tmps.size := by rw [← h.len, ← hlen]; exact (List.getElem?_eq_some_iff.1 ht).1
        rw [hat t hdt] at ht
        cases ht
        exact ⟨v, put_at hdt htl, hvt⟩
      · rw [hsame t hdt] at ht
        obtain ⟨v', hv', hvt'⟩ := h.frame t x' ht fun j o' hj hne => by
          by_cases hji : j = i
          · subst hji; rw [hi] at hj; cases hj; exact hdt
          · exact hD j o' hj (by rw [hmne j hji, getD_set_ne false (Ne.symm hji)]; exact hne)
        exact ⟨v', (put_get hdt).trans hv', hx.tVal hvt'⟩
    · obtain ⟨hji, hlj⟩ := (hnew j).1 hlj
      rcases (hbit j).1 hmj with hmj | rfl
      · obtain ⟨s1, s2⟩ := side j o' hj hmj hlj
        have hvj := h.val j o' hj hmj hlj
        have hst := stab_move (i := j) hok (h.stab j o' hj hmj hlj) s1 s2
        cases hr : readsHp o'.op with
        | false => exact gateK_congr hst (fun _ _ => rfl) (fun ⟨hn, x, hvx, hx'⟩ => ⟨hn, x, valK_hp hvj hr hn hvx, hx'⟩) fun hn => hn
        | true =>
          have hanc : ((ancs ops.toList []).getD i 0).testBit j = false := by
            cases hq : ((ancs ops.toList []).getD i 0).testBit j with
            | false => rfl
            | true =>
              have := anc_ready h.low hi hq hd
              rw [hlj] at this
              cases this
          obtain ⟨d, hd', hg⟩ := hrc j o' hj (by rwa [Nat.zero_add]) (by rwa [Nat.zero_add]) hvj hr
          refine gateK_and hst hg (fun ⟨hn, x, _, hx'⟩ hd2 => ⟨hn, x, ?_, hx'⟩) fun hn _ => hn
          have hd3 : valK E o'.op fr' hp' (fun y => lgetK fr' d fun x => sameK y x) := by
            have := val_same (E := E) (fr := fr') (hp := hp') (nx := nx') (k := fun y _ _ => lgetK fr' d fun x => sameK y x) hvj
            rw [this] at hd2
            exact hd2
          refine valK_mono hvj hn hd3 fun y hy => ?_
          obtain ⟨z, hz, hs⟩ := lgetK_out hy
          rw [hx' d hd'] at hz
          cases hz
          exact sameK_out hs
      · exact (hji rfl).elim
    · obtain ⟨bb, hb1, hb2⟩ := h.bank
      have hno : ∀ j, (listed.setIfInBounds i true).getD j false = true → (m ||| 2 ^ i).testBit j = false → j ≠ i ∧ listed.getD j false = true ∧ m.testBit j = false := fun j hlj hmj => by
        have hji : j ≠ i := by rintro rfl; rw [(hbit j).2 (.inr rfl)] at hmj; cases hmj
        rw [hmne j hji] at hmj
        exact ⟨hji, ((hold j).1 hlj).resolve_left hji, hmj⟩
      refine ⟨bb, fun j o' hj hlj hmj => ?_, fun j k oj ok hj hk hlj hmj hlk hmk => hb2 j k oj ok hj hk (hno j hlj hmj).2.1 (hno j hlj hmj).2.2 (hno k hlk hmk).2.1 (hno k hlk hmk).2.2⟩
      obtain ⟨hji, hlj', hmj'⟩ := hno j hlj hmj
      obtain ⟨t, y, d, e1, e2, e3, e4, e5⟩ := hb1 j o' hj hlj' hmj'
      exact ⟨t, y, d, e1, e2, e3, e4, e5.step hmd hx (put_get (bank_slot hok h hi hj hl0 (.inr hdm) hlj' hmj' e4)) put_size⟩
  unfold wpOp
  rw [show ops[i]? = some o by simpa using hi]
  simp only []
  rcases wanted_of h hden hfree with ⟨hw, hy⟩ | ⟨hw, hno⟩
  · rw [if_pos hw]
    left
    obtain ⟨fr2, hf2, hag⟩ := frame_out h
    have hagr : Agree o.op.operands.toList fr fr2 := looks_agree (opl := ops.toList) fun t ht => hag t (hfree t ht)
    refine op_ok hE h.mdl.base hf2 (den_congr hy hagr) _ Q fun G' y v hp' nx' hx' hmd hvt hk => ?_
    obtain ⟨x, hk2, hr⟩ := normK_out hk
    obtain ⟨fr', hk3, hlen, hsame, hat⟩ := putK_out hk2
    exact done v x G' hp' nx' fr' hx' hmd (hr G' v hvt) hlen hsame hat hk3 rfl
  · rw [if_neg (by simp [hw])]
    obtain ⟨fr', hk3, hlen, hsame, hat⟩ := putK_out hno
    exact done undef (.tup .nil) G hp nx fr' (Ext.refl G) h.mdl.base ⟨[], rfl, rfl⟩ hlen hsame hat hk3 rfl

theorem ready_in {listed : Array Bool} {i : Nat} (h : i ∈ Region.ready .any ops listed) : ∃ o, ops.toList[i]? = some o ∧ listed.getD i true = false ∧ ∀ e ∈ o.after.toList, Region.binds .any e = true → listed.getD e.on false = true := by
  obtain ⟨h1, o, h2, h3⟩ := mem_ready.1 h
  exact ⟨o, by simpa using h2, h1, fun e he hb => h3 e (by simpa using he) hb⟩

theorem in_ready {listed : Array Bool} {i : Nat} {o : Oper} (hs : listed.size = ops.size) (hi : ops.toList[i]? = some o) (hl : listed.getD i false = false) (h : ∀ e ∈ o.after.toList, Region.binds .any e = true → listed.getD e.on false = true) : i ∈ Region.ready .any ops listed := by
  have hlt : i < ops.size := by have := (List.getElem?_eq_some_iff.1 hi).1; simpa using this
  exact mem_ready.2 ⟨(getD_both hs hlt).trans hl, o, by simpa using hi, fun e he hb => h e (by simpa using he) hb⟩

/-- Nothing is left. -/
theorem any_end (hok : DrawOk ops.toList (ancs ops.toList [])) (hbk : ∀ i o, ops.toList[i]? = some o → bk.testBit i = true → bankOp o = true) {listed : Array Bool} {m : Nat} {fr : List T} {hp : Hp} {nx : Nat} {a : Act} {G : Cx} (h : Inv E w0 F0 G0 ds ops bk listed m fr hp nx a G) (hr : Region.ready .any ops listed = []) :
    (∀ i, i < ops.size → listed.getD i false = true) := by
  intro i
  induction i using Nat.strongRecOn with
  | _ i ih =>
    intro hlt
    cases hl : listed.getD i false with
    | true => rfl
    | false =>
      have hi : ops.toList[i]? = some ops.toList[i] := List.getElem?_eq_getElem (by simpa using hlt)
      have := in_ready h.size hi hl fun e he hb => ih e.on (hok.edge i _ hi e he hb) (by have := hok.edge i _ hi e he hb; omega)
      rw [hr] at this
      cases this

theorem chain_out : ∀ (p : Plan) (m : Nat) (r : Option (List (Nat × Oper))) (fr : List T) (hp : Hp) (nx : Nat) {opl : List Oper} {as : List Nat} {k : List T → Hp → Nat → Prop}, (∃ i g rc p', p = .last i g rc p') ∨ (∃ i g rc p' rest, p = .alt i g rc p' rest) → planOk opl as bk p m r = true → planK E opl k p fr hp nx →
    ∀ j o, (j, o) ∈ r.getD (openE bk m opl 0) → opl[j]? = some o → ∃ g p', p'.size < p.size ∧ planOk opl as bk p' (m ||| 2 ^ j) none = true ∧ gateK opl fr o.guard
      (denOp E o.op fr hp nx fun x hp nx => normK g x fun x => putK fr o.dst x fun fr => recheckL E opl fr hp nx (planK E opl k p' fr hp nx) (rcList opl m (as.getD j 0) opl 0))
      (putK fr o.dst (.tup .nil) fun fr => recheckL E opl fr hp nx (planK E opl k p' fr hp nx) (rcList opl m (as.getD j 0) opl 0))
  | .done, _, _, _, _, _, _, _, _, hp, _, _, _, _, _, _ => by rcases hp with ⟨_, _, _, _, h⟩ | ⟨_, _, _, _, _, h⟩ <;> cases h
  | .take _ _ _, _, _, _, _, _, _, _, _, hp, _, _, _, _, _, _ => by rcases hp with ⟨_, _, _, _, h⟩ | ⟨_, _, _, _, _, h⟩ <;> cases h
  | .cash _ _ _, _, _, _, _, _, _, _, _, hp, _, _, _, _, _, _ => by rcases hp with ⟨_, _, _, _, h⟩ | ⟨_, _, _, _, _, h⟩ <;> cases h
  | .last i g rc p, m, r, fr, hp, nx, opl, as, k, _, hok, hk, j, o, hj, ho => by
    simp only [planOk, Bool.and_eq_true] at hok
    obtain ⟨_, hok⟩ := hok
    split at hok
    · next j' o' hr =>
      rw [hr] at hj
      simp at hj
      obtain ⟨rfl, rfl⟩ := hj
      simp only [Bool.and_eq_true] at hok
      obtain ⟨⟨⟨e1, e2⟩, e3⟩, e4⟩ := hok
      obtain rfl := nat_beq_eq e1
      obtain rfl := sameL_eq e3
      obtain ⟨o2, ho2, h2⟩ := opAtK_out hk
      rw [ho] at ho2
      cases ho2
      exact ⟨g, p, by simp [Plan.size], e4, h2⟩
    · cases hok
  | .alt i g rc p rest, m, r, fr, hp, nx, opl, as, k, _, hok, hk, j, o, hj, ho => by
    simp only [planOk, Bool.and_eq_true] at hok
    obtain ⟨_, hok⟩ := hok
    split at hok
    · next j' o' l hr =>
      rw [hr] at hj
      simp only [Bool.and_eq_true] at hok
      obtain ⟨⟨⟨⟨e1, e2⟩, e3⟩, e4⟩, e5⟩ := hok
      obtain ⟨hk1, hk2⟩ := hk
      rcases List.mem_cons.1 hj with hj | hj
      · cases hj
        obtain rfl := nat_beq_eq e1
        obtain rfl := sameL_eq e3
        obtain ⟨o2, ho2, h2⟩ := opAtK_out hk1
        rw [ho] at ho2
        cases ho2
        exact ⟨g, p, by simp [Plan.size]; omega, e4, h2⟩
      · have hshape : (∃ i g rc p', rest = .last i g rc p') ∨ (∃ i g rc p' rest', rest = .alt i g rc p' rest') := by
          cases rest with
          | done => simp [planOk] at e5
          | take _ _ _ => simp [planOk] at e5
          | cash _ _ _ => simp [planOk] at e5
          | last _ _ _ _ => exact .inl ⟨_, _, _, _, rfl⟩
          | alt _ _ _ _ _ => exact .inr ⟨_, _, _, _, _, rfl⟩
        obtain ⟨g', p', q1, q2, q3⟩ := chain_out rest m (some l) fr hp nx hshape e5 hk2 j o (by simpa using hj) ho
        exact ⟨g', p', by simp [Plan.size]; omega, q2, q3⟩
    · cases hok

theorem openE_mem {bk m : Nat} : ∀ {os : List Oper} {i0 j : Nat} {o : Oper}, os[j]? = some o → m.testBit (i0 + j) = false → bk.testBit (i0 + j) = false → bindsAll (m ||| bk) o.after.toList = true → (i0 + j, o) ∈ openE bk m os i0
  | [], _, _, _, h, _, _, _ => by simp at h
  | x :: os, i0, j, o, hj, hm, hk, hb => by
    unfold openE
    cases j with
    | zero =>
      simp at hj
      subst hj
      rw [Nat.add_zero] at hm hk
      simp [hm, hk, hb]
    | succ j =>
      have := openE_mem (i0 := i0 + 1) (j := j) (os := os) (by simpa using hj) (by rwa [show i0 + 1 + j = i0 + (j + 1) by omega]) (by rwa [show i0 + 1 + j = i0 + (j + 1) by omega]) hb
      rw [show i0 + 1 + j = i0 + (j + 1) by omega] at this
      split
      · simp [this]
      · exact this
theorem allReady_out {m : Nat} : ∀ {l : List (Nat × Oper)}, allReady m l = true → ∀ p, p ∈ l → bindsAll m p.2.after.toList = true
  | [], _, _, h => by cases h
  | (i, o) :: l, h, p, hp => by
    simp only [allReady, Bool.and_eq_true] at h
    rcases List.mem_cons.1 hp with rfl | hp
    · exact h.1
    · exact allReady_out h.2 p hp
theorem behind_out {as : List Nat} {bk m i : Nat} : ∀ {os : List Oper} {j0 : Nat}, behind as bk m i os j0 = true → ∀ (j : Nat) (o : Oper), os[j]? = some o → m.testBit (j0 + j) = true ∨ bk.testBit (j0 + j) = true ∨ i = j0 + j ∨ (as.getD (j0 + j) 0).testBit i = true
  | [], _, _, _, _, h => by simp at h
  | x :: os, j0, h, j, o, hj => by
    simp only [behind, Bool.and_eq_true, Bool.or_eq_true] at h
    cases j with
    | zero =>
      rw [Nat.add_zero]
      rcases h.1 with ((h1 | h1) | h1) | h1
      · exact .inl h1
      · exact .inr (.inl h1)
      · exact .inr (.inr (.inl (nat_beq_eq h1)))
      · exact .inr (.inr (.inr h1))
    | succ j =>
      have := behind_out h.2 j o (by simpa using hj)
      rwa [show j0 + 1 + j = j0 + (j + 1) by omega] at this
theorem bankOk_out {bk : Nat} : ∀ {os : List Oper} {i0 : Nat}, bankOk bk os i0 = true → ∀ (i : Nat) (o : Oper), os[i]? = some o → bk.testBit (i0 + i) = true → bankOp o = true
  | [], _, _, _, _, h, _ => by simp at h
  | x :: os, i0, h, i, o, hi, hb => by
    simp only [bankOk, Bool.and_eq_true, Bool.or_eq_true, Bool.not_eq_true'] at h
    cases i with
    | zero =>
      simp at hi
      subst hi
      rw [Nat.add_zero] at hb
      rcases h.1 with h1 | h1
      · rw [hb] at h1; cases h1
      · exact h1
    | succ i => exact bankOk_out h.2 i o (by simpa using hi) (by rwa [show i0 + 1 + i = i0 + (i + 1) by omega])
theorem bankTyK_out {bk : Nat} {k : Prop} : ∀ {os : List Oper} {i0 : Nat}, bankTyK E bk os i0 k → k ∧ ∀ (i : Nat) (o : Oper), os[i]? = some o → bk.testBit (i0 + i) = true → ∀ t, o.op = .alloc t → tyK E.ty t fun _ => True
  | [], _, h => ⟨h, fun i o hi => by simp at hi⟩
  | x :: os, i0, h => by
    unfold bankTyK at h
    split at h
    · next hb =>
      obtain ⟨h1, h2⟩ := h
      obtain ⟨hk, h3⟩ := bankTyK_out h2
      refine ⟨hk, fun i o hi hbi t ht => ?_⟩
      cases i with
      | zero =>
        simp at hi
        subst hi
        rw [ht] at h1
        exact h1
      | succ i => exact h3 i o (by simpa using hi) (by rwa [show i0 + 1 + i = i0 + (i + 1) by omega]) t ht
    · next hb =>
      obtain ⟨hk, h3⟩ := bankTyK_out h
      refine ⟨hk, fun i o hi hbi t ht => ?_⟩
      cases i with
      | zero =>
        rw [Nat.add_zero] at hbi
        rw [hb] at hbi; cases hbi
      | succ i => exact h3 i o (by simpa using hi) (by rwa [show i0 + 1 + i = i0 + (i + 1) by omega]) t ht
theorem bankOp_alloc {o : Oper} (h : bankOp o = true) : ∃ t d, o.op = .alloc t ∧ o.guard = none ∧ o.dst = some d ∧ ∀ e ∈ o.after.toList, Region.binds .any e = false := by
  unfold bankOp at h
  split at h
  · next t hop =>
    split at h
    · next hgu =>
      split at h
      · next d hdst => exact ⟨t, d, hop, hgu, hdst, fun e he => by simpa using List.all_eq_true.1 h e he⟩
      · cases h
    · cases h
  · cases h

/-- A block of the bank is told of. -/
theorem cash_in (hE : EnvOk P E) (hok : DrawOk ops.toList (ancs ops.toList [])) {listed : Array Bool} {m : Nat} {fr : List T} {hp : Hp} {nx : Nat} {a : Act} {G : Cx} (h : Inv E w0 F0 G0 ds ops bk listed m fr hp nx a G)
    {i : Nat} {o : Oper} (hi : ops.toList[i]? = some o) (hm : m.testBit i = false) (hl : listed.getD i false = true) (hbo : bankOp o = true) {rest : List T → Hp → Nat → Prop}
    (hden : denOp E o.op fr hp nx fun x hp nx => putK fr o.dst x fun fr => recheckL E ops.toList fr hp nx (rest fr hp nx) (rcList ops.toList m 0 ops.toList 0)) :
    ∃ fr' hp' nx' G', G'.w = G.w ∧ Inv E w0 F0 G0 ds ops bk listed (m ||| 2 ^ i) fr' hp' nx' a G' ∧ rest fr' hp' nx' := by
  have hlt : i < ops.size := by have := (List.getElem?_eq_some_iff.1 hi).1; simpa using this
  obtain ⟨bb, hb1, hb2⟩ := h.bank
  obtain ⟨t, y, d, hop, hty, htk, hdst, hbank⟩ := hb1 i o hi hl hm
  rw [hop] at hden
  obtain ⟨y', _, rfl, h1, _⟩ := tyK_both htk hden
  have h2 := lappK_out h1
  obtain ⟨fr', hk3, hlen, hsame, hat⟩ := putK_out h2
  obtain ⟨hrest, hrck⟩ := recheckK_out (recheckL_out (opl := ops.toList) id (fun j o hj => by rwa [Nat.zero_add]) hk3)
  have hdlt : d < a.tmps.size := by
    have := (List.getElem?_eq_some_iff.1 (hat d hdst)).1
    rw [← h.len, ← hlen]; exact this
  have hslot := hbank.slot hdlt
  have hmne : ∀ j, j ≠ i → (m ||| 2 ^ i).testBit j = m.testBit j := fun j hji => by rw [testBit_set]; simp [Ne.symm hji]
  have hmi : (m ||| 2 ^ i).testBit i = true := by rw [testBit_set]; simp
  let G' : Cx := ⟨fun r => if r = nx then some ⟨bb i, false, 0, 0⟩ else G.rho r, G.im, G.w⟩
  have hx : Ext G G' := ⟨fun r b hr => by
    have : r ≠ nx := by rintro rfl; rw [h.mdl.fresh r (Nat.le_refl _)] at hr; cases hr
    simp only [G']; rw [if_neg this]; exact hr, fun _ h => h, fun _ _ => rfl, Nat.le_refl _⟩
  have hrnx : G'.rho nx = some ⟨bb i, false, 0, 0⟩ := by simp [G']
  have hrne : ∀ r, r ≠ nx → G'.rho r = G.rho r := fun r hr => by simp only [G']; rw [if_neg hr]
  have hne : ∀ r c, (r, c) ∈ hp → r ≠ nx := fun r c hrc => by
    rintro rfl
    obtain ⟨b, hb, _⟩ := h.mdl.chunk r c hrc
    rw [h.mdl.fresh r (Nat.le_refl _)] at hb; cases hb
  have hck : chunkOk G' (.own y'.zero.toT) ⟨bb i, false, 0, 0⟩ := by
    obtain ⟨f1, cs, ty, f2, f3⟩ := hbank.ok
    exact ⟨f1, cs, ty, f2, hx.tCells f3⟩
  have hmd : Mdl w0 F0 G' (hp ++ [(nx, .own y'.zero.toT)]) (nx + 1) := by
    refine ⟨h.mdl.os, h.mdl.tape, h.mdl.output, h.mdl.size, h.mdl.keep, h.mdl.imLt, fun r hr => ?_, fun r c hrc => ?_, ?_, ?_, fun r c b hrc hw hr hn => ?_, h.mdl.imNew⟩
    · rw [hrne r (by omega)]; exact h.mdl.fresh r (by omega)
    · rcases List.mem_append.1 hrc with hrc | hrc
      · obtain ⟨b, hb, hc⟩ := h.mdl.chunk r c hrc
        exact ⟨b, by rw [hrne r (hne r c hrc)]; exact hb, hx.chunkOk hc fun _ _ => rfl⟩
      · simp at hrc
        obtain ⟨rfl, rfl⟩ := hrc
        exact ⟨_, hrnx, hck⟩
    · rw [List.map_append, List.nodup_append]
      refine ⟨h.mdl.ids, by simp, fun r hr s hs => ?_⟩
      obtain ⟨p, hp1, rfl⟩ := List.mem_map.1 hr
      simp at hs
      subst hs
      exact hne p.1 p.2 hp1
    · intro r c s e b b' hrc hse hrs hw hw' hr hs hn hn'
      rcases List.mem_append.1 hrc with k1 | k1 <;> rcases List.mem_append.1 hse with k2 | k2
      · rw [hrne r (hne r c k1)] at hr
        rw [hrne s (hne s e k2)] at hs
        exact h.mdl.apart r c s e b b' k1 k2 hrs hw hw' hr hs hn hn'
      · have e1 : s = nx := by simp at k2; exact k2.1
        rw [e1, hrnx] at hs
        cases hs
        rw [hrne r (hne r c k1)] at hr
        exact hbank.apart r c b k1 hw hr hn
      · have e1 : r = nx := by simp at k1; exact k1.1
        rw [e1, hrnx] at hr
        cases hr
        rw [hrne s (hne s e k2)] at hs
        exact (hbank.apart s e b' k2 hw' hs hn').symm
      · have e1 : r = nx := by simp at k1; exact k1.1
        have e2 : s = nx := by simp at k2; exact k2.1
        exact (hrs (e1.trans e2.symm)).elim
    · rcases List.mem_append.1 hrc with hrc | hrc
      · rw [hrne r (hne r c hrc)] at hr
        exact h.mdl.mine r c b hrc hw hr hn
      · simp at hrc
        obtain ⟨rfl, rfl⟩ := hrc
        rw [hrnx] at hr
        cases hr
        exact ⟨.inl hbank.new, hbank.lt, hbank.notIm⟩
  have hpend : ∀ j o', ops.toList[j]? = some o' → m.testBit j = true → listed.getD j false = false → (∀ t, t ∈ looks ops.toList o' → fr'[t]? = fr[t]?) ∧ (∀ d, o'.dst = some d → fr'[d]? = fr[d]?) := fun j o' hj hmj hlj => by
    have hji : j ≠ i := by rintro rfl; rw [hm] at hmj; cases hmj
    refine ⟨fun t ht => hsame t fun hdt => ?_, fun d' hd' => hsame d' fun hd2 => ?_⟩
    · rcases hok.look j i o' o t hj hi hji hdt ht with h1 | ⟨_, h1⟩
      · have := anc_in h.lowM hj h1 hmj
        rw [hm] at this
        cases this
      · have := anc_in h.low hi h1 hl
        rw [hlj] at this
        cases this
    · have := (hok.dst j i o' o d' hj hi hji hd2 hd').1.1
      rw [h.val j o' hj hmj hlj] at this
      cases this
  refine ⟨fr', _, _, G', rfl, ⟨hmd, h.ext.trans hx, h.defs, h.size, fun j hj => (h.sub j hj).imp (fun h1 => ?_) id, fun j hj => ?_, h.low, ?_, fun j o' hj hmj hlj => ?_, hlen.trans h.len, fun t x ht hD => ?_, fun j o' hj hmj hlj => ?_, ?_⟩, hrest⟩
  · by_cases hji : j = i
    · subst hji; exact hmi
    · rw [hmne j hji]; exact h1
  · by_cases hji : j = i
    · subst hji; exact hlt
    · rw [hmne j hji] at hj; exact h.lt j hj
  · intro j o' hj hmj e he hb
    by_cases hji : j = i
    · subst hji
      rw [hi] at hj; cases hj
      obtain ⟨_, _, _, _, _, hno⟩ := bankOp_alloc hbo
      rw [hno e he] at hb; cases hb
    · rw [hmne j hji] at hmj
      have := h.lowM j o' hj hmj e he hb
      by_cases hei : e.on = i
      · rw [hei]; exact hmi
      · rw [hmne _ hei]; exact this
  · have hji : j ≠ i := by rintro rfl; rw [hl] at hlj; cases hlj
    rw [hmne j hji] at hmj
    exact h.val j o' hj hmj hlj
  · by_cases hdt : d = t
    · subst hdt
      rw [hat d hdst] at ht
      cases ht
      exact ⟨_, hslot, _, hrnx, rfl, rfl⟩
    · rw [hsame t (by rw [hdst]; simpa using hdt)] at ht
      obtain ⟨v', hv', hvt⟩ := h.frame t x ht fun j o' hj hne => by
        by_cases hji : j = i
        · subst hji; rw [hi] at hj; cases hj; rw [hdst]; simpa using hdt
        · exact hD j o' hj (by rwa [hmne j hji])
      exact ⟨v', hv', hx.tVal hvt⟩
  · have hji : j ≠ i := by rintro rfl; rw [hl] at hlj; cases hlj
    rw [hmne j hji] at hmj
    obtain ⟨s1, s2⟩ := hpend j o' hj hmj hlj
    have hvj := h.val j o' hj hmj hlj
    have hst := stab_move (i := j) hok (h.stab j o' hj hmj hlj) s1 s2
    cases hr : readsHp o'.op with
    | false => exact gateK_congr hst (fun _ _ => rfl) (fun ⟨hn, x, hvx, hx'⟩ => ⟨hn, x, valK_hp hvj hr hn hvx, hx'⟩) fun hn => hn
    | true =>
      obtain ⟨d', hd', hg⟩ := hrck j o' hj (by rwa [Nat.zero_add]) (by simp) hvj hr
      refine gateK_and hst hg (fun ⟨hn, x, _, hx'⟩ hd2 => ⟨hn, x, ?_, hx'⟩) fun hn _ => hn
      have hd3 : valK E o'.op fr' (hp ++ [(nx, .own y'.zero.toT)]) (fun y => lgetK fr' d' fun x => sameK y x) := by
        have := val_same (E := E) (fr := fr') (hp := hp ++ [(nx, .own y'.zero.toT)]) (nx := nx + 1) (k := fun y _ _ => lgetK fr' d' fun x => sameK y x) hvj
        rw [this] at hd2
        exact hd2
      refine valK_mono hvj hn hd3 fun y hy => ?_
      obtain ⟨z, hz, hs⟩ := lgetK_out hy
      rw [hx' d' hd'] at hz
      cases hz
      exact sameK_out hs
  · have hno : ∀ j, listed.getD j false = true → (m ||| 2 ^ i).testBit j = false → j ≠ i ∧ m.testBit j = false := fun j hlj hmj => by
      have hji : j ≠ i := by rintro rfl; rw [hmi] at hmj; cases hmj
      rw [hmne j hji] at hmj
      exact ⟨hji, hmj⟩
    refine ⟨bb, fun j o' hj hlj hmj => ?_, fun j k oj ok hj hk hlj hmj hlk hmk => hb2 j k oj ok hj hk hlj (hno j hlj hmj).2 hlk (hno k hlk hmk).2⟩
    obtain ⟨hji, hmj'⟩ := hno j hlj hmj
    obtain ⟨t2, y2, d2, e1, e2, e3, e4, f1, ⟨f2, cs, ty, f3, f4⟩, f5, f6, f7, f8⟩ := hb1 j o' hj hlj hmj'
    refine ⟨t2, y2, d2, e1, e2, e3, e4, f1, ⟨f2, cs, ty, f3, hx.tCells f4⟩, f5, f6, f7, fun r c b hrc hw hr hn => ?_⟩
    rcases List.mem_append.1 hrc with hrc | hrc
    · rw [hrne r (hne r c hrc)] at hr
      exact f8 r c b hrc hw hr hn
    · simp at hrc
      obtain ⟨rfl, rfl⟩ := hrc
      rw [hrnx] at hr
      cases hr
      exact hb2 i j o o' hi hj hl hm hlj hmj' (Ne.symm hji)

theorem any_ok (hE : EnvOk P E) (hok : DrawOk ops.toList (ancs ops.toList [])) (hbk : ∀ i o, ops.toList[i]? = some o → bk.testBit i = true → bankOp o = true) (hbt : ∀ i o, ops.toList[i]? = some o → bk.testBit i = true → ∀ t, o.op = .alloc t → tyK E.ty t fun _ => True) {Q : Exit → Act → World → Prop} {k : List T → Hp → Nat → Prop}
    (hQ : ∀ a G fr hp nx, Mdl w0 F0 G hp nx → Ext G0 G → frOk G fr a.tmps → a.defers = ds → k fr hp nx → Q .normal a G.w) :
    ∀ (n : Nat) (p : Plan), p.size ≤ n → ∀ (m : Nat) (fr : List T) (hp : Hp) (nx : Nat), planOk ops.toList (ancs ops.toList []) bk p m none = true → planK E ops.toList k p fr hp nx →
      ∀ (fuel : Nat) (listed : Array Bool) (a : Act) (G : Cx), Inv E w0 F0 G0 ds ops bk listed m fr hp nx a G → unl ops listed ≤ fuel → wpAny P .any ops Q fuel listed a G.w := by
  intro n
  induction n with
  | zero => intro p hp; cases p <;> simp [Plan.size] at hp
  | succ n ih =>
    intro p hpn m fr hp nx hpl hany
    have inner : ∀ (ci : Option Nat),
        (∀ i, ci = some i → ∀ fuel listed a G, Inv E w0 F0 G0 ds ops bk listed m fr hp nx a G → listed.getD i false = true → unl ops listed ≤ fuel → wpAny P .any ops Q fuel listed a G.w) →
        (∀ listed a G, Inv E w0 F0 G0 ds ops bk listed m fr hp nx a G → (∀ i, ci = some i → listed.getD i false = false) → (∀ i, i < ops.size → listed.getD i false = true) → Q .normal a G.w) →
        (∀ listed a G fuel i o, Inv E w0 F0 G0 ds ops bk listed m fr hp nx a G → (∀ i, ci = some i → listed.getD i false = false) → ops.toList[i]? = some o → m.testBit i = false → bk.testBit i = false → listed.getD i false = false → (∀ e ∈ o.after.toList, Region.binds .any e = true → listed.getD e.on false = true) → unl ops (listed.setIfInBounds i true) ≤ fuel →
          wpOp P ops Q i (fun a' w' => wpAny P .any ops Q fuel (listed.setIfInBounds i true) a' w') a G.w) →
        ∀ fuel listed a G, Inv E w0 F0 G0 ds ops bk listed m fr hp nx a G → unl ops listed ≤ fuel → wpAny P .any ops Q fuel listed a G.w := by
      intro ci hc hend hstep fuel
      clear hany hpl
      induction fuel with
      | zero =>
        intro listed a G hinv hfuel
        by_cases hci : ∃ i, ci = some i ∧ listed.getD i false = true
        · obtain ⟨i, h1, h2⟩ := hci
          exact hc i h1 0 listed a G hinv h2 hfuel
        have hci' : ∀ i, ci = some i → listed.getD i false = false := fun i h1 => by
          cases hl : listed.getD i false with
          | false => rfl
          | true => exact (hci ⟨i, h1, hl⟩).elim
        have hr : Region.ready .any ops listed = [] := by
          cases hre : Region.ready .any ops listed with
          | nil => rfl
          | cons i l =>
            obtain ⟨o, h1, h2, _⟩ := ready_in (ops := ops) (listed := listed) (i := i) (by rw [hre]; simp)
            have hlt : i < ops.size := by have := (List.getElem?_eq_some_iff.1 h1).1; simpa using this
            have hmem : i ∈ (List.range ops.size).filter fun i => !listed.getD i true := by simp [hlt]; simpa using h2
            have h0 : unl ops listed = 0 := by omega
            rw [unl, List.length_eq_zero_iff] at h0
            rw [h0] at hmem
            cases hmem
        exact ⟨hr, hend listed a G hinv hci' (any_end hok hbk hinv hr)⟩
      | succ fuel ihf =>
        intro listed a G hinv hfuel
        by_cases hci : ∃ i, ci = some i ∧ listed.getD i false = true
        · obtain ⟨i, h1, h2⟩ := hci
          exact hc i h1 _ listed a G hinv h2 hfuel
        have hci' : ∀ i, ci = some i → listed.getD i false = false := fun i h1 => by
          cases hl : listed.getD i false with
          | false => rfl
          | true => exact (hci ⟨i, h1, hl⟩).elim
        refine ⟨fun hr => hend listed a G hinv hci' (any_end hok hbk hinv hr), fun i hir => ?_⟩
        obtain ⟨o, hi, hl, hd⟩ := ready_in hir
        have hlt : i < ops.size := by have := (List.getElem?_eq_some_iff.1 hi).1; simpa using this
        have hlf : listed.getD i false = false := by rw [← getD_both hinv.size hlt]; exact hl
        have hun := unl_set hlt hinv.size hl
        cases hm : m.testBit i with
        | true => exact step_ahead hE hok hinv hi hm hlf hd fun a' G' hinv' => ihf _ a' G' hinv' (by omega)
        | false =>
          cases hb : bk.testBit i with
          | true => exact step_bank hE hok hinv hi hm hlf hb (hbk i o hi hb) (hbt i o hi hb) fun a' G' hinv' => ihf _ a' G' hinv' (by omega)
          | false => exact hstep listed a G fuel i o hinv hci' hi hm hb hlf hd (by omega)
    -- an operation whose turn it is
    have turn : nextV m ops.toList 0 = none → allReady m (openE bk m ops.toList 0) = true → openE bk m ops.toList 0 ≠ [] →
        (∀ j o, (j, o) ∈ openE bk m ops.toList 0 → ops.toList[j]? = some o → ∃ g p', p'.size ≤ n ∧ planOk ops.toList (ancs ops.toList []) bk p' (m ||| 2 ^ j) none = true ∧ gateK ops.toList fr o.guard
          (denOp E o.op fr hp nx fun x hp nx => normK g x fun x => putK fr o.dst x fun fr => recheckL E ops.toList fr hp nx (planK E ops.toList k p' fr hp nx) (rcList ops.toList m ((ancs ops.toList []).getD j 0) ops.toList 0))
          (putK fr o.dst (.tup .nil) fun fr => recheckL E ops.toList fr hp nx (planK E ops.toList k p' fr hp nx) (rcList ops.toList m ((ancs ops.toList []).getD j 0) ops.toList 0))) →
        ∀ fuel listed a G, Inv E w0 F0 G0 ds ops bk listed m fr hp nx a G → unl ops listed ≤ fuel → wpAny P .any ops Q fuel listed a G.w := by
      intro hnext hready hne hall
      refine inner none (fun i h => by cases h) (fun listed a G hinv _ hl => ?_) fun listed a G fuel i o hinv _ hi hm hb hlf hd hun => ?_
      · -- all is done, but one was open
        obtain ⟨p, hp⟩ := List.exists_mem_of_ne_nil _ hne
        have key : ∀ (os : List Oper) (i0 : Nat), (∀ j o, os[j]? = some o → ops.toList[i0 + j]? = some o) → p ∈ openE bk m os i0 → ∃ j o, ops.toList[j]? = some o ∧ m.testBit j = false ∧ bk.testBit j = false := by
          intro os
          induction os with
          | nil => intro i0 _ h; cases h
          | cons x os ih2 =>
            intro i0 hsub h
            unfold openE at h
            split at h
            · next hb =>
              simp only [Bool.and_eq_true, Bool.not_eq_true'] at hb
              rcases List.mem_cons.1 h with rfl | h
              · exact ⟨i0, x, by simpa using hsub 0 x rfl, hb.1.1, hb.1.2⟩
              · exact ih2 (i0 + 1) (fun j o hj => by rw [show i0 + 1 + j = i0 + (j + 1) by omega]; exact hsub (j + 1) o (by simpa using hj)) h
            · exact ih2 (i0 + 1) (fun j o hj => by rw [show i0 + 1 + j = i0 + (j + 1) by omega]; exact hsub (j + 1) o (by simpa using hj)) h
        obtain ⟨j, o, hj, hm, hb⟩ := key ops.toList 0 (fun j o hj => by rwa [Nat.zero_add]) hp
        have := hl j (by have := (List.getElem?_eq_some_iff.1 hj).1; simpa using this)
        rcases hinv.sub j this with h1 | h1
        · rw [hm] at h1; cases h1
        · rw [hb] at h1; cases h1
      · have hbm : bindsAll (m ||| bk) o.after.toList = true := bindsAll_iff.2 fun e he hbe => by
          rw [Nat.testBit_or]
          rcases hinv.sub _ (hd e he hbe) with h1 | h1 <;> simp [h1]
        have hmem := openE_mem (i0 := 0) hi (by rwa [Nat.zero_add]) (by rwa [Nat.zero_add]) hbm
        rw [Nat.zero_add] at hmem
        have hb2 := allReady_out hready _ hmem
        have hv : valueOp o.op = false := nextV_none hnext i o hi (by rwa [Nat.zero_add]) hb2
        obtain ⟨g, p', q1, q2, q3⟩ := hall i o hmem hi
        exact step_both hE hok hinv hi hm hv hlf hd (bindsAll_iff.1 hb2) (rest := planK E ops.toList k p') (b := g) q3 fun a' G' fr' hp' nx' hinv' hrest => ih p' q1 _ _ _ _ q2 hrest fuel _ a' G' hinv' hun
    cases p with
    | done =>
      simp only [planOk, Bool.and_eq_true] at hpl
      obtain ⟨h1, h2⟩ := hpl
      have hre : readyE m ops.toList 0 = [] := by
        cases hr : readyE m ops.toList 0 with
        | nil => rfl
        | cons _ _ => rw [hr] at h2; cases h2
      have hbm : ∀ i o, ops.toList[i]? = some o → bk.testBit i = true → m.testBit i = true := fun i o hi hb => by
        cases hm : m.testBit i with
        | true => rfl
        | false =>
          obtain ⟨_, _, _, _, _, hno⟩ := bankOp_alloc (hbk i o hi hb)
          have := readyE_mem (m := m) (i0 := 0) hi (by rwa [Nat.zero_add]) (bindsAll_iff.2 fun e he hbe => by rw [hno e he] at hbe; cases hbe)
          rw [hre] at this
          cases this
      have hsub : ∀ {listed a G}, Inv E w0 F0 G0 ds ops bk listed m fr hp nx a G → ∀ i o, ops.toList[i]? = some o → listed.getD i false = true → m.testBit i = true := fun hinv i o hi hl => by
        rcases hinv.sub i hl with h | h
        · exact h
        · exact hbm i o hi h
      refine inner none (fun i h => by cases h) (fun listed a G hinv _ hl => ?_) fun listed a G fuel i o hinv _ hi hm hb hlf hd hun => ?_
      · refine hQ a G fr hp nx hinv.mdl hinv.ext ⟨hinv.len, fun t x ht => hinv.frame t x ht fun i o hi hne => ?_⟩ hinv.defs hany
        have h1 := hl i (by have := (List.getElem?_eq_some_iff.1 hi).1; simpa using this)
        rw [h1, hsub hinv i o hi h1] at hne
        exact (hne rfl).elim
      · have := readyE_mem (m := m) (i0 := 0) hi (by rwa [Nat.zero_add]) (bindsAll_iff.2 fun e he hbe => by
          have h3 := hd e he hbe
          have h4 : e.on < ops.size := by
            have := hok.edge i o hi e he hbe
            have := (List.getElem?_eq_some_iff.1 hi).1
            simp at this
            omega
          exact hsub hinv e.on _ (List.getElem?_eq_getElem (by simpa using h4)) h3)
        rw [hre] at this
        cases this
    | take i g p =>
      intro fuel listed a G hinv hfuel
      simp only [planOk] at hpl
      split at hpl
      · next j o hnext =>
        simp only [Bool.and_eq_true] at hpl
        obtain ⟨⟨e1, e2⟩, e3⟩ := hpl
        obtain rfl := nat_beq_eq e1
        obtain ⟨j, e1, hi, hm, hv, hb⟩ := nextV_out hnext
        rw [Nat.zero_add] at e1
        subst e1
        obtain ⟨o2, ho2, hany⟩ := opAtK_out hany
        rw [hi] at ho2
        cases ho2
        have hps : p.size ≤ n := by simp [Plan.size] at hpn; omega
        have hbe := bindsAll_iff.1 hb
        have hself : ∀ t, t ∈ looks ops.toList o → ∀ fr' : List T, (∀ t, o.dst ≠ some t → fr'[t]? = fr[t]?) → fr'[t]? = fr[t]? := fun t ht fr' hs => hs t fun hd => hok.self i o t hi hd ht
        rcases gateK_out hany with ⟨g1, g2⟩ | ⟨j, want, d, b, g1, g2, g3, g4⟩
        · obtain ⟨hn, hden⟩ := noNilK_out g2
          rw [val_same hv] at hden
          obtain ⟨x, hx, hxk⟩ := valK_det hv hn _ hden
          obtain ⟨x', hx', href⟩ := normK_out hx
          obtain ⟨fr', hk3, hlen, hsame, hat⟩ := putK_out hx'
          refine ih p hps _ _ _ _ e3 hk3 fuel listed a G (take_ahead hok hinv hbk hi hm hv hbe hlen hsame (gateK_mk (.inl ⟨g1, noNilP_congr hn (looks_agree fun t ht => hself t ht fr' hsame), x', ?_, hat⟩))) hfuel
          exact valK_congr (hxk _ href) (looks_agree fun t ht => hself t ht fr' hsame)
        · have g3' : ∀ fr' : List T, (∀ t, o.dst ≠ some t → fr'[t]? = fr[t]?) → fr'[d]? = some (gvT b) := fun fr' hs => (hself d (mem_looks.2 (.inr ⟨j, want, g1, g2⟩)) fr' hs).trans g3
          by_cases hbw : b = some want
          · rw [if_pos hbw] at g4
            obtain ⟨hn, hden⟩ := noNilK_out g4
            rw [val_same hv] at hden
            obtain ⟨x, hx, hxk⟩ := valK_det hv hn _ hden
            obtain ⟨x', hx', href⟩ := normK_out hx
            obtain ⟨fr', hk3, hlen, hsame, hat⟩ := putK_out hx'
            refine ih p hps _ _ _ _ e3 hk3 fuel listed a G (take_ahead hok hinv hbk hi hm hv hbe hlen hsame (gateK_mk (.inr ⟨j, want, d, b, g1, g2, g3' fr' hsame, ?_⟩))) hfuel
            rw [if_pos hbw]
            exact ⟨noNilP_congr hn (looks_agree fun t ht => hself t ht fr' hsame), x', valK_congr (hxk _ href) (looks_agree fun t ht => hself t ht fr' hsame), hat⟩
          · rw [if_neg hbw] at g4
            obtain ⟨fr', hk3, hlen, hsame, hat⟩ := putK_out g4
            refine ih p hps _ _ _ _ e3 hk3 fuel listed a G (take_ahead hok hinv hbk hi hm hv hbe hlen hsame (gateK_mk (.inr ⟨j, want, d, b, g1, g2, g3' fr' hsame, ?_⟩))) hfuel
            rw [if_neg hbw]
            exact hat
      · cases hpl
    | last i g rc p =>
      have hnx : nextV m ops.toList 0 = none ∧ allReady m (openE bk m ops.toList 0) = true := by
        simp only [planOk, Bool.and_eq_true] at hpl
        cases hn : nextV m ops.toList 0 <;> simp [hn] at hpl ⊢
        exact hpl.1
      refine turn hnx.1 hnx.2 (fun he => ?_) fun j o hj ho => ?_
      · simp only [planOk, Bool.and_eq_true, Option.getD_none, he] at hpl
        cases hpl.2
      · obtain ⟨g', p', q1, q2, q3⟩ := chain_out _ m none fr hp nx (.inl ⟨_, _, _, _, rfl⟩) hpl hany j o hj ho
        exact ⟨g', p', by omega, q2, q3⟩
    | alt i g rc p rest =>
      have hnx : nextV m ops.toList 0 = none ∧ allReady m (openE bk m ops.toList 0) = true := by
        simp only [planOk, Bool.and_eq_true] at hpl
        cases hn : nextV m ops.toList 0 <;> simp [hn] at hpl ⊢
        exact hpl.1
      refine turn hnx.1 hnx.2 (fun he => ?_) fun j o hj ho => ?_
      · simp only [planOk, Bool.and_eq_true, Option.getD_none, he] at hpl
        cases hpl.2
      · obtain ⟨g', p', q1, q2, q3⟩ := chain_out _ m none fr hp nx (.inr ⟨_, _, _, _, _, rfl⟩) hpl hany j o hj ho
        exact ⟨g', p', by omega, q2, q3⟩
    | cash i rc p =>
      simp only [planOk, Bool.and_eq_true, Bool.not_eq_true'] at hpl
      obtain ⟨⟨⟨⟨⟨hbi, hmi⟩, hnx⟩, hbeh⟩, hrc⟩, hpl⟩ := hpl
      obtain rfl := sameL_eq hrc
      obtain ⟨o, hio, hany⟩ := opAtK_out hany
      have hps : p.size ≤ n := by simp [Plan.size] at hpn; omega
      have hbo := hbk i o hio hbi
      have hlt : i < ops.size := by have := (List.getElem?_eq_some_iff.1 hio).1; simpa using this
      refine inner (some i) (fun j hj fuel listed a G hinv hl hfuel => ?_) (fun listed a G hinv hci hl => ?_) fun listed a G fuel j o' hinv hci hj hm hb hlf hd hun => ?_
      · cases hj
        obtain ⟨fr', hp', nx', G', hw, hinv', hrest⟩ := cash_in hE hok hinv hio hmi hl hbo (rest := planK E ops.toList k p) hany
        rw [← hw]
        exact ih p hps _ _ _ _ hpl hrest fuel listed a G' hinv' hfuel
      · have := hl i hlt
        rw [hci i rfl] at this
        cases this
      · have h1 := behind_out hbeh j o' hj
        rw [Nat.zero_add] at h1
        rcases h1 with h1 | h1 | h1 | h1
        · rw [hm] at h1; cases h1
        · rw [hb] at h1; cases h1
        · subst h1; rw [hbi] at hb; cases hb
        · have := anc_ready hinv.low hj h1 hd
          rw [hci i rfl] at this
          cases this

/-- A region whose order is drawn. -/
theorem draw_ok (hE : EnvOk P E) (hmix : P.follows .mixedOrders = true) {id : Nat} {Q : Exit → Act → World → Prop} {k : List T → Hp → Nat → Prop} {G : Cx} {a : Act} {fr : List T} {hp : Hp} {nx : Nat} {p : Plan}
    (hm : Mdl w0 F0 G hp nx) (hf : frOk G fr a.tmps) (hr : regOk ops.toList p = true) (h : regionK E ops.toList k p fr hp nx)
    (hQ : ∀ a' G' fr hp nx, Mdl w0 F0 G' hp nx → Ext G G' → frOk G' fr a'.tmps → a'.defers = a.defers → k fr hp nx → Q .normal a' G'.w) : (Code.region id ops true).wp P Q a G.w := by
  simp only [regOk, Bool.and_eq_true] at hr
  obtain ⟨⟨hr1, hr2⟩, hr3⟩ := hr
  have hbk : ∀ i o, ops.toList[i]? = some o → (cashes p).testBit i = true → bankOp o = true := fun i o hi hb => bankOk_out hr2 i o hi (by rwa [Nat.zero_add])
  have h2 : planK E ops.toList k p fr hp nx ∧ ∀ i o, ops.toList[i]? = some o → (cashes p).testBit i = true → ∀ t, o.op = .alloc t → tyK E.ty t fun _ => True := by
    unfold regionK at h
    split at h
    · next h0 => exact ⟨h, fun i o _ hb => by rw [nat_beq_eq h0] at hb; simp at hb⟩
    · obtain ⟨h1, h3⟩ := bankTyK_out h
      exact ⟨h1, fun i o hi hb => h3 i o hi (by rwa [Nat.zero_add])⟩
  refine wp_region_any hmix ?_
  obtain ⟨hx, hmd⟩ := hm.drew
  have hget : ∀ i, (Array.replicate ops.size false).getD i false = false := fun i => by simp [Array.getD]
  refine any_ok hE (drawOk_out hr1) hbk h2.2 (G0 := G) (ds := a.defers) hQ _ p (Nat.le_refl _) _ _ _ _ hr3 h2.1 ops.size _ a ⟨G.rho, G.im, G.w.drew⟩ ⟨hmd, hx, rfl, by simp, fun i hi => ?_, fun i hi => ?_, ?_, ?_, fun i o _ hi => ?_, hf.1, fun t x ht _ => (hf.ext hx).2 t x ht, fun i o _ hi => ?_, ⟨fun _ => 0, fun i o _ hi => ?_, fun i j _ _ _ _ hi => ?_⟩⟩ ?_
  · rw [hget] at hi; cases hi
  · simp at hi
  · intro j o _ hj; rw [hget] at hj; cases hj
  · intro j o _ hj; simp at hj
  · simp at hi
  · simp at hi
  · rw [hget] at hi; cases hi
  · rw [hget] at hi; cases hi
  · unfold unl
    refine Nat.le_trans (List.length_filter_le _ _) (by simp)

end
end Go.J

set_option linter.unusedSimpArgs false
set_option linter.unusedVariables false
set_option linter.unusedSectionVars false

namespace Go.J

/-- How a value is told: el: by its content; lend: a slice that is looked at; rp: a pointer whose content is looked at; own: a row of its own; ref: a pointer to a block of ours. -/
inductive Sh where
  | el (e : El) | lend (e : El) | rp (e : El) | own (q : Nat) | ref (q : Nat) | any | nil | cons (s ss : Sh)

inductive CSh where
  | row (ty : TypeId) (e : El) | own (s : Sh)

@[reducible] def Sh.add : Sh → Type → Type
  | .el e, R => e.ty × R
  | .lend e, R => List e.ty × R
  | .rp e, R => e.ty × R
  | .cons s ss, R => s.add (ss.add R)
  | _, R => R
@[reducible] def Sh.adds : List Sh → Type → Type
  | [], R => R
  | s :: ss, R => s.add (Sh.adds ss R)
@[reducible] def CSh.add : CSh → Type → Type
  | .row _ e, R => List e.ty × R
  | .own s, R => s.add R
@[reducible] def CSh.adds : List (Nat × CSh) → Type → Type
  | [], R => R
  | (_, c) :: cs, R => c.add (CSh.adds cs R)

/-- A state's ghosts. -/
@[reducible] def Gh (cs : List (Nat × CSh)) (ss : List Sh) : Type := CSh.adds cs (Sh.adds ss Unit)

/-- What is left for us to show. -/
structure Is (p : Prop) : Prop where
  out : p

/-! All ghosts, one by one. -/
def El.allK : (e : El) → (e.ty → Prop) → Prop
  | .u8, k => ∀ x : UInt8, k x
  | .int _, k => ∀ x : Int, k x
  | .bool, k => ∀ x : Bool, k x
  | .str, k => ∀ x : List UInt8, k x
  | .rd .u8, k => ∀ x : List UInt8, k x
  | .rd (.int _), k => ∀ x : List Int, k x
  | .rd e, k => ∀ x : List e.ty, k x
  | .nil, k => k ()
  | .cons e es, k => e.allK fun x => es.allK fun y => k (x, y)
  | .ar _ .u8, k => ∀ x : List UInt8, k x
  | .ar _ (.int _), k => ∀ x : List Int, k x
  | .ar _ e, k => ∀ x : List e.ty, k x
def rowAllK : (e : El) → (List e.ty → Prop) → Prop
  | .u8, k => ∀ x : List UInt8, k x
  | .int _, k => ∀ x : List Int, k x
  | e, k => ∀ x : List e.ty, k x
def Sh.allK : (s : Sh) → {R : Type} → ((R → Prop) → Prop) → (s.add R → Prop) → Prop
  | .el e, _, q, k => e.allK fun x => q fun r => k (x, r)
  | .lend e, _, q, k => rowAllK e fun x => q fun r => k (x, r)
  | .rp e, _, q, k => e.allK fun x => q fun r => k (x, r)
  | .own _, _, q, k => q k
  | .ref _, _, q, k => q k
  | .any, _, q, k => q k
  | .nil, _, q, k => q k
  | .cons s ss, _, q, k => s.allK (fun k => ss.allK q k) k
def Sh.allsK : (ss : List Sh) → {R : Type} → ((R → Prop) → Prop) → (Sh.adds ss R → Prop) → Prop
  | [], _, q, k => q k
  | s :: ss, _, q, k => s.allK (fun k => Sh.allsK ss q k) k
def CSh.allK : (c : CSh) → {R : Type} → ((R → Prop) → Prop) → (c.add R → Prop) → Prop
  | .row _ e, _, q, k => rowAllK e fun x => q fun r => k (x, r)
  | .own s, _, q, k => s.allK q k
def CSh.allsK : (cs : List (Nat × CSh)) → {R : Type} → ((R → Prop) → Prop) → (CSh.adds cs R → Prop) → Prop
  | [], _, q, k => q k
  | (_, c) :: cs, _, q, k => c.allK (fun k => CSh.allsK cs q k) k
def ghAll (cs : List (Nat × CSh)) (ss : List Sh) (k : Gh cs ss → Prop) : Prop := CSh.allsK cs (fun k => Sh.allsK ss (fun k => k ()) k) k

theorem El.allK_out : ∀ (e : El) {k : e.ty → Prop}, e.allK k → ∀ x, k x
  | .u8, _, h, x => h x
  | .int _, _, h, x => h x
  | .bool, _, h, x => h x
  | .str, _, h, x => h x
  | .rd e, _, h, x => by cases e <;> exact h x
  | .nil, _, h, _ => h
  | .cons e es, _, h, x => El.allK_out es (El.allK_out e h x.1) x.2
  | .ar _ e, _, h, x => by cases e <;> exact h x
theorem rowAllK_out {e : El} {k : List e.ty → Prop} (h : rowAllK e k) : ∀ x, k x := by cases e <;> exact h
theorem Sh.allK_out : ∀ (s : Sh) {R : Type} {q : (R → Prop) → Prop} (_ : ∀ k, q k → ∀ r, k r) {k : s.add R → Prop}, s.allK q k → ∀ x, k x
  | .el e, _, _, hq, _, h, x => hq _ (El.allK_out e h x.1) x.2
  | .lend e, _, _, hq, _, h, x => hq _ (rowAllK_out h x.1) x.2
  | .rp e, _, _, hq, _, h, x => hq _ (El.allK_out e h x.1) x.2
  | .own _, _, _, hq, _, h, x => hq _ h x
  | .ref _, _, _, hq, _, h, x => hq _ h x
  | .any, _, _, hq, _, h, x => hq _ h x
  | .nil, _, _, hq, _, h, x => hq _ h x
  | .cons s ss, _, _, hq, _, h, x => Sh.allK_out s (fun _ h r => Sh.allK_out ss hq h r) h x
theorem Sh.allsK_out : ∀ (ss : List Sh) {R : Type} {q : (R → Prop) → Prop} (_ : ∀ k, q k → ∀ r, k r) {k : Sh.adds ss R → Prop}, Sh.allsK ss q k → ∀ x, k x
  | [], _, _, hq, _, h, x => hq _ h x
  | s :: ss, _, _, hq, _, h, x => Sh.allK_out s (fun _ h r => Sh.allsK_out ss hq h r) h x
theorem CSh.allsK_out : ∀ (cs : List (Nat × CSh)) {R : Type} {q : (R → Prop) → Prop} (_ : ∀ k, q k → ∀ r, k r) {k : CSh.adds cs R → Prop}, CSh.allsK cs q k → ∀ x, k x
  | [], _, _, hq, _, h, x => hq _ h x
  | (_, .row _ _) :: cs, _, _, hq, _, h, x => CSh.allsK_out cs hq (rowAllK_out h x.1) x.2
  | (_, .own s) :: cs, _, _, hq, _, h, x => Sh.allK_out s (fun _ h r => CSh.allsK_out cs hq h r) h x
theorem ghAll_out {cs : List (Nat × CSh)} {ss : List Sh} {k : Gh cs ss → Prop} (h : ghAll cs ss k) : ∀ x, k x :=
  CSh.allsK_out cs (fun _ h r => Sh.allsK_out ss (fun _ h _ => h) h r) h

/-! From ghosts to values. Numbers of ours are brought to their plain form. -/
def natGo (l : List Nat) (i : Nat) (n : Nat) (k : Nat → Prop) : Prop :=
  match l with
  | [] => k n
  | x :: l => match Nat.beq x n with
    | true => k x
    | false => natGo l i n k
def natK (n : Nat) (k : Nat → Prop) : Prop := natGo [0, 1, 2, 3, 4, 5, 6, 7, 8, 9, 10, 11, 12, 13, 14, 15, 16, 17, 18, 19, 20, 21, 22, 23, 24, 25, 26, 27, 28, 29, 30, 31, 32, 33, 34, 35, 36, 37, 38, 39, 40, 41, 42, 43, 44, 45, 46, 47, 48, 49, 50, 51, 52, 53, 54, 55, 56, 57, 58, 59, 60, 61, 62, 63] 0 n k
theorem natGo_eq : ∀ (l : List Nat) (i n : Nat) (k : Nat → Prop), natGo l i n k = k n
  | [], _, _, _ => rfl
  | x :: l, i, n, k => by
    unfold natGo
    split
    · next h => rw [Nat.eq_of_beq_eq_true h]
    · exact natGo_eq l i n k
theorem natK_eq (n : Nat) (k : Nat → Prop) : natK n k = k n := natGo_eq _ _ _ _

def Sh.encK (ρ : Nat → Nat) : (s : Sh) → {R : Type} → s.add R → (T → R → Prop) → Prop
  | .el e, _, (a, r), k => k (e.enc a) r
  | .lend e, _, (a, r), k => k (.v (.rd e a)) r
  | .rp e, _, (a, r), k => k (.v (.rp e [a] 0 [])) r
  | .own q, _, x, k => natK (ρ q) fun q => k (.v (.own q)) x
  | .ref q, _, x, k => natK (ρ q) fun q => k (.v (.ptr q [])) x
  | .any, _, x, k => k (.v .any) x
  | .nil, _, x, k => k .nil x
  | .cons s ss, _, x, k => s.encK ρ x fun t x => ss.encK ρ x fun ts x => k (.cons t ts) x
def Sh.encsK (ρ : Nat → Nat) : (ss : List Sh) → {R : Type} → Sh.adds ss R → (List T → R → Prop) → Prop
  | [], _, x, k => k [] x
  | s :: ss, _, x, k => s.encK ρ x fun t x => Sh.encsK ρ ss x fun ts x => k (t :: ts) x
def CSh.encK (ρ : Nat → Nat) : (c : CSh) → {R : Type} → c.add R → (Chunk → R → Prop) → Prop
  | .row ty e, _, (a, r), k => k (.row ty e a) r
  | .own s, _, x, k => s.encK ρ x fun t x => k (.own t) x
def CSh.encsK (ρ : Nat → Nat) : (cs : List (Nat × CSh)) → {R : Type} → CSh.adds cs R → (Hp → R → Prop) → Prop
  | [], _, x, k => k [] x
  | (q, c) :: cs, _, x, k => c.encK ρ x fun c x => natK (ρ q) fun q => CSh.encsK ρ cs x fun hp x => k ((q, c) :: hp) x

/-! No slice is longer than the machine allows. -/
def El.lensK : (e : El) → e.ty → Prop → Prop
  | .rd _, x, k => x.length ≤ maxLen → k
  | .cons e es, x, k => e.lensK x.1 (es.lensK x.2 k)
  | _, _, k => k
def Sh.lensK : (s : Sh) → {R : Type} → s.add R → (R → Prop) → Prop
  | .el e, _, x, k => e.lensK x.1 (k x.2)
  | .lend _, _, x, k => x.1.length ≤ maxLen → k x.2
  | .rp e, _, x, k => e.lensK x.1 (k x.2)
  | .own _, _, x, k => k x
  | .ref _, _, x, k => k x
  | .any, _, x, k => k x
  | .nil, _, x, k => k x
  | .cons s ss, _, x, k => s.lensK x fun x => ss.lensK x k
def Sh.lenssK : (ss : List Sh) → {R : Type} → Sh.adds ss R → (R → Prop) → Prop
  | [], _, x, k => k x
  | s :: ss, _, x, k => s.lensK x fun x => Sh.lenssK ss x k
def CSh.lensK : (c : CSh) → {R : Type} → c.add R → (R → Prop) → Prop
  | .row _ _, _, x, k => x.1.length ≤ maxLen → k x.2
  | .own s, _, x, k => s.lensK x k
def CSh.lenssK : (cs : List (Nat × CSh)) → {R : Type} → CSh.adds cs R → (R → Prop) → Prop
  | [], _, x, k => k x
  | (_, c) :: cs, _, x, k => c.lensK x fun x => CSh.lenssK cs x k
def ghK (cs : List (Nat × CSh)) (ss : List Sh) (x : Gh cs ss) (k : Prop) : Prop := CSh.lenssK cs x fun x => Sh.lenssK ss x fun _ => k

/-! The same ghosts, one by one. -/
def Sh.eqK : (s : Sh) → {R : Type} → s.add R → s.add R → (R → R → Prop) → Prop
  | .el _, _, (a, x), (b, y), k => Is (a = b) ∧ k x y
  | .lend _, _, (a, x), (b, y), k => Is (a = b) ∧ k x y
  | .rp _, _, (a, x), (b, y), k => Is (a = b) ∧ k x y
  | .own _, _, x, y, k => k x y
  | .ref _, _, x, y, k => k x y
  | .any, _, x, y, k => k x y
  | .nil, _, x, y, k => k x y
  | .cons s ss, _, x, y, k => s.eqK x y fun x y => ss.eqK x y k
def Sh.eqsK : (ss : List Sh) → {R : Type} → Sh.adds ss R → Sh.adds ss R → (R → R → Prop) → Prop
  | [], _, x, y, k => k x y
  | s :: ss, _, x, y, k => s.eqK x y fun x y => Sh.eqsK ss x y k
def CSh.eqK : (c : CSh) → {R : Type} → c.add R → c.add R → (R → R → Prop) → Prop
  | .row _ _, _, (a, x), (b, y), k => Is (a = b) ∧ k x y
  | .own s, _, x, y, k => s.eqK x y k
def CSh.eqsK : (cs : List (Nat × CSh)) → {R : Type} → CSh.adds cs R → CSh.adds cs R → (R → R → Prop) → Prop
  | [], _, x, y, k => k x y
  | (_, c) :: cs, _, x, y, k => c.eqK x y fun x y => CSh.eqsK cs x y k
def ghEq (cs : List (Nat × CSh)) (ss : List Sh) (x y : Gh cs ss) : Prop := CSh.eqsK cs x y fun x y => Sh.eqsK ss x y fun _ _ => Is True

/-! From values to ghosts. -/
structure D where
  n : Nat
  hp : Hp
  map : List (Nat × Option Nat)
  lent : List Nat

/-- A state in its plain form. -/
def forceD (d : D) (k : D → Prop) : Prop :=
  match d with
  | ⟨n, hp, map, lent⟩ => match hp, map, lent with
    | [], [], [] => k ⟨n, [], [], []⟩
    | [], [], l :: ls => k ⟨n, [], [], l :: ls⟩
    | [], m :: ms, [] => k ⟨n, [], m :: ms, []⟩
    | [], m :: ms, l :: ls => k ⟨n, [], m :: ms, l :: ls⟩
    | h :: hs, [], [] => k ⟨n, h :: hs, [], []⟩
    | h :: hs, [], l :: ls => k ⟨n, h :: hs, [], l :: ls⟩
    | h :: hs, m :: ms, [] => k ⟨n, h :: hs, m :: ms, []⟩
    | h :: hs, m :: ms, l :: ls => k ⟨n, h :: hs, m :: ms, l :: ls⟩
theorem forceD_eq (d : D) (k : D → Prop) : forceD d k = k d := by
  obtain ⟨n, hp, map, lent⟩ := d
  cases hp <;> cases map <;> cases lent <;> rfl

def sameO : Option Nat → Option Nat → Bool
  | some a, some b => Nat.beq a b
  | none, none => true
  | _, _ => false
def mapK (l : List (Nat × Option Nat)) (q : Nat) (k : Option Nat → Prop) : Prop :=
  match l with
  | [] => False
  | (q', r) :: l => match Nat.beq q' q with
    | true => k r
    | false => mapK l q k
/-- The same again, or new. -/
def bindK (l : List (Nat × Option Nat)) (q : Nat) (r : Option Nat) (k : Bool → Prop) : Prop :=
  match l with
  | [] => k true
  | (q', r') :: l => match Nat.beq q' q with
    | true => match sameO r' r with
      | true => k false
      | false => False
    | false => bindK l q r k
def bindD (d : D) (q : Nat) (r : Option Nat) (k : D → Prop) : Prop :=
  match Nat.blt q d.n with
  | true => bindK d.map q r fun
    | true => k ⟨d.n, d.hp, (q, r) :: d.map, d.lent⟩
    | false => k d
  | false => False

/-- A row that nobody writes from here on. -/
def freezeK (e : El) (r : Nat) (d : D) (k : List e.ty → D → Prop) : Prop :=
  lookK d.hp r fun
    | .row ty e' xs => updK d.hp r (.fz ty e' xs) fun hp => castK e' e xs fun xs => k xs ⟨d.n, hp, d.map, d.lent⟩
    | .fz _ e' xs => castK e' e xs fun xs => k xs d
    | .own _ => False

def frzK (r : Nat) (d : D) (k : D → Prop) : Prop :=
  lookK d.hp r fun
    | .row ty e' xs => updK d.hp r (.fz ty e' xs) fun hp => k ⟨d.n, hp, d.map, d.lent⟩
    | .fz _ _ _ => k d
    | .own _ => False

/-- The block that is looked at, where it is one that can be written. -/
def lentK (hp : Hp) (x : V) (k : List Nat → Prop) : Prop :=
  match x with
  | .own r => lookK hp r fun c => match c.rw with
    | true => k [r]
    | false => k []
  | .sl r _ _ _ _ => lookK hp r fun c => match c.rw with
    | true => k [r]
    | false => k []
  | _ => k []

def Sh.dec : (s : Sh) → T → D → ((∀ R : Type, R → s.add R) → D → Prop) → Prop
  | .el (.rd e), .v (.own r), d, k => freezeK e r d fun xs d => k (fun _ r => (xs, r)) d
  | .el (.rd e), .v (.sl r p off len sz), d, k => frzK r d fun d => rdK e d.hp (.sl r p off len sz) fun xs => lentK d.hp (.sl r p off len sz) fun l => match l with
    | [] => k (fun _ r => (xs, r)) d
    | _ => False
  | .el e, t, d, k => decK e t [] fun x => k (fun _ r => (x, r)) d
  | .lend e, .v x, d, k => rdK e d.hp x fun xs => lentK d.hp x fun l => k (fun _ r => (xs, r)) ⟨d.n, d.hp, d.map, l ++ d.lent⟩
  | .rp e, .v (.rp e' xs i p), d, k => tgetK p (e'.enc (xs.getD i e'.dflt)) fun t => decK e t [] fun x => k (fun _ r => (x, r)) d
  | .rp e, .v (.ptr r p), d, k => lookK d.hp r fun c => match c.rw with
    | true => tgetK p c.tree fun t => decK e t [] fun x => k (fun _ r => (x, r)) ⟨d.n, d.hp, d.map, r :: d.lent⟩
    | false => match p with
      | [] => False
      | s :: p => tgetK (s :: p) c.tree fun t => decK e t [] fun x => k (fun _ r => (x, r)) d
  | .own q, .v (.own r), d, k => bindD d q (some r) fun d => k (fun _ r => r) d
  | .own q, .v .nils, d, k => bindD d q none fun d => k (fun _ r => r) d
  | .ref q, .v (.ptr r p), d, k => match p with
    | [] => bindD d q (some r) fun d => k (fun _ r => r) d
    | _ :: _ => False
  | .any, .v _, d, k => k (fun _ r => r) d
  | .nil, .nil, d, k => k (fun _ r => r) d
  | .cons s ss, .cons t ts, d, k => s.dec t d fun f d => forceD d fun d => ss.dec ts d fun g d => k (fun R r => f _ (g R r)) d
  | _, _, _, _ => False
def Sh.decs : (ss : List Sh) → List T → D → ((∀ R : Type, R → Sh.adds ss R) → D → Prop) → Prop
  | [], [], d, k => k (fun _ r => r) d
  | s :: ss, t :: ts, d, k => s.dec t d fun f d => forceD d fun d => Sh.decs ss ts d fun g d => k (fun R r => f _ (g R r)) d
  | _, _, _, _ => False
def notIn (r : Nat) : List Nat → Bool
  | [] => true
  | x :: l => !Nat.beq x r && notIn r l
def CSh.dec (c : CSh) (q : Nat) (d : D) (k : (∀ R : Type, R → c.add R) → D → Prop) : Prop :=
  mapK d.map q fun
    | none => match c, k with
      | .row _ e, k => k (fun _ r => (([] : List e.ty), r)) d
      | .own _, _ => False
    | some r => match notIn r d.lent with
      | false => False
      | true => lookK d.hp r fun ch => delK d.hp r fun hp => match c, k with
        | .row ty e, k => match ch with
          | .row ty' e' xs => match Nat.beq ty' ty with
            | true => castK e' e xs fun xs => k (fun _ r => (xs, r)) ⟨d.n, hp, d.map, d.lent⟩
            | false => False
          | _ => False
        | .own s, k => match ch with
          | .own t => s.dec t ⟨d.n, hp, d.map, d.lent⟩ k
          | _ => False
def CSh.decs : (cs : List (Nat × CSh)) → D → ((∀ R : Type, R → CSh.adds cs R) → D → Prop) → Prop
  | [], d, k => k (fun _ r => r) d
  | (q, c) :: cs, d, k => c.dec q d fun f d => forceD d fun d => CSh.decs cs d fun g d => k (fun R r => f _ (g R r)) d

/-! Ghosts in their plain form. -/
def Sh.forceK : (s : Sh) → {R : Type} → s.add R → (R → (R → Prop) → Prop) → (s.add R → Prop) → Prop
  | .el _, _, (a, r), q, k => q r fun r => k (a, r)
  | .lend _, _, (a, r), q, k => q r fun r => k (a, r)
  | .rp _, _, (a, r), q, k => q r fun r => k (a, r)
  | .own _, _, x, q, k => q x k
  | .ref _, _, x, q, k => q x k
  | .any, _, x, q, k => q x k
  | .nil, _, x, q, k => q x k
  | .cons s ss, _, x, q, k => s.forceK x (fun x k => ss.forceK x q k) k
def Sh.forcesK : (ss : List Sh) → {R : Type} → Sh.adds ss R → (R → (R → Prop) → Prop) → (Sh.adds ss R → Prop) → Prop
  | [], _, x, q, k => q x k
  | s :: ss, _, x, q, k => s.forceK x (fun x k => Sh.forcesK ss x q k) k
def CSh.forceK : (c : CSh) → {R : Type} → c.add R → (R → (R → Prop) → Prop) → (c.add R → Prop) → Prop
  | .row _ _, _, (a, r), q, k => q r fun r => k (a, r)
  | .own s, _, x, q, k => s.forceK x q k
def CSh.forcesK : (cs : List (Nat × CSh)) → {R : Type} → CSh.adds cs R → (R → (R → Prop) → Prop) → (CSh.adds cs R → Prop) → Prop
  | [], _, x, q, k => q x k
  | (_, c) :: cs, _, x, q, k => c.forceK x (fun x k => CSh.forcesK cs x q k) k
def ghF (cs : List (Nat × CSh)) (ss : List Sh) (x : Gh cs ss) (k : Gh cs ss → Prop) : Prop := CSh.forcesK cs x (fun x k => Sh.forcesK ss x (fun x k => k x) k) k
theorem Sh.forceK_eq : ∀ (s : Sh) {R : Type} (x : s.add R) (q : R → (R → Prop) → Prop) (k : s.add R → Prop), (∀ r k, q r k = k r) → s.forceK x q k = k x
  | .el _, _, (a, r), q, k, h => h r _
  | .lend _, _, (a, r), q, k, h => h r _
  | .rp _, _, (a, r), q, k, h => h r _
  | .own _, _, x, q, k, h => h x _
  | .ref _, _, x, q, k, h => h x _
  | .any, _, x, q, k, h => h x _
  | .nil, _, x, q, k, h => h x _
  | .cons s ss, _, x, q, k, h => Sh.forceK_eq s x _ k fun r k => Sh.forceK_eq ss r q k h
theorem Sh.forcesK_eq : ∀ (ss : List Sh) {R : Type} (x : Sh.adds ss R) (q : R → (R → Prop) → Prop) (k : Sh.adds ss R → Prop), (∀ r k, q r k = k r) → Sh.forcesK ss x q k = k x
  | [], _, x, q, k, h => h x _
  | s :: ss, _, x, q, k, h => Sh.forceK_eq s x _ k fun r k => Sh.forcesK_eq ss r q k h
theorem CSh.forceK_eq (c : CSh) {R : Type} (x : c.add R) (q : R → (R → Prop) → Prop) (k : c.add R → Prop) (h : ∀ r k, q r k = k r) : c.forceK x q k = k x := by
  cases c with
  | row ty e => exact h x.2 _
  | own s => exact Sh.forceK_eq s x q k h
theorem CSh.forcesK_eq : ∀ (cs : List (Nat × CSh)) {R : Type} (x : CSh.adds cs R) (q : R → (R → Prop) → Prop) (k : CSh.adds cs R → Prop), (∀ r k, q r k = k r) → CSh.forcesK cs x q k = k x
  | [], _, x, q, k, h => h x _
  | (_, c) :: cs, _, x, q, k, h => CSh.forceK_eq c x _ k fun r k => CSh.forcesK_eq cs r q k h
theorem ghF_eq (cs : List (Nat × CSh)) (ss : List Sh) (x : Gh cs ss) (k : Gh cs ss → Prop) : ghF cs ss x k = k x :=
  CSh.forcesK_eq cs x _ k fun r k => Sh.forcesK_eq ss r _ k fun _ _ => rfl

/-- A state, told by its ghosts. -/
def decSt (cs : List (Nat × CSh)) (ss : List Sh) (ts : List T) (hp : Hp) (n : Nat) (map : List (Nat × Option Nat)) (k : Gh cs ss → D → Prop) : Prop :=
  Sh.decs ss ts ⟨n, hp, map, []⟩ fun f d => CSh.decs cs d fun g d => ghF cs ss (g _ (f Unit ())) fun x => k x d

/-- Each number once. -/
def idsOk : List (Nat × CSh) → Bool
  | [] => true
  | (q, _) :: cs => fresh q cs && idsOk cs
where
  fresh (q : Nat) : List (Nat × CSh) → Bool
    | [] => true
    | (q', _) :: cs => !Nat.beq q' q && fresh q cs

def anchors : Nat → List (Nat × Option Nat)
  | 0 => []
  | n + 1 => (n, some n) :: anchors n

/-! Contracts. -/
inductive PostK (X Y : Type) where
  | fn (f : X → Y)
  | rel (R : X → Y → Prop)

structure Spec where
  n : Nat
  cs : List (Nat × CSh)
  ar : List Sh
  pre : Gh cs ar → Prop
  n' : Nat
  cs' : List (Nat × CSh)
  rs : List Sh
  post : PostK (Gh cs ar) (Gh cs' rs)

def renN (map : List (Nat × Option Nat)) (n nx : Nat) (q : Nat) : Nat :=
  match Nat.blt q n with
  | true => go map
  | false => nx + (q - n)
where
  go : List (Nat × Option Nat) → Nat
    | [] => 0
    | (q', r) :: l => match Nat.beq q' q with
      | true => r.getD 0
      | false => go l

def resT : List T → T
  | [t] => t
  | ts => .tup (tupOf ts)
where
  tupOf : List T → T
    | [] => .nil
    | t :: ts => .cons t (tupOf ts)

/-- The numbers of the caller's that are spoken of behind the call. -/
def Sh.ids (n : Nat) : Sh → List Nat
  | .own q => match Nat.blt q n with
    | true => [q]
    | false => []
  | .ref q => match Nat.blt q n with
    | true => [q]
    | false => []
  | .cons s ss => s.ids n ++ ss.ids n
  | _ => []
def Sh.idss (n : Nat) : List Sh → List Nat
  | [] => []
  | s :: ss => s.ids n ++ Sh.idss n ss
def CSh.idss (n : Nat) : List (Nat × CSh) → List Nat
  | [] => []
  | (q, .row _ _) :: cs => match Nat.blt q n with
    | true => q :: CSh.idss n cs
    | false => CSh.idss n cs
  | (q, .own s) :: cs => match Nat.blt q n with
    | true => q :: (s.ids n ++ CSh.idss n cs)
    | false => s.ids n ++ CSh.idss n cs
def inIds (q : Nat) : List (Nat × CSh) → Bool
  | [] => false
  | (q', _) :: cs => Nat.beq q' q || inIds q cs
def keepK (map : List (Nat × Option Nat)) (cs : List (Nat × CSh)) : List Nat → Prop → Prop
  | [], k => k
  | q :: l, k => match inIds q cs with
    | true => mapK map q fun
      | some _ => keepK map cs l k
      | none => False
    | false => False
/-- Without slices that are looked at. -/
def El.bare : El → Bool
  | .rd _ => false
  | .cons e es => e.bare && es.bare
  | .ar _ e => e.bare
  | _ => true
def Sh.bare : Sh → Bool
  | .el e => e.bare
  | .lend _ => false
  | .rp _ => false
  | .cons s ss => s.bare && ss.bare
  | _ => true
def Sh.bares : List Sh → Bool
  | [] => true
  | s :: ss => s.bare && Sh.bares ss
def CSh.bares : List (Nat × CSh) → Bool
  | [] => true
  | (_, .row _ e) :: cs => e.bare && CSh.bares cs
  | (_, .own s) :: cs => s.bare && CSh.bares cs
def lentOkK (l : List Nat) (S : Spec) (k : Prop) : Prop :=
  match l with
  | [] => k
  | _ => match CSh.bares S.cs' && Sh.bares S.rs with
    | true => k
    | false => False

def retK (S : Spec) (d : D) (nx : Nat) (y : Gh S.cs' S.rs) (k : T → Hp → Nat → Prop) : Prop :=
  keepK d.map S.cs (CSh.idss S.n S.cs' ++ Sh.idss S.n S.rs) <| lentOkK d.lent S <| CSh.encsK (renN d.map S.n nx) S.cs' y fun hp y => Sh.encsK (renN d.map S.n nx) S.rs y fun ts _ => lappK d.hp hp fun hp => natK (nx + (S.n' - S.n)) fun nx => k (resT ts) hp nx

/-- A name for a value. -/
structure Nm {α : Type} (a b : α) : Prop where
  out : a = b
def Sh.nmK : (s : Sh) → {R : Type} → s.add R → s.add R → (R → R → Prop) → Prop
  | .el _, _, (a, x), (b, y), k => Nm a b → k x y
  | .lend _, _, (a, x), (b, y), k => Nm a b → k x y
  | .rp _, _, (a, x), (b, y), k => Nm a b → k x y
  | .own _, _, x, y, k => k x y
  | .ref _, _, x, y, k => k x y
  | .any, _, x, y, k => k x y
  | .nil, _, x, y, k => k x y
  | .cons s ss, _, x, y, k => s.nmK x y fun x y => ss.nmK x y k
def Sh.nmsK : (ss : List Sh) → {R : Type} → Sh.adds ss R → Sh.adds ss R → (R → R → Prop) → Prop
  | [], _, x, y, k => k x y
  | s :: ss, _, x, y, k => s.nmK x y fun x y => Sh.nmsK ss x y k
def CSh.nmK : (c : CSh) → {R : Type} → c.add R → c.add R → (R → R → Prop) → Prop
  | .row _ _, _, (a, x), (b, y), k => Nm a b → k x y
  | .own s, _, x, y, k => s.nmK x y k
def CSh.nmsK : (cs : List (Nat × CSh)) → {R : Type} → CSh.adds cs R → CSh.adds cs R → (R → R → Prop) → Prop
  | [], _, x, y, k => k x y
  | (_, c) :: cs, _, x, y, k => c.nmK x y fun x y => CSh.nmsK cs x y k
def ghNm (cs : List (Nat × CSh)) (ss : List Sh) (x y : Gh cs ss) (k : Prop) : Prop := CSh.nmsK cs x y fun x y => Sh.nmsK ss x y fun _ _ => k
theorem Sh.nmK_out : ∀ (s : Sh) {R : Type} (x : s.add R) (k : R → R → Prop), s.nmK x x k → ∃ r, k r r
  | .el _, _, (a, x), k, h => ⟨x, h ⟨rfl⟩⟩
  | .lend _, _, (a, x), k, h => ⟨x, h ⟨rfl⟩⟩
  | .rp _, _, (a, x), k, h => ⟨x, h ⟨rfl⟩⟩
  | .own _, _, x, k, h => ⟨x, h⟩
  | .ref _, _, x, k, h => ⟨x, h⟩
  | .any, _, x, k, h => ⟨x, h⟩
  | .nil, _, x, k, h => ⟨x, h⟩
  | .cons s ss, _, x, k, h => by
    obtain ⟨r, hr⟩ := Sh.nmK_out s x _ h
    exact Sh.nmK_out ss r k hr
theorem Sh.nmsK_out : ∀ (ss : List Sh) {R : Type} (x : Sh.adds ss R) (k : R → R → Prop), Sh.nmsK ss x x k → ∃ r, k r r
  | [], _, x, k, h => ⟨x, h⟩
  | s :: ss, _, x, k, h => by
    obtain ⟨r, hr⟩ := Sh.nmK_out s x _ h
    exact Sh.nmsK_out ss r k hr
theorem CSh.nmK_out (c : CSh) {R : Type} (x : c.add R) (k : R → R → Prop) (h : c.nmK x x k) : ∃ r, k r r := by
  cases c with
  | row ty e => exact ⟨x.2, h ⟨rfl⟩⟩
  | own s => exact Sh.nmK_out s x k h
theorem CSh.nmsK_out : ∀ (cs : List (Nat × CSh)) {R : Type} (x : CSh.adds cs R) (k : R → R → Prop), CSh.nmsK cs x x k → ∃ r, k r r
  | [], _, x, k, h => ⟨x, h⟩
  | (_, c) :: cs, _, x, k, h => by
    obtain ⟨r, hr⟩ := CSh.nmK_out c x _ h
    exact CSh.nmsK_out cs r k hr
theorem ghNm_out {cs : List (Nat × CSh)} {ss : List Sh} {x : Gh cs ss} {k : Prop} (h : ghNm cs ss x x k) : k := by
  obtain ⟨r, hr⟩ := CSh.nmsK_out cs x _ h
  exact (Sh.nmsK_out ss r _ hr).elim fun _ h => h

/-- A call by a contract; nm: what it hands back is named. -/
def Spec.callB (S : Spec) (nm : Bool) (args : List T) (hp : Hp) (nx : Nat) (k : T → Hp → Nat → Prop) : Prop :=
  decSt S.cs S.ar args hp S.n [] fun x d => Is (S.pre x) ∧ match S.post with
    | .fn f => (match nm with
      | false => retK S d nx (f x) k
      | true => ghAll S.cs' S.rs fun y => ghNm S.cs' S.rs y (f x) (ghK S.cs' S.rs y (retK S d nx y k)))
    | .rel R => ghAll S.cs' S.rs fun y => R x y → ghK S.cs' S.rs y (retK S d nx y k)

@[reducible] def Spec.call (S : Spec) : List T → Hp → Nat → (T → Hp → Nat → Prop) → Prop := S.callB false
@[reducible] def Spec.callN (S : Spec) : List T → Hp → Nat → (T → Hp → Nat → Prop) → Prop := S.callB true

/-! Code. -/
structure Ann where
  nx : Nat
  cs : List (Nat × CSh)
  ss : List (Nat × Sh)
  inv : Gh cs (ss.map (·.2)) → Gh cs (ss.map (·.2)) → Prop
  mu : Gh cs (ss.map (·.2)) → Nat

def getsK (fr : List T) : List (Nat × Sh) → (List T → Prop) → Prop
  | [], k => k []
  | (i, _) :: l, k => lgetK fr i fun t => getsK fr l fun ts => k (t :: ts)
def setsK : List T → List (Nat × Sh) → List T → (List T → Prop) → Prop
  | fr, [], _, k => k fr
  | fr, (i, _) :: l, t :: ts, k => lsetK fr i t fun fr => setsK fr l ts k
  | _, _ :: _, [], _ => False
def anys : List T → List T
  | [] => []
  | _ :: l => .v .any :: anys l

def sameLenK : List T → List T → Prop → Prop
  | [], [], k => k
  | _ :: l, _ :: m, k => sameLenK l m k
  | _, _, _ => False

def firstReg : Code → Nat
  | .region i _ _ => i
  | .seq a b => match firstReg a with
    | 0 => firstReg b
    | n => n
  | .cond _ a b => match firstReg a with
    | 0 => firstReg b
    | n => n
  | .block _ c => firstReg c
  | .loop c => firstReg c
  | _ => 0
def annK (l : List (Nat × Ann)) (i : Nat) (k : Ann → Prop) : Prop :=
  match l with
  | [] => False
  | (j, a) :: l => match Nat.beq j i with
    | true => k a
    | false => annK l i k

/-- What a function's text is told by us: its drawn regions' roads, its loops' states. -/
structure Hints where
  plans : List (Nat × Plan)
  anns : List (Nat × Ann)
  unr : List (Nat × Nat)
/-- A loop that is walked again and again, so often at most; the key as with annotations. -/
def unrAt (l : List (Nat × Nat)) (i : Nat) : Option Nat :=
  match l with
  | [] => none
  | (j, n) :: l => match Nat.beq j i with
    | true => some n
    | false => unrAt l i

def planAtK (l : List (Nat × Plan)) (i : Nat) (k : Plan → Prop) : Prop :=
  match l with
  | [] => False
  | (j, a) :: l => match Nat.beq j i with
    | true => k a
    | false => planAtK l i k
def planAt (l : List (Nat × Plan)) (i : Nat) : Option Plan :=
  match l with
  | [] => none
  | (j, a) :: l => match Nat.beq j i with
    | true => some a
    | false => planAt l i

/-- Are the roads the right ones? -/
def codeOk (l : List (Nat × Plan)) : Code → Bool
  | .region i ops true => match planAt l i with
    | some p => regOk ops.toList p
    | none => false
  | .seq a b => codeOk l a && codeOk l b
  | .cond _ a b => codeOk l a && codeOk l b
  | .block _ c => codeOk l c
  | .loop c => codeOk l c
  | _ => true

noncomputable def denC (E : Env) (na : Nat) (as : Hints) (c : Code) : List T → Hp → Nat → (Exit → List T → Hp → Nat → Prop) → Prop :=
  Code.rec (motive := fun _ => List T → Hp → Nat → (Exit → List T → Hp → Nat → Prop) → Prop)
    (fun fr hp nx Q => Q .normal fr hp nx)
    (fun i ops d fr hp nx Q => match d with
      | false => denOps E ops.toList ops.toList fr hp nx (Q .normal)
      | true => planAtK as.plans i fun p => regionK E ops.toList (Q .normal) p fr hp nx)
    (fun _ _ iha ihb fr hp nx Q => iha fr hp nx fun e fr hp nx => match e with
      | .normal => ihb fr hp nx Q
      | e => Q e fr hp nx)
    (fun c _ _ iha ihb fr hp nx Q => evalK fr c fun
      | .v .tt => iha fr hp nx Q
      | .v .ff => ihb fr hp nx Q
      | .v (.bool v) => match c with
        | .tmp t => (v = true → lsetK fr t (.v .tt) fun fr => iha fr hp nx Q) ∧ (v = false → lsetK fr t (.v .ff) fun fr => ihb fr hp nx Q)
        | _ => (v = true → iha fr hp nx Q) ∧ (v = false → ihb fr hp nx Q)
      | _ => False)
    (fun i _ ih fr hp nx Q => ih fr hp nx fun e fr hp nx => match e with
      | .exit j => match Nat.beq j i with
        | true => Q .normal fr hp nx
        | false => Q (.exit j) fr hp nx
      | e => Q e fr hp nx)
    (fun c ih fr0 hp nx0 Q => match unrAt as.unr (firstReg c) with
      | some n => Nat.rec (motive := fun _ => List T → Hp → Nat → Prop) (fun _ _ _ => False) (fun _ ihn fr hp nx => ih fr hp nx fun e fr hp nx => match e with
        | .normal => ihn fr hp nx
        | e => Q e fr hp nx) n fr0 hp nx0
      | none => annK as.anns (firstReg c) fun A => match Nat.ble na A.nx && idsOk A.cs with
      | false => False
      | true => getsK fr0 A.ss fun ts => decSt A.cs (A.ss.map (·.2)) ts hp A.nx (anchors na) fun x0 _ => Is (A.inv x0 x0) ∧ ghAll A.cs (A.ss.map (·.2)) fun x => A.inv x0 x → ghK A.cs (A.ss.map (·.2)) x (
        CSh.encsK id A.cs x fun hp x' => Sh.encsK id (A.ss.map (·.2)) x' fun ts _ => setsK (anys fr0) A.ss ts fun fr => ih fr hp A.nx fun e fr hp nx => match e with
          | .normal => sameLenK fr0 fr (getsK fr A.ss fun ts => decSt A.cs (A.ss.map (·.2)) ts hp A.nx (anchors na) fun y _ => Is (A.inv x0 y ∧ A.mu y < A.mu x))
          | e => Q e fr hp nx))
    (fun _ _ _ _ _ _ _ _ _ _ => False)
    (fun i fr hp nx Q => Q (.exit i) fr hp nx)
    (fun _ _ _ _ _ _ => False)
    (fun _ _ _ _ _ => False)
    (fun _ _ _ _ _ => False)
    (fun fr hp nx Q => Q .ret fr hp nx)
    (fun _ _ _ _ _ => False) c

/-- What a function hands back. -/
def resK (E : Env) (fr : List T) (hp : Hp) : List ResultVar → (List T → Prop) → Prop
  | [], k => k []
  | .tmp t :: l, k => lgetK fr t fun x => resK E fr hp l fun xs => k (x :: xs)
  | .cell a t :: l, k => lgetK fr a fun x => tyK E.ty t fun y => match x with
    | .v (.ptr r p) => lookK hp r fun c => tgetK p c.tree fun t => match sizeEq t y.size with
      | true => shapeK y.k t fun t => resK E fr hp l fun xs => k (t :: xs)
      | false => False
    | _ => False

noncomputable def denF (E : Env) (S : Spec) (as : Hints) (f : Func) : Prop :=
  match f.body with
  | none => False
  | some c => ghAll S.cs S.ar fun x => S.pre x → ghK S.cs S.ar x (CSh.encsK id S.cs x fun hp x' => Sh.encsK id S.ar x' fun args _ => lpadK f.ntmps args fun fr => denC E S.n as c fr hp S.n fun e fr hp _ => match e with
    | .normal => fin x fr hp
    | .ret => fin x fr hp
    | _ => False)
where
  fin (x : Gh S.cs S.ar) (fr : List T) (hp : Hp) : Prop := resK E fr hp f.results.toList fun ts => decSt S.cs' S.rs ts hp S.n' (anchors S.n) fun y _ => match S.post with
    | .fn g => ghEq S.cs' S.rs y (g x)
    | .rel R => Is (R x y)

end Go.J

set_option linter.unusedSimpArgs false
set_option linter.unusedVariables false
set_option linter.unusedSectionVars false

namespace Go.J

/-! Encoding, as a function. -/
def Sh.enc (ρ : Nat → Nat) : (s : Sh) → {R : Type} → s.add R → T × R
  | .el e, _, x => (e.enc x.1, x.2)
  | .lend e, _, x => (.v (.rd e x.1), x.2)
  | .rp e, _, x => (.v (.rp e [x.1] 0 []), x.2)
  | .own q, _, x => (.v (.own (ρ q)), x)
  | .ref q, _, x => (.v (.ptr (ρ q) []), x)
  | .any, _, x => (.v .any, x)
  | .nil, _, x => (.nil, x)
  | .cons s ss, _, x => (.cons (s.enc ρ x).1 (ss.enc ρ (s.enc ρ x).2).1, (ss.enc ρ (s.enc ρ x).2).2)
def Sh.encs (ρ : Nat → Nat) : (ss : List Sh) → {R : Type} → Sh.adds ss R → List T × R
  | [], _, x => ([], x)
  | s :: ss, _, x => ((s.enc ρ x).1 :: (Sh.encs ρ ss (s.enc ρ x).2).1, (Sh.encs ρ ss (s.enc ρ x).2).2)
def CSh.enc (ρ : Nat → Nat) : (c : CSh) → {R : Type} → c.add R → Chunk × R
  | .row ty e, _, x => (.row ty e x.1, x.2)
  | .own s, _, x => (.own (s.enc ρ x).1, (s.enc ρ x).2)
def CSh.encs (ρ : Nat → Nat) : (cs : List (Nat × CSh)) → {R : Type} → CSh.adds cs R → Hp × R
  | [], _, x => ([], x)
  | (q, c) :: cs, _, x => ((ρ q, (c.enc ρ x).1) :: (CSh.encs ρ cs (c.enc ρ x).2).1, (CSh.encs ρ cs (c.enc ρ x).2).2)

theorem Sh.encK_eq (ρ : Nat → Nat) : ∀ (s : Sh) {R : Type} (x : s.add R) (k : T → R → Prop), s.encK ρ x k = k (s.enc ρ x).1 (s.enc ρ x).2
  | .el e, _, x, k => rfl
  | .lend e, _, x, k => rfl
  | .rp e, _, x, k => rfl
  | .own q, _, x, k => natK_eq _ _
  | .ref q, _, x, k => natK_eq _ _
  | .any, _, x, k => rfl
  | .nil, _, x, k => rfl
  | .cons s ss, _, x, k => by
    simp only [Sh.encK]
    rw [Sh.encK_eq ρ s x, Sh.encK_eq ρ ss]
    rfl
theorem Sh.encsK_eq (ρ : Nat → Nat) : ∀ (ss : List Sh) {R : Type} (x : Sh.adds ss R) (k : List T → R → Prop), Sh.encsK ρ ss x k = k (Sh.encs ρ ss x).1 (Sh.encs ρ ss x).2
  | [], _, x, k => rfl
  | s :: ss, _, x, k => by
    simp only [Sh.encsK]
    rw [Sh.encK_eq ρ s x, Sh.encsK_eq ρ ss]
    rfl
theorem CSh.encK_eq (ρ : Nat → Nat) (c : CSh) {R : Type} (x : c.add R) (k : Chunk → R → Prop) : c.encK ρ x k = k (c.enc ρ x).1 (c.enc ρ x).2 := by
  cases c with
  | row ty e => rfl
  | own s =>
    simp only [CSh.encK]
    rw [Sh.encK_eq ρ s x]
    rfl
theorem CSh.encsK_eq (ρ : Nat → Nat) : ∀ (cs : List (Nat × CSh)) {R : Type} (x : CSh.adds cs R) (k : Hp → R → Prop), CSh.encsK ρ cs x k = k (CSh.encs ρ cs x).1 (CSh.encs ρ cs x).2
  | [], _, x, k => rfl
  | (q, c) :: cs, _, x, k => by
    simp only [CSh.encsK]
    rw [CSh.encK_eq ρ c x, natK_eq, CSh.encsK_eq ρ cs]
    rfl

/-! What the numbers are bound to. -/
def mapF (l : List (Nat × Option Nat)) (q : Nat) : Option (Option Nat) :=
  match l with
  | [] => none
  | (q', r) :: l => match Nat.beq q' q with
    | true => some r
    | false => mapF l q
theorem mapK_out {k : Option Nat → Prop} : ∀ {l : List (Nat × Option Nat)} {q : Nat}, mapK l q k → ∃ r, mapF l q = some r ∧ k r
  | [], _, h => h.elim
  | (q', r) :: l, q, h => by
    unfold mapK at h
    unfold mapF
    split at h
    · next hb => (try rw [hb]); exact ⟨r, rfl, h⟩
    · next hb => (try rw [hb]); exact mapK_out h
theorem sameO_eq {a b : Option Nat} (h : sameO a b = true) : a = b := by
  cases a <;> cases b <;> simp [sameO] at h
  · rfl
  · rw [h]
theorem bindK_out {r : Option Nat} {k : Bool → Prop} : ∀ {l : List (Nat × Option Nat)} {q : Nat}, bindK l q r k → (mapF l q = none ∧ k true) ∨ (mapF l q = some r ∧ k false)
  | [], _, h => .inl ⟨rfl, h⟩
  | (q', r') :: l, q, h => by
    unfold bindK at h
    unfold mapF
    split at h
    · next hb =>
      try rw [hb]
      split at h
      · next hs => exact .inr ⟨by rw [sameO_eq hs], h⟩
      · exact h.elim
    · next hb => (try rw [hb]); exact bindK_out h

def nilB : B := ⟨0, true, 0, 0⟩

section
variable {w0 : World} {F0 : Base} {G : Cx} {nx : Nat}

def tgt (G : Cx) : Option Nat → Option B
  | some r => G.rho r
  | none => some nilB

/-- A context that knows the state by the ghosts' numbers. -/
structure Compat (G : Cx) (im : Nat → Prop) (d : D) (G' : Cx) : Prop where
  w : G'.w = G.w
  im : ∀ b, im b → G'.im b
  rho : ∀ q r, mapF d.map q = some r → G'.rho q = tgt G r
  lent : ∀ r b, r ∈ d.lent → G.rho r = some b → b.nil = false → G'.im b.blk

structure DI (w0 : World) (F0 : Base) (G : Cx) (nx : Nat) (I : Nat → Prop) (d : D) (taken : Hp) : Prop where
  mdl : Mdl w0 F0 ⟨G.rho, I, G.w⟩ (d.hp ++ taken) nx
  im : ∀ b, G.im b → I b
  lt : ∀ q r, mapF d.map q = some r → q < d.n
  lentIn : ∀ r, r ∈ d.lent → ∃ c, (r, c) ∈ d.hp ∧ (c.rw = true ∨ ∀ b, G.rho r = some b → b.nil = false → I b.blk)

structure Le (im im' : Nat → Prop) (d d' : D) : Prop where
  n : d'.n = d.n
  im : ∀ b, im b → im' b
  map : ∀ q r, mapF d.map q = some r → mapF d'.map q = some r
  lent : ∀ r, r ∈ d.lent → r ∈ d'.lent

theorem Le.refl (im : Nat → Prop) (d : D) : Le im im d d := ⟨rfl, fun _ h => h, fun _ _ h => h, fun _ h => h⟩
theorem Le.trans {im1 im2 im3 : Nat → Prop} {d1 d2 d3 : D} (h : Le im1 im2 d1 d2) (k : Le im2 im3 d2 d3) : Le im1 im3 d1 d3 :=
  ⟨k.n.trans h.n, fun b e => k.im b (h.im b e), fun q r e => k.map q r (h.map q r e), fun r e => k.lent r (h.lent r e)⟩
theorem Compat.le {im im' : Nat → Prop} {d d' : D} {G' : Cx} (h : Le im im' d d') (c : Compat G im' d' G') : Compat G im d G' :=
  ⟨c.w, fun b e => c.im b (h.im b e), fun q r e => c.rho q r (h.map q r e), fun r b e => c.lent r b (h.lent r e)⟩

/-- An element told by its value: as a value. -/
theorem dec_el {e : El} {t : T} {kk : e.ty → Prop} (h : decK e t [] kk) : ∃ x, kk x ∧ ∀ (im : Nat → Prop) (G' : Cx), G'.w = G.w → (∀ b, G.im b → im b) → (∀ b, im b → G'.im b) →
    (∀ cs, tCells G t cs → tCells G' (e.enc x) cs) ∧ (∀ v, tVal1 G t v → tVal1 G' (e.enc x) v) := by
  obtain ⟨x, hk, hx⟩ := decK_out h
  refine ⟨x, hk, fun im G' hw h1 h2 => ?_⟩
  have hc : ∀ cs, tCells G t cs → tCells G' (e.enc x) cs := fun cs hcs => (tCells_enc e x cs).2 (cells_move hw (fun b hb => h2 b (h1 b hb)) (hx G cs hcs))
  refine ⟨hc, fun v hv => ?_⟩
  cases t with
  | v y =>
    have hkn : (T.v y).known = true := by
      cases y <;> first | rfl | (cases e <;> simp [decK] at h)
    have hcs := toCells hkn (show tVal G (.v y) v from hv)
    obtain ⟨c, e1, e2, e3⟩ := hcs
    have hone : v.cells = #[v] := by
      cases v <;> first | rfl | skip
      all_goals (exfalso; revert hv; cases y <;> simp [tVal1, vOk, cellsOf, T.known] at hkn ⊢)
    have hcv := hc v.cells.toList (toCells hkn (show tVal G (.v y) v from hv))
    rw [hone] at hcv
    cases e with
    | cons e es => cases y <;> simp [decK] at h
    | nil => cases y <;> simp [decK] at h
    | ar n e => cases y <;> simp [decK] at h
    | _ => obtain ⟨c', e1', _, e3'⟩ := hcv; simp at e1'; subst e1'; exact e3'
  | tup ts => exact hv.elim
  | nil =>
    obtain ⟨cs, rfl, hcs⟩ := hv
    cases e <;> first | (simp [decK] at h; done) | exact ⟨cs, rfl, hc cs hcs⟩
  | cons t ts =>
    obtain ⟨cs, rfl, hcs⟩ := hv
    cases e <;> first | (simp [decK] at h; done) | exact ⟨cs, rfl, hc cs hcs⟩
  | arr e' xs n =>
    obtain ⟨cs, rfl, hcs⟩ := hv
    cases e <;> first | (simp [decK] at h; done) | exact ⟨cs, rfl, hc cs hcs⟩

/-- A part of the heap is left out, or put in another order. -/
theorem Mdl.sub {hp hp' : Hp} (h : Mdl w0 F0 G hp nx) (hs : ∀ p, p ∈ hp' → p ∈ hp) (hn : (hp'.map (·.1)).Nodup) : Mdl w0 F0 G hp' nx :=
  ⟨h.os, h.tape, h.output, h.size, h.keep, h.imLt, h.fresh, fun r c hm => h.chunk r c (hs _ hm), hn, fun r c s d b b' h1 h2 => h.apart r c s d b b' (hs _ h1) (hs _ h2), fun r c b h1 => h.mine r c b (hs _ h1), h.imNew⟩

theorem Mdl.blk_lt {hp : Hp} {r : Nat} {c : Chunk} {b : B} (h : Mdl w0 F0 G hp nx) (hm : (r, c) ∈ hp) (hr : G.rho r = some b) (hn : b.nil = false) (hne : ∃ v, G.w.cell? ⟨b.blk, 0, none⟩ = some v) : b.blk < G.w.heap.size := by
  by_cases hlt : b.blk < G.w.heap.size
  · exact hlt
  · obtain ⟨v, hv⟩ := hne
    simp [World.cell?, Array.getElem?_eq_none (Nat.le_of_not_lt hlt)] at hv

end
end Go.J

set_option linter.unusedSimpArgs false
set_option linter.unusedVariables false
set_option linter.unusedSectionVars false

namespace Go.J

section
variable {w0 : World} {F0 : Base} {G : Cx} {nx : Nat}

/-- What telling a value gives. -/
def Out (w0 : World) (F0 : Base) (G : Cx) (nx : Nat) (s : Sh) (t : T) (d : D) (taken : Hp) (im : Nat → Prop) (f : ∀ R : Type, R → s.add R) (d' : D) : Prop :=
  ∃ im', DI w0 F0 G nx im' d' taken ∧ Le im im' d d' ∧ ∃ t', (∀ (R : Type) (r : R), s.enc id (f R r) = (t', r)) ∧ ∀ G', Compat G im' d' G' → (∀ cs, tCells G t cs → tCells G' t' cs) ∧ (∀ v, tVal1 G t v → tVal1 G' t' v)

/-- One cell: the value says it all. -/
theorem one_out {G' : Cx} {x y : V} (h : ∀ v, vOk G x v → vOk G' y v) : (∀ cs, tCells G (.v x) cs → tCells G' (.v y) cs) ∧ (∀ v, tVal1 G (.v x) v → tVal1 G' (.v y) v) :=
  ⟨fun cs ⟨c, e1, e2, e3⟩ => ⟨c, e1, e2, h c e3⟩, h⟩

theorem bindD_out {d : D} {q : Nat} {r : Option Nat} {k : D → Prop} {im : Nat → Prop} {taken : Hp} (hd : DI w0 F0 G nx im d taken) (h : bindD d q r k) : ∃ d', k d' ∧ DI w0 F0 G nx im d' taken ∧ Le im im d d' ∧ mapF d'.map q = some r := by
  unfold bindD at h
  split at h
  · next hlt =>
    have hlt : q < d.n := by simpa [Nat.blt_eq] using hlt
    rcases bindK_out h with ⟨h1, h2⟩ | ⟨h1, h2⟩
    · have hne : ∀ q' r', mapF d.map q' = some r' → Nat.beq q q' = false := fun q' r' hq => by
        refine nat_beq_ne ?_
        rintro rfl
        rw [h1] at hq
        cases hq
      refine ⟨_, h2, ⟨hd.mdl, hd.im, fun q' r' hq => ?_, hd.lentIn⟩, ⟨rfl, fun _ h => h, fun q' r' hq => ?_, fun _ h => h⟩, ?_⟩
      · unfold mapF at hq
        split at hq
        · next hb => rw [← nat_beq_eq hb]; exact hlt
        · exact hd.lt q' r' hq
      · unfold mapF
        rw [hne q' r' hq]
        exact hq
      · unfold mapF
        rw [nat_beq_self]
    · exact ⟨d, h2, hd, Le.refl _ _, h1⟩
  · exact h.elim

theorem freezeK_out {e : El} {r : Nat} {d : D} {k : List e.ty → D → Prop} {im : Nat → Prop} {taken : Hp} (hd : DI w0 F0 G nx im d taken) (h : freezeK e r d k) :
    ∃ xs d' im', k xs d' ∧ DI w0 F0 G nx im' d' taken ∧ Le im im' d d' ∧ ∀ G', Compat G im' d' G' → ∀ v, vOk G (.own r) v → vOk G' (.rd e xs) v := by
  unfold freezeK at h
  obtain ⟨c, hc, h⟩ := lookK_out h
  split at h
  · next ty e' xs =>
    obtain ⟨l1, c0, l2, hl, h2⟩ := updK_out h
    obtain rfl := castK_eq h2
    have hk := castK_self h2
    have hc0 := mem_split_upd hc hl (nodup_left hd.mdl.ids)
    subst hc0
    have hmd := hd.mdl
    rw [hl, List.append_assoc, List.cons_append] at hmd
    obtain ⟨b, hr, hck⟩ := hmd.chunk r (.row ty e' xs) (by simp)
    have hf := hmd.freeze hr
    refine ⟨xs, _, fun k => im k ∨ (b.nil = false ∧ k = b.blk), hk, ⟨by rw [List.append_assoc, List.cons_append]; exact hf, fun b hb => Or.inl (hd.im b hb), hd.lt, fun r' hr' => ?_⟩, ⟨rfl, fun b hb => Or.inl hb, fun _ _ h => h, fun _ h => h⟩, fun G' hG v hv => ?_⟩
    · obtain ⟨c, hc', hor⟩ := hd.lentIn r' hr'
      rw [hl] at hc'
      rcases List.mem_append.1 hc' with hm | hm
      · exact ⟨c, by simp [hm], hor.imp id fun h b hb hn => Or.inl (h b hb hn)⟩
      · rcases List.mem_cons.1 hm with hm | hm
        · cases hm
          refine ⟨.fz ty e' xs, by simp, .inr fun b' hb' hn => ?_⟩
          have hr : G.rho r = some b := hr
          rw [hr] at hb'
          cases hb'
          exact Or.inr ⟨hn, rfl⟩
        · exact ⟨c, by simp [hm], hor.imp id fun h b hb hn => Or.inl (h b hb hn)⟩
    · exact fz_value (G := G) (ty := ty) hf (by simp) hG.w hG.im hv
  · next ty e' xs =>
    obtain rfl := castK_eq h
    have hk := castK_self h
    exact ⟨xs, d, im, hk, hd, Le.refl _ _, fun G' hG v hv => fz_value (G := G) (ty := ty) hd.mdl (by simp [hc]) hG.w hG.im hv⟩
  · exact h.elim

theorem frzK_out {r : Nat} {d : D} {k : D → Prop} {im : Nat → Prop} {taken : Hp} (hd : DI w0 F0 G nx im d taken) (h : frzK r d k) :
    ∃ d' im', k d' ∧ DI w0 F0 G nx im' d' taken ∧ Le im im' d d' := by
  unfold frzK at h
  obtain ⟨c, hc, h⟩ := lookK_out h
  split at h
  · next ty e' xs =>
    obtain ⟨l1, c0, l2, hl, h2⟩ := updK_out h
    have hc0 := mem_split_upd hc hl (nodup_left hd.mdl.ids)
    subst hc0
    have hmd := hd.mdl
    rw [hl, List.append_assoc, List.cons_append] at hmd
    obtain ⟨b, hr, hck⟩ := hmd.chunk r (.row ty e' xs) (by simp)
    have hf := hmd.freeze hr
    refine ⟨_, fun k => im k ∨ (b.nil = false ∧ k = b.blk), h2, ⟨by rw [List.append_assoc, List.cons_append]; exact hf, fun b hb => Or.inl (hd.im b hb), hd.lt, fun r' hr' => ?_⟩, ⟨rfl, fun b hb => Or.inl hb, fun _ _ h => h, fun _ h => h⟩⟩
    obtain ⟨c, hc', hor⟩ := hd.lentIn r' hr'
    rw [hl] at hc'
    rcases List.mem_append.1 hc' with hm | hm
    · exact ⟨c, by simp [hm], hor.imp id fun h b hb hn => Or.inl (h b hb hn)⟩
    · rcases List.mem_cons.1 hm with hm | hm
      · cases hm
        refine ⟨.fz ty e' xs, by simp, .inr fun b' hb' hn => ?_⟩
        have hr : G.rho r = some b := hr
        rw [hr] at hb'
        cases hb'
        exact Or.inr ⟨hn, rfl⟩
      · exact ⟨c, by simp [hm], hor.imp id fun h b hb hn => Or.inl (h b hb hn)⟩
  · exact ⟨d, im, h, hd, Le.refl _ _⟩
  · exact h.elim

/-- A slice that is looked at. -/
theorem lend_out {e : El} {x : V} {d : D} {k : List e.ty → List Nat → Prop} {im : Nat → Prop} {taken : Hp} (hd : DI w0 F0 G nx im d taken) (h : rdK e d.hp x fun xs => lentK d.hp x fun l => k xs l) :
    ∃ xs l, k xs l ∧ (∀ r, r ∈ l → ∃ c, (r, c) ∈ d.hp ∧ c.rw = true) ∧ ∀ G', Compat G im ⟨d.n, d.hp, d.map, l ++ d.lent⟩ G' → ∀ v, vOk G x v → vOk G' (.rd e xs) v := by
  have hx0 : Ext G ⟨G.rho, im, G.w⟩ := ⟨fun _ _ h => h, hd.im, fun _ _ => rfl, Nat.le_refl _⟩
  have hmd : Mdl w0 F0 ⟨G.rho, im, G.w⟩ d.hp nx := hd.mdl.sub (fun p hp => by simp [hp]) (nodup_left hd.mdl.ids)
  obtain ⟨xs, hk, hkk⟩ := rdK_det e d.hp x _ h
  have hk2 : ∃ l, k xs l ∧ (∀ r, r ∈ l → ∃ c, (r, c) ∈ d.hp ∧ c.rw = true) ∧ ∀ r, (x = .own r ∨ ∃ p off len sz, x = .sl r p off len sz) → ∀ c, (r, c) ∈ d.hp → c.rw = true → r ∈ l := by
    have look : ∀ r, (lookK d.hp r fun c => match c.rw with
        | true => k xs [r]
        | false => k xs []) → ∃ l, k xs l ∧ (∀ r, r ∈ l → ∃ c, (r, c) ∈ d.hp ∧ c.rw = true) ∧ ∀ c, (r, c) ∈ d.hp → c.rw = true → r ∈ l := by
      intro r h
      obtain ⟨c, hc, h2⟩ := lookK_out h
      cases hrw : c.rw with
      | true =>
        rw [hrw] at h2
        exact ⟨[r], h2, fun r' hr' => by simp at hr'; subst hr'; exact ⟨c, hc, hrw⟩, fun _ _ _ => by simp⟩
      | false =>
        rw [hrw] at h2
        refine ⟨[], h2, fun r' hr' => (by cases hr'), fun c' hc' hrw' => ?_⟩
        obtain ⟨l1, l2, hl⟩ := List.append_of_mem hc
        have := mem_split_upd hc' hl (nodup_left hd.mdl.ids)
        subst this
        rw [hrw] at hrw'
        cases hrw'
    cases x with
    | own r =>
      obtain ⟨l, h1, h2, h3⟩ := look r hk
      exact ⟨l, h1, h2, fun r' hr' c hc hrw => by
        rcases hr' with hr' | ⟨_, _, _, _, hr'⟩ <;> cases hr'
        exact h3 c hc hrw⟩
    | sl r p off len sz =>
      obtain ⟨l, h1, h2, h3⟩ := look r hk
      exact ⟨l, h1, h2, fun r' hr' c hc hrw => by
        rcases hr' with hr' | ⟨_, _, _, _, hr'⟩ <;> cases hr'
        exact h3 c hc hrw⟩
    | _ => exact ⟨[], hk, fun r hr => (by cases hr), fun r hr => by rcases hr with hr | ⟨_, _, _, _, hr⟩ <;> cases hr⟩
  obtain ⟨l, hkl, hin, hall⟩ := hk2
  refine ⟨xs, l, hkl, hin, fun G' hG v hv => ?_⟩
  obtain ⟨ys, e1, hold⟩ := rdK_out hmd (hx0.vOk hv) (hkk (fun ys => ys = xs) rfl)
  subst e1
  obtain ⟨A, c, rfl, q2, q3, q4⟩ := hold
  refine ⟨A, c, rfl, q2, q3, fun hp => ?_⟩
  obtain ⟨b, oo, css, rfl, m1, m2⟩ := q4 hp
  have m1 : cellsAt G.w b oo css := m1
  have m2 : listOf (cellsOf im G.w e) ys css := m2
  have hfin : G'.im b → b < G.w.heap.size → ∃ b' o' css', (some (⟨b, oo, none⟩ : Addr)) = some ⟨b', o', none⟩ ∧ G'.im b' ∧ b' < G'.w.heap.size ∧ cellsAt G'.w b' o' css' ∧ listOf (cellsOf G'.im G'.w e) ys css' := fun h1 h2 =>
    ⟨b, oo, css, rfl, h1, by rw [hG.w]; exact h2, by rw [hG.w]; exact m1, list_move hG.w hG.im m2⟩
  -- a block that is one of ours
  have ours : ∀ (r : Nat) (ch : Chunk) (bb : B), (x = .own r ∨ ∃ p off len sz, x = .sl r p off len sz) → (r, ch) ∈ d.hp → G.rho r = some bb → bb.nil = false → (ch.rw = false → 0 < bb.len) → G'.im bb.blk ∧ bb.blk < G.w.heap.size := by
    intro r ch bb hx hch hr hn hlen
    obtain ⟨b', hr', hck⟩ := hmd.chunk r ch hch
    have hr' : G.rho r = some b' := hr'
    obtain rfl : bb = b' := Option.some.inj (hr.symm.trans hr')
    cases ch with
    | own t => exact ⟨hG.lent r bb (by simp [hall r hx _ hch rfl]) hr hn, (hmd.mine r _ bb hch rfl hr hn).2.1⟩
    | row ty e' xs => exact ⟨hG.lent r bb (by simp [hall r hx _ hch rfl]) hr hn, (hmd.mine r _ bb hch rfl hr hn).2.1⟩
    | fz ty e' xs =>
      obtain ⟨q1, _, _, q4⟩ := hck
      obtain ⟨_, z2, z3, _⟩ := q4 (hlen rfl)
      exact ⟨hG.im _ z2, z3⟩
  unfold rdK at h
  split at h
  · obtain ⟨A', c', e1, _, _, e4⟩ := hv
    simp at e1
    obtain rfl := castK_eq h
    have hxs := castK_self (show castK _ _ _ (fun ys' => ys' = ys) from (hkk (fun ys' => ys' = ys) rfl))
    subst hxs
    obtain ⟨b', o', css', k1, k2, k3, _⟩ := e4 hp
    rw [← e1.1] at k1
    simp at k1
    obtain ⟨rfl, rfl⟩ := k1
    exact hfin (hG.im _ (hd.im _ k2)) k3
  · cases hv
  · next r =>
    obtain ⟨ch, hch, h2⟩ := lookK_out h
    obtain ⟨bb, hr, hck⟩ := hmd.chunk r ch hch
    have hr : G.rho r = some bb := hr
    obtain ⟨b', k1, k2⟩ := hv
    obtain rfl : bb = b' := Option.some.inj (hr.symm.trans k1)
    have hn : bb.nil = false := by
      cases hb : bb.nil with
      | false => rfl
      | true => rw [hb] at k2; simp at k2
    rw [hn] at k2
    simp at k2
    obtain ⟨z1, z2⟩ := ours r ch bb (.inl rfl) hch hr hn (fun _ => by omega)
    obtain ⟨⟨rfl, rfl⟩, _⟩ := k2
    exact hfin z1 z2
  · next r p off len sz =>
    obtain ⟨ch, hch, h2⟩ := lookK_out h
    obtain ⟨bb, hr, hck⟩ := hmd.chunk r ch hch
    have hr : G.rho r = some bb := hr
    obtain ⟨b', c', A', k1, _, _, k4, k5⟩ := hv
    obtain rfl : bb = b' := Option.some.inj (hr.symm.trans k1)
    simp at k4
    obtain ⟨rfl, hlen, rfl⟩ := k4
    obtain ⟨hn, hA⟩ := k5 (by omega)
    simp at hA
    obtain ⟨z1, z2⟩ := ours r ch bb (.inr ⟨p, off, len, sz, rfl⟩) hch hr hn (fun hrw => by
      cases ch with
      | own t => cases hrw
      | row ty e' xs => cases hrw
      | fz ty e' xs =>
        obtain ⟨q1, _, _, q4⟩ := hck
        by_cases h0 : 0 < bb.len
        · exact h0
        · have hxs : xs = [] := List.eq_nil_of_length_eq_zero (by omega)
          subst hxs
          exfalso
          cases p with
          | nil =>
            simp only [tgetK, Chunk.tree] at h2
            split at h2
            · have := h2.1
              simp at this
              omega
            · exact h2
          | cons st p =>
            cases st with
            | f i o => simp only [tgetK, Chunk.tree] at h2; cases i <;> simp [fieldK] at h2
            | x i sz' =>
              simp only [tgetK, Chunk.tree] at h2
              split at h2
              · exact absurd h2.1 (by simp)
              · exact h2)
    obtain ⟨rfl, rfl⟩ := hA
    exact hfin z1 z2
  · exact h.elim

end
end Go.J

set_option linter.unusedSimpArgs false
set_option linter.unusedVariables false
set_option linter.unusedSectionVars false

namespace Go.J

section
variable {w0 : World} {F0 : Base} {G : Cx} {nx : Nat}

/-- A pointer whose content is looked at. -/
theorem rp_value {e : El} {x : e.ty} {G' : Cx} {b o : Nat} {cs : List Value} (hc : cellsOf G'.im G'.w e x cs) (hat : cellsAt G'.w b o cs) (him : G'.im b) (hlt : b < G'.w.heap.size) : vOk G' (.rp e [x] 0 []) (.pointer (some ⟨b, o, none⟩)) :=
  ⟨by simp, b, o, cs, by simp [poff], him, hlt, hat, cs, [], by simp, hc, rfl⟩

theorem dec_out : ∀ (s : Sh) (t : T) (d : D) (k : (∀ R : Type, R → s.add R) → D → Prop) (im : Nat → Prop) (taken : Hp), DI w0 F0 G nx im d taken → Sh.dec s t d k → ∃ f d', k f d' ∧ Out w0 F0 G nx s t d taken im f d' := by
  intro s
  induction s with
  | el e =>
    intro t d k im taken hd h
    have plain : (decK e t [] fun x => k (fun _ r => (x, r)) d) → ∃ f d', k f d' ∧ Out w0 F0 G nx (.el e) t d taken im f d' := fun h => by
      obtain ⟨x, hk, hx⟩ := dec_el (G := G) h
      exact ⟨_, d, hk, im, hd, Le.refl _ _, e.enc x, fun _ _ => rfl, fun G' hG => hx im G' hG.w hd.im hG.im⟩
    cases e with
    | rd e =>
      cases t with
      | v y =>
        cases y with
        | own r =>
          obtain ⟨xs, d', im', hk, hd', hle, hv⟩ := freezeK_out hd (show freezeK e r d fun xs d => k (fun _ r => (xs, r)) d from h)
          exact ⟨_, d', hk, im', hd', hle, .v (.rd e xs), fun _ _ => rfl, fun G' hG => one_out (hv G' hG)⟩
        | sl r p off len sz =>
          obtain ⟨d', im', h1, hd', hle⟩ := frzK_out hd (show frzK r d fun d => rdK e d.hp (.sl r p off len sz) fun xs => lentK d.hp (.sl r p off len sz) fun l => match l with
            | [] => k (fun _ r => (xs, r)) d
            | _ => False from h)
          obtain ⟨xs, l, hk, hin, hv⟩ := lend_out (k := fun xs l => match l with
            | [] => k (fun _ r => (xs, r)) d'
            | _ => False) hd' h1
          cases l with
          | nil => exact ⟨_, d', hk, im', hd', hle, .v (.rd e xs), fun _ _ => rfl, fun G' hG => one_out (hv G' hG)⟩
          | cons _ _ => exact hk.elim
        | _ => exact plain h
      | _ => exact plain h
    | _ => exact plain (by simpa only [Sh.dec] using h)
  | lend e =>
    intro t d k im taken hd h
    cases t with
    | v x =>
      obtain ⟨xs, l, hk, hin, hv⟩ := lend_out hd (show rdK e d.hp x fun xs => lentK d.hp x fun l => k (fun _ r => (xs, r)) ⟨d.n, d.hp, d.map, l ++ d.lent⟩ from h)
      exact ⟨_, _, hk, im, ⟨hd.mdl, hd.im, hd.lt, fun r hr => (List.mem_append.1 hr).elim (fun h => (hin r h).imp fun c h => ⟨h.1, .inl h.2⟩) (hd.lentIn r)⟩, ⟨rfl, fun _ h => h, fun _ _ h => h, fun r hr => by simp [hr]⟩, .v (.rd e xs), fun _ _ => rfl, fun G' hG => one_out (hv G' hG)⟩
    | _ => exact h.elim
  | rp e =>
    intro t d k im taken hd h
    cases t with
    | v x =>
      cases x with
      | rp e' xs i p =>
        obtain ⟨t2, h2, hx2⟩ := tgetK_out (show tgetK p (e'.enc (xs.getD i e'.dflt)) fun t => decK e t [] fun x => k (fun _ r => (x, r)) d from h)
        obtain ⟨x, hk, hx⟩ := decK_out h2
        refine ⟨_, d, hk, im, hd, Le.refl _ _, .v (.rp e [x] 0 []), fun _ _ => rfl, fun G' hG => one_out fun v hv => ?_⟩
        obtain ⟨h0, b, oo, css, rfl, k2, k3, k4, k5⟩ := hv
        obtain ⟨m1, m2⟩ := enc_getD k5 h0
        obtain ⟨m3, m4⟩ := hx2 G _ m1
        have hcs := cells_move hG.w (fun b hb => hG.im b (hd.im b hb)) (hx G _ m3)
        exact rp_value hcs (by rw [hG.w]; exact (k4.drop (i * e'.sz) e'.sz).drop (poff p) t2.size) (hG.im b (hd.im b k2)) (by rw [hG.w]; exact k3)
      | ptr r p =>
        simp only [Sh.dec] at h
        obtain ⟨c, hc, h0⟩ := lookK_out h
        have go : ∀ d' : D, d'.n = d.n → d'.hp = d.hp → d'.map = d.map → (∀ r', r' ∈ d'.lent → r' ∈ d.lent ∨ (r' = r ∧ c.rw = true)) → (∀ r', r' ∈ d.lent → r' ∈ d'.lent) → (c.rw = true → r ∈ d'.lent) → (c.rw = false → p ≠ []) →
            (tgetK p c.tree fun t => decK e t [] fun x => k (fun _ r => (x, r)) d') → ∃ f d', k f d' ∧ Out w0 F0 G nx (.rp e) (.v (.ptr r p)) d taken im f d' := by
          intro d' en ehp emap hl1 hl2 hl3 hpc h1
          obtain ⟨t2, h2, hx2⟩ := tgetK_out h1
          obtain ⟨x, hk, hx⟩ := decK_out h2
          refine ⟨_, d', hk, im, ⟨by rw [ehp]; exact hd.mdl, hd.im, fun q r hq => by rw [en]; rw [emap] at hq; exact hd.lt q r hq, fun r' hr' => ?_⟩, ⟨en, fun _ h => h, fun _ _ h => by rw [emap]; exact h, hl2⟩, .v (.rp e [x] 0 []), fun _ _ => rfl, fun G' hG => one_out fun v hv => ?_⟩
          · rw [ehp]
            rcases hl1 r' hr' with h | ⟨rfl, hrw⟩
            · exact hd.lentIn r' h
            · exact ⟨c, hc, .inl hrw⟩
          obtain ⟨b, k1, k2, rfl⟩ := hv
          obtain ⟨b', hr, hck⟩ := hd.mdl.chunk r c (by simp [hc])
          have hr : G.rho r = some b' := hr
          obtain rfl : b = b' := Option.some.inj (k1.symm.trans hr)
          obtain ⟨cs, q1, q2⟩ := tree_cells hck
          obtain ⟨m3, m4⟩ := hx2 _ _ q1
          have hcells := hx _ _ m3
          have hcs := cells_move (G := G) hG.w hG.im hcells
          have hboth : G'.im b.blk ∧ b.blk < G.w.heap.size := by
            cases c with
            | own t => exact ⟨hG.lent r b (hl3 rfl) hr k2, (hd.mdl.mine r (.own t) b (by simp [hc]) rfl hr k2).2.1⟩
            | row ty e' xs => exact ⟨hG.lent r b (hl3 rfl) hr k2, (hd.mdl.mine r (.row ty e' xs) b (by simp [hc]) rfl hr k2).2.1⟩
            | fz ty e' xs =>
              obtain ⟨z1, z2, z3, z4⟩ := hck
              by_cases h0 : 0 < b.len
              · exact ⟨hG.im _ (z4 h0).2.1, (z4 h0).2.2.1⟩
              · exfalso
                have hxs : xs = [] := List.eq_nil_of_length_eq_zero (by omega)
                subst hxs
                cases p with
                | nil => exact hpc rfl rfl
                | cons st p =>
                  cases st with
                  | f i o => simp only [tgetK, Chunk.tree] at h1; cases i <;> simp [fieldK] at h1
                  | x i sz' =>
                    simp only [tgetK, Chunk.tree] at h1
                    split at h1
                    · exact absurd h1.1 (by simp)
                    · exact h1
          obtain ⟨hlent, hlt⟩ := hboth
          by_cases hne : cs = []
          · subst hne
            simp only [List.drop_nil, List.take_nil] at hcs
            exact rp_value hcs (fun j v hv => by simp at hv) hlent (by rw [hG.w]; exact hlt)
          · have h5 := (q2 hne).2.drop (poff p) t2.size
            rw [Nat.zero_add] at h5
            exact rp_value hcs (by rw [hG.w]; exact h5) hlent (by rw [hG.w]; exact hlt)
        cases hrw : c.rw with
        | true =>
          rw [hrw] at h0
          exact go ⟨d.n, d.hp, d.map, r :: d.lent⟩ rfl rfl rfl (fun r' hr' => (List.mem_cons.1 hr').elim (fun e => .inr ⟨e, hrw⟩) .inl) (fun r' hr' => by simp [hr']) (fun _ => by simp) (fun h => by rw [hrw] at h; cases h) h0
        | false =>
          rw [hrw] at h0
          cases p with
          | nil => exact h0.elim
          | cons st p => exact go d rfl rfl rfl (fun _ h => .inl h) (fun _ h => h) (fun h => by rw [hrw] at h; cases h) (fun _ => by simp) h0
      | _ => exact h.elim
    | _ => exact h.elim
  | own q =>
    intro t d k im taken hd h
    cases t with
    | v x =>
      cases x with
      | own r =>
        obtain ⟨d', hk, hd', hle, hmap⟩ := bindD_out hd (show bindD d q (some r) fun d => k (fun _ r => r) d from h)
        refine ⟨_, d', hk, im, hd', hle, .v (.own q), fun _ _ => rfl, fun G' hG => one_out fun v hv => ?_⟩
        obtain ⟨b, k1, k2⟩ := hv
        exact ⟨b, (hG.rho q _ hmap).trans k1, k2⟩
      | nils =>
        obtain ⟨d', hk, hd', hle, hmap⟩ := bindD_out hd (show bindD d q none fun d => k (fun _ r => r) d from h)
        refine ⟨_, d', hk, im, hd', hle, .v (.own q), fun _ _ => rfl, fun G' hG => one_out fun v hv => ?_⟩
        exact ⟨nilB, hG.rho q _ hmap, hv⟩
      | _ => exact h.elim
    | _ => exact h.elim
  | ref q =>
    intro t d k im taken hd h
    cases t with
    | v x =>
      cases x with
      | ptr r p =>
        cases p with
        | nil =>
          obtain ⟨d', hk, hd', hle, hmap⟩ := bindD_out hd (show bindD d q (some r) fun d => k (fun _ r => r) d from h)
          refine ⟨_, d', hk, im, hd', hle, .v (.ptr q []), fun _ _ => rfl, fun G' hG => one_out fun v hv => ?_⟩
          obtain ⟨b, k1, k2, k3⟩ := hv
          exact ⟨b, (hG.rho q _ hmap).trans k1, k2, k3⟩
        | cons _ _ => exact h.elim
      | _ => exact h.elim
    | _ => exact h.elim
  | any =>
    intro t d k im taken hd h
    cases t with
    | v x => exact ⟨_, d, h, im, hd, Le.refl _ _, .v .any, fun _ _ => rfl, fun G' hG => one_out fun _ _ => trivial⟩
    | _ => exact h.elim
  | nil =>
    intro t d k im taken hd h
    cases t with
    | nil => exact ⟨_, d, h, im, hd, Le.refl _ _, .nil, fun _ _ => rfl, fun G' hG => ⟨fun _ h => h, fun _ h => h⟩⟩
    | _ => exact h.elim
  | cons s ss ih1 ih2 =>
    intro t d k im taken hd h
    cases t with
    | cons t ts =>
      obtain ⟨f, d1, h1, im1, hd1, hle1, t1, e1, hv1⟩ := ih1 t d _ im taken hd (show s.dec t d fun f d => ss.dec ts d fun g d => k (fun R r => f _ (g R r)) d by simpa only [Sh.dec, forceD_eq] using h)
      obtain ⟨g, d2, h2, im2, hd2, hle2, t2, e2, hv2⟩ := ih2 ts d1 _ im1 taken hd1 h1
      refine ⟨_, d2, h2, im2, hd2, hle1.trans hle2, .cons t1 t2, fun R r => ?_, fun G' hG => ?_⟩
      · simp only [Sh.enc, e1, e2]
      · have hc : ∀ cs, tCells G (.cons t ts) cs → tCells G' (.cons t1 t2) cs := fun cs ⟨c1, c2, e, k1, k2⟩ => ⟨c1, c2, e, (hv1 G' (hG.le hle2)).1 _ k1, (hv2 G' hG).1 _ k2⟩
        exact ⟨hc, fun v ⟨cs, e, hcs⟩ => ⟨cs, e, hc cs hcs⟩⟩
    | _ => exact h.elim

end
end Go.J

set_option linter.unusedSimpArgs false
set_option linter.unusedVariables false
set_option linter.unusedSectionVars false

namespace Go.J

section
variable {w0 : World} {F0 : Base} {G : Cx} {nx : Nat}

theorem tVal_from1 {t : T} {v : Value} (h : tVal1 G t v) : tVal G t v := by
  cases t with
  | tup ts => exact h.elim
  | _ => exact h

theorem dec_tup {s : Sh} {ts : T} {d : D} {k : (∀ R : Type, R → s.add R) → D → Prop} (h : Sh.dec s (.tup ts) d k) : False := by
  cases s with
  | el e => cases e <;> exact h
  | _ => exact h

theorem decs_out : ∀ (ss : List Sh) (ts : List T) (d : D) (k : (∀ R : Type, R → Sh.adds ss R) → D → Prop) (im : Nat → Prop) (taken : Hp), DI w0 F0 G nx im d taken → Sh.decs ss ts d k →
    ∃ f d' im', k f d' ∧ DI w0 F0 G nx im' d' taken ∧ Le im im' d d' ∧ ∃ ts', (∀ (R : Type) (r : R), Sh.encs id ss (f R r) = (ts', r)) ∧ ∀ G', Compat G im' d' G' → ∀ vs : List Value, frOk G ts ⟨vs⟩ → frOk G' ts' ⟨vs⟩
  | [], [], d, k, im, taken, hd, h => ⟨_, d, im, h, hd, Le.refl _ _, [], fun _ _ => rfl, fun G' hG vs ⟨h1, _⟩ => ⟨h1, fun i t ht => by simp at ht⟩⟩
  | [], _ :: _, _, _, _, _, _, h => h.elim
  | _ :: _, [], _, _, _, _, _, h => h.elim
  | s :: ss, t :: ts, d, k, im, taken, hd, h => by
    obtain ⟨f, d1, h1, im1, hd1, hle1, t1, e1, hv1⟩ := dec_out s t d _ im taken hd (show s.dec t d fun f d => Sh.decs ss ts d fun g d => k (fun R r => f _ (g R r)) d by simpa only [Sh.decs, forceD_eq] using h)
    obtain ⟨g, d2, im2, h2, hd2, hle2, ts2, e2, hv2⟩ := decs_out ss ts d1 _ im1 taken hd1 h1
    refine ⟨_, d2, im2, h2, hd2, hle1.trans hle2, t1 :: ts2, fun R r => by simp only [Sh.encs, e1, e2], fun G' hG vs hf => ?_⟩
    cases vs with
    | nil => have := hf.1; simp at this
    | cons v vs =>
      obtain ⟨k1, k2⟩ := frOk_cons.1 hf
      refine frOk_cons.2 ⟨?_, hv2 G' hG vs k2⟩
      refine tVal_from1 ((hv1 G' (hG.le hle2)).2 v ?_)
      cases t with
      | tup us => exact (dec_tup h).elim
      | _ => exact k1

theorem notIn_out {r : Nat} : ∀ {l : List Nat}, notIn r l = true → r ∉ l
  | [], _ => by simp
  | x :: l, h => by
    simp only [notIn, Bool.and_eq_true, Bool.not_eq_true'] at h
    intro hm
    rcases List.mem_cons.1 hm with rfl | hm
    · rw [nat_beq_self] at h; cases h.1
    · exact notIn_out h.2 hm

/-- What telling a block gives. -/
structure COut (w0 : World) (F0 : Base) (G : Cx) (nx : Nat) (c : CSh) (q : Nat) (d : D) (taken : Hp) (im : Nat → Prop) (f : ∀ R : Type, R → c.add R) (d' : D) (im' : Nat → Prop) (c' : Chunk) (src : Option (Nat × Chunk)) : Prop where
  di : DI w0 F0 G nx im' d' (taken ++ src.toList)
  le : Le im im' d d'
  enc : ∀ (R : Type) (r : R), c.enc id (f R r) = (c', r)
  rw : c'.rw = true
  map : mapF d.map q = some (src.map (·.1))
  lent : ∀ p, src = some p → p.2.rw = true ∧ p.1 ∉ d'.lent
  ok : ∀ G' b, Compat G im' d' G' → (∀ p, src = some p → G.rho p.1 = some b) → (src = none → b = nilB) → chunkOk G' c' b

theorem Mdl.swap {hp1 : Hp} {im : Nat → Prop} {l1 l2 : Hp} {r : Nat} {c : Chunk} (h : Mdl w0 F0 ⟨G.rho, im, G.w⟩ ((l1 ++ (r, c) :: l2) ++ hp1) nx) : Mdl w0 F0 ⟨G.rho, im, G.w⟩ ((l1 ++ l2) ++ (hp1 ++ [(r, c)])) nx := by
  refine h.sub (fun p hp => ?_) ?_
  · simp at hp ⊢
    rcases hp with h | h | h | h <;> simp [h]
  · have hn := h.ids
    have hp : (((l1 ++ l2) ++ (hp1 ++ [(r, c)])).map (·.1)).Perm (((l1 ++ (r, c) :: l2) ++ hp1).map (·.1)) := by
      refine List.Perm.map _ ?_
      rw [← List.append_assoc]
      refine (List.perm_append_comm).trans ?_
      simp only [List.nil_append, List.append_assoc, List.cons_append]
      exact (List.perm_middle).symm
    exact hp.nodup_iff.2 hn

theorem chunk_out (c : CSh) (q : Nat) (d : D) (k : (∀ R : Type, R → c.add R) → D → Prop) (im : Nat → Prop) (taken : Hp) (hd : DI w0 F0 G nx im d taken) (h : CSh.dec c q d k) :
    ∃ f d' im' c' src, k f d' ∧ COut w0 F0 G nx c q d taken im f d' im' c' src := by
  unfold CSh.dec at h
  obtain ⟨r, hmap, h⟩ := mapK_out h
  cases r with
  | none =>
    cases c with
    | row ty e =>
      refine ⟨_, d, im, .row ty e [], none, h, by simpa using hd, Le.refl _ _, fun _ _ => rfl, rfl, hmap, fun p hp => (by cases hp), fun G' b hG _ hb => ?_⟩
      rw [hb rfl]
      exact ⟨rfl, by simp [nilB], [], ⟨by simp, .inl ⟨rfl, rfl⟩⟩, rfl⟩
    | own s => exact h.elim
  | some r =>
    dsimp only at h
    cases hni : notIn r d.lent with
    | false => rw [hni] at h; exact h.elim
    | true =>
      rw [hni] at h
      have hni := notIn_out hni
      obtain ⟨ch, hch, h⟩ := lookK_out h
      obtain ⟨l1, c0, l2, hl, h⟩ := delK_out h
      have hc0 := mem_split_upd hch hl (nodup_left hd.mdl.ids)
      subst hc0
      have hmd : Mdl w0 F0 ⟨G.rho, im, G.w⟩ ((l1 ++ l2) ++ (taken ++ [(r, ch)])) nx := by
        have := hd.mdl
        rw [hl] at this
        exact this.swap
      have hdi : DI w0 F0 G nx im ⟨d.n, l1 ++ l2, d.map, d.lent⟩ (taken ++ [(r, ch)]) := ⟨hmd, hd.im, hd.lt, fun r' hr' => by
        obtain ⟨c', hc', hor⟩ := hd.lentIn r' hr'
        rw [hl] at hc'
        rcases List.mem_append.1 hc' with hm | hm
        · exact ⟨c', by simp [hm], hor⟩
        · rcases List.mem_cons.1 hm with hm | hm
          · cases hm; exact (hni hr').elim
          · exact ⟨c', by simp [hm], hor⟩⟩
      have hchunk : ∀ b, G.rho r = some b → chunkOk ⟨G.rho, im, G.w⟩ ch b := fun b hb => by
        obtain ⟨b', hr', hck⟩ := hmd.chunk r ch (by simp)
        have hr' : G.rho r = some b' := hr'
        obtain rfl : b = b' := Option.some.inj (hb.symm.trans hr')
        exact hck
      cases c with
      | row ty e =>
        cases ch with
        | row ty' e' xs =>
          dsimp only at h
          split at h
          · next hty =>
            obtain rfl := nat_beq_eq hty
            obtain rfl := castK_eq h
            have hk := castK_self h
            refine ⟨_, _, im, .row ty' e' xs, some (r, .row ty' e' xs), hk, hdi, ⟨rfl, fun _ h => h, fun _ _ h => h, fun _ h => h⟩, fun _ _ => rfl, rfl, hmap, fun p hp => by cases hp; exact ⟨rfl, hni⟩, fun G' b hG hb _ => ?_⟩
            obtain ⟨q1, q2, css, q3, q4⟩ := hchunk b (hb _ rfl)
            have q3 : G.w.ownsRow 0 ty' e'.sz b.val xs.length css := q3
            exact ⟨q1, q2, css, by rw [hG.w]; exact q3, list_move hG.w hG.im q4⟩
          · exact h.elim
        | _ => exact h.elim
      | own s =>
        cases ch with
        | own t =>
          have hdi' : DI w0 F0 ⟨G.rho, im, G.w⟩ nx im ⟨d.n, l1 ++ l2, d.map, d.lent⟩ (taken ++ [(r, Chunk.own t)]) := ⟨hmd, fun _ h => h, hd.lt, hdi.lentIn⟩
          obtain ⟨f, d', hk, im', hd', hle, t', henc, hv⟩ := dec_out (G := ⟨G.rho, im, G.w⟩) s t _ k im _ hdi' h
          refine ⟨f, d', im', .own t', some (r, .own t), hk, ⟨hd'.mdl, fun b hb => hle.im b (hd.im b hb), hd'.lt, hd'.lentIn⟩, ⟨hle.n, hle.im, hle.map, hle.lent⟩, fun R x => by simp only [CSh.enc, henc], rfl, hmap, fun p hp => ?_, fun G' b hG hb _ => ?_⟩
          · cases hp
            refine ⟨rfl, fun hin => ?_⟩
            obtain ⟨c', hc', _⟩ := hd'.lentIn r hin
            have hnd := hd'.mdl.ids
            rw [List.map_append, List.nodup_append] at hnd
            exact hnd.2.2 r (List.mem_map.2 ⟨_, hc', rfl⟩) r (by simp) rfl
          · obtain ⟨q1, cs, ty, q2, q3⟩ := hchunk b (hb _ rfl)
            have q2 : G.w.heap[b.blk]? = some (.cells ⟨cs⟩ ty (0, 0)) := q2
            exact ⟨q1, cs, ty, by rw [hG.w]; exact q2, (hv G' ⟨hG.w, hG.im, hG.rho, hG.lent⟩).1 cs q3⟩
        | _ => exact h.elim

/-- All blocks: each with what it stands for. -/
structure SOut (w0 : World) (F0 : Base) (G : Cx) (nx : Nat) (cs : List (Nat × CSh)) (d : D) (taken : Hp) (im : Nat → Prop) (f : ∀ R : Type, R → CSh.adds cs R) (d' : D) (im' : Nat → Prop) (L : List (Nat × Chunk × Option (Nat × Chunk))) : Prop where
  di : DI w0 F0 G nx im' d' (taken ++ L.filterMap (·.2.2))
  le : Le im im' d d'
  enc : ∀ (R : Type) (r : R), CSh.encs id cs (f R r) = (L.map fun p => (p.1, p.2.1), r)
  ids : L.map (·.1) = cs.map (·.1)
  each : ∀ p, p ∈ L → p.2.1.rw = true ∧ mapF d'.map p.1 = some (p.2.2.map (·.1)) ∧ (∀ s, p.2.2 = some s → s.2.rw = true ∧ s.1 ∉ d'.lent) ∧
    ∀ G' b, Compat G im' d' G' → (∀ s, p.2.2 = some s → G.rho s.1 = some b) → (p.2.2 = none → b = nilB) → chunkOk G' p.2.1 b

theorem chunks_out : ∀ (cs : List (Nat × CSh)) (d : D) (k : (∀ R : Type, R → CSh.adds cs R) → D → Prop) (im : Nat → Prop) (taken : Hp), DI w0 F0 G nx im d taken → CSh.decs cs d k →
    ∃ f d' im' L, k f d' ∧ SOut w0 F0 G nx cs d taken im f d' im' L
  | [], d, k, im, taken, hd, h => ⟨_, d, im, [], h, by simpa using hd, Le.refl _ _, fun _ _ => rfl, rfl, fun p hp => (by cases hp)⟩
  | (q, c) :: cs, d, k, im, taken, hd, h => by
    obtain ⟨f, d1, im1, c', src, h1, o1⟩ := chunk_out c q d _ im taken hd (show c.dec q d fun f d => CSh.decs cs d fun g d => k (fun R r => f _ (g R r)) d by simpa only [CSh.decs, forceD_eq] using h)
    obtain ⟨g, d2, im2, L, h2, o2⟩ := chunks_out cs d1 _ im1 _ o1.di h1
    refine ⟨_, d2, im2, (q, c', src) :: L, h2, ?_, o1.le.trans o2.le, fun R r => by simp only [CSh.encs, o1.enc, o2.enc]; rfl, by simp [o2.ids], fun p hp => ?_⟩
    · have := o2.di
      cases src with
      | none => simpa using this
      | some s => simpa [List.append_assoc] using this
    · rcases List.mem_cons.1 hp with rfl | hp
      · refine ⟨o1.rw, o2.le.map _ _ (o1.le.map _ _ o1.map), fun s hs => ⟨(o1.lent s hs).1, fun hin => ?_⟩, fun G' b hG hb hn => o1.ok G' b (hG.le o2.le) hb hn⟩
        have hs : src = some s := hs
        subst hs
        obtain ⟨c2, hc2, _⟩ := o2.di.lentIn s.1 hin
        have hnd := o2.di.mdl.ids
        rw [List.map_append, List.nodup_append] at hnd
        exact hnd.2.2 s.1 (List.mem_map.2 ⟨_, hc2, rfl⟩) s.1 (by simp) rfl
      · exact o2.each p hp

theorem idsOk_out : ∀ {cs : List (Nat × CSh)}, idsOk cs = true → (cs.map (·.1)).Nodup
  | [], _ => by simp
  | (q, c) :: cs, h => by
    simp only [idsOk, Bool.and_eq_true] at h
    have fresh : ∀ {cs : List (Nat × CSh)}, idsOk.fresh q cs = true → q ∉ cs.map (·.1) := by
      intro cs
      induction cs with
      | nil => simp
      | cons p cs ih =>
        intro hf
        obtain ⟨q', c'⟩ := p
        simp only [idsOk.fresh, Bool.and_eq_true, Bool.not_eq_true'] at hf
        simp only [List.map_cons, List.mem_cons, not_or]
        refine ⟨?_, ih hf.2⟩
        rintro rfl
        rw [nat_beq_self] at hf
        cases hf.1
    simp only [List.map_cons, List.nodup_cons]
    exact ⟨fresh h.1, idsOk_out h.2⟩

end
end Go.J

set_option linter.unusedSimpArgs false
set_option linter.unusedVariables false
set_option linter.unusedSectionVars false

namespace Go.J

section
variable {w0 : World} {F0 : Base} {G : Cx} {nx : Nat}

/-- The context that knows the state by the ghosts' numbers. -/
def ctxOf (G : Cx) (im : Nat → Prop) (d : D) : Cx :=
  ⟨fun q => match mapF d.map q with
    | some r => tgt G r
    | none => none, fun b => im b ∨ ∃ r b0, r ∈ d.lent ∧ G.rho r = some b0 ∧ b0.nil = false ∧ b = b0.blk, G.w⟩

theorem ctxOf_compat (im : Nat → Prop) (d : D) : Compat G im d (ctxOf G im d) :=
  ⟨rfl, fun b h => .inl h, fun q r h => by simp [ctxOf, h], fun r b h1 h2 h3 => .inr ⟨r, b, h1, h2, h3, rfl⟩⟩

/-- A state that was told by its ghosts. -/
structure Told (w0 : World) (F0 : Base) (G : Cx) (nx n : Nat) (cs : List (Nat × CSh)) (ss : List Sh) (map : List (Nat × Option Nat)) (ts : List T) (x : Gh cs ss) (d : D) (im' : Nat → Prop) (L : List (Nat × Chunk × Option (Nat × Chunk))) : Prop where
  di : DI w0 F0 G nx im' d (L.filterMap (·.2.2))
  n : d.n = n
  map : ∀ q r, mapF map q = some r → mapF d.map q = some r
  cells : (CSh.encs id cs x).1 = L.map fun p => (p.1, p.2.1)
  ids : L.map (·.1) = cs.map (·.1)
  each : ∀ p, p ∈ L → p.2.1.rw = true ∧ mapF d.map p.1 = some (p.2.2.map (·.1)) ∧ (∀ s, p.2.2 = some s → s.2.rw = true ∧ s.1 ∉ d.lent) ∧
    ∀ G' b, Compat G im' d G' → (∀ s, p.2.2 = some s → G.rho s.1 = some b) → (p.2.2 = none → b = nilB) → chunkOk G' p.2.1 b
  vals : ∀ G', Compat G im' d G' → ∀ vs : List Value, frOk G ts ⟨vs⟩ → frOk G' (Sh.encs id ss (CSh.encs id cs x).2).1 ⟨vs⟩

theorem st_told {cs : List (Nat × CSh)} {ss : List Sh} {ts : List T} {hp : Hp} {n : Nat} {map : List (Nat × Option Nat)} {k : Gh cs ss → D → Prop} (hm : Mdl w0 F0 G hp nx) (hlt : ∀ q r, mapF map q = some r → q < n) (h : decSt cs ss ts hp n map k) :
    ∃ x d im' L, k x d ∧ Told w0 F0 G nx n cs ss map ts x d im' L := by
  have hd : DI w0 F0 G nx G.im ⟨n, hp, map, []⟩ [] := ⟨by simpa using hm, fun _ h => h, hlt, fun r hr => by cases hr⟩
  obtain ⟨f, d1, im1, h1, hd1, hle1, ts', e1, hv1⟩ := decs_out ss ts _ _ _ _ hd h
  obtain ⟨g, d2, im2, L, h2, o⟩ := chunks_out cs d1 _ im1 [] hd1 h1
  rw [ghF_eq] at h2
  have henc := o.enc _ (f Unit ())
  refine ⟨_, d2, im2, L, h2, by simpa using o.di, o.le.n.trans hle1.n, fun q r hq => o.le.map q r (hle1.map q r hq), by rw [henc], o.ids, o.each, fun G' hG vs hf => ?_⟩
  rw [henc]
  simp only [e1]
  exact hv1 G' (hG.le o.le) vs hf

/-- Where a block of the new numbers lies. -/
theorem Told.src {n : Nat} {cs : List (Nat × CSh)} {ss : List Sh} {map : List (Nat × Option Nat)} {ts : List T} {x : Gh cs ss} {d : D} {im' : Nat → Prop} {L : List (Nat × Chunk × Option (Nat × Chunk))} (h : Told w0 F0 G nx n cs ss map ts x d im' L)
    {p : Nat × Chunk × Option (Nat × Chunk)} (hp : p ∈ L) : ∃ b, (ctxOf G im' d).rho p.1 = some b ∧ (∀ s, p.2.2 = some s → G.rho s.1 = some b ∧ (s.1, s.2) ∈ d.hp ++ L.filterMap (·.2.2)) ∧ (p.2.2 = none → b = nilB) := by
  obtain ⟨h1, h2, h3, h4⟩ := h.each p hp
  cases hs : p.2.2 with
  | none =>
    refine ⟨nilB, ?_, fun s hs' => (by cases hs'), fun _ => rfl⟩
    rw [hs] at h2
    simp only [ctxOf, h2]
    rfl
  | some s =>
    rw [hs] at h2
    have hmem : (s.1, s.2) ∈ d.hp ++ L.filterMap (·.2.2) := by
      simp only [List.mem_append, List.mem_filterMap]
      exact .inr ⟨p, hp, hs⟩
    obtain ⟨b, hr, _⟩ := h.di.mdl.chunk s.1 s.2 hmem
    refine ⟨b, ?_, fun s' hs' => ?_, fun hn => by cases hn⟩
    · simp only [ctxOf, h2]
      exact hr
    · cases hs'
      exact ⟨hr, hmem⟩

theorem Told.apart {n : Nat} {cs : List (Nat × CSh)} {ss : List Sh} {map : List (Nat × Option Nat)} {ts : List T} {x : Gh cs ss} {d : D} {im' : Nat → Prop} {L : List (Nat × Chunk × Option (Nat × Chunk))} (h : Told w0 F0 G nx n cs ss map ts x d im' L)
    {p1 p2 : Nat × Chunk × Option (Nat × Chunk)} (h1 : p1 ∈ L) (h2 : p2 ∈ L) (hne : p1 ≠ p2) {s1 s2 : Nat × Chunk} (e1 : p1.2.2 = some s1) (e2 : p2.2.2 = some s2) : s1.1 ≠ s2.1 := by
  intro he
  have hnd0 := h.di.mdl.ids
  rw [List.map_append] at hnd0
  have hnd := (List.nodup_append.1 hnd0).2.1
  clear h hnd0
  induction L with
  | nil => cases h1
  | cons p L ih =>
    have key : ∀ {p q : Nat × Chunk × Option (Nat × Chunk)} {s t : Nat × Chunk}, ((p :: L).filterMap (·.2.2) |>.map (·.1)).Nodup → q ∈ L → p.2.2 = some s → q.2.2 = some t → s.1 = t.1 → False := by
      intro p q s t hn hq hs ht hst
      rw [List.filterMap_cons_some (by exact hs), List.map_cons, List.nodup_cons] at hn
      exact hn.1 (List.mem_map.2 ⟨t, List.mem_filterMap.2 ⟨q, hq, ht⟩, hst.symm⟩)
    rcases List.mem_cons.1 h1 with e3 | h3 <;> rcases List.mem_cons.1 h2 with e4 | h4
    · exact hne (e3.trans e4.symm)
    · subst e3; exact key hnd h4 e1 e2 he
    · subst e4; exact key hnd h3 e2 e1 he.symm
    · refine ih h3 h4 ?_
      cases hp : p.2.2 with
      | none => rwa [List.filterMap_cons_none (by exact hp)] at hnd
      | some s =>
        rw [List.filterMap_cons_some (by exact hp), List.map_cons, List.nodup_cons] at hnd
        exact hnd.2

theorem Told.mem {n : Nat} {cs : List (Nat × CSh)} {ss : List Sh} {map : List (Nat × Option Nat)} {ts : List T} {x : Gh cs ss} {d : D} {im' : Nat → Prop} {L : List (Nat × Chunk × Option (Nat × Chunk))} (h : Told w0 F0 G nx n cs ss map ts x d im' L)
    {q : Nat} {c : Chunk} (hm : (q, c) ∈ (CSh.encs id cs x).1) : ∃ s, (q, c, s) ∈ L := by
  rw [h.cells] at hm
  obtain ⟨p, hp, e⟩ := List.mem_map.1 hm
  cases e
  exact ⟨p.2.2, hp⟩

theorem Told.inj {n : Nat} {cs : List (Nat × CSh)} {ss : List Sh} {map : List (Nat × Option Nat)} {ts : List T} {x : Gh cs ss} {d : D} {im' : Nat → Prop} {L : List (Nat × Chunk × Option (Nat × Chunk))} (h : Told w0 F0 G nx n cs ss map ts x d im' L) (hids : idsOk cs = true) :
    ((CSh.encs id cs x).1.map (·.1)).Nodup := by
  have : (CSh.encs id cs x).1.map (·.1) = cs.map (·.1) := by
    rw [h.cells, List.map_map, ← h.ids]
    rfl
  rw [this]
  exact idsOk_out hids

/-- The lent blocks, and those that nobody writes, are no blocks of ours. -/
theorem Told.notIm {n : Nat} {cs : List (Nat × CSh)} {ss : List Sh} {map : List (Nat × Option Nat)} {ts : List T} {x : Gh cs ss} {d : D} {im' : Nat → Prop} {L : List (Nat × Chunk × Option (Nat × Chunk))} (h : Told w0 F0 G nx n cs ss map ts x d im' L)
    {p : Nat × Chunk × Option (Nat × Chunk)} (hp : p ∈ L) {s : Nat × Chunk} (hs : p.2.2 = some s) {b : B} (hr : G.rho s.1 = some b) (hn : b.nil = false) : ¬ (ctxOf G im' d).im b.blk := by
  obtain ⟨_, _, h3, _⟩ := h.each p hp
  obtain ⟨hrw, hni⟩ := h3 s hs
  have hmem : (s.1, s.2) ∈ d.hp ++ L.filterMap (·.2.2) := by
    simp only [List.mem_append, List.mem_filterMap]
    exact .inr ⟨p, hp, hs⟩
  have hmi := h.di.mdl.mine s.1 s.2 b hmem hrw hr hn
  rintro (hi | ⟨r, b0, k1, k2, k3, k5⟩)
  · exact hmi.2.2 hi
  · obtain ⟨c, hc, hor⟩ := h.di.lentIn r k1
    have hne : s.1 ≠ r := by rintro rfl; exact hni k1
    rcases hor with hcr | him
    · exact h.di.mdl.apart s.1 s.2 r c b b0 hmem (by simp [hc]) hne hrw hcr hr k2 hn k3 k5
    · exact hmi.2.2 (k5 ▸ him b0 k2 k3)


/-- The state, in the ghosts' numbers, is the same state. -/
theorem Told.mdl {n : Nat} {cs : List (Nat × CSh)} {ss : List Sh} {map : List (Nat × Option Nat)} {ts : List T} {x : Gh cs ss} {d : D} {im' : Nat → Prop} {L : List (Nat × Chunk × Option (Nat × Chunk))} (h : Told w0 F0 G nx n cs ss map ts x d im' L) (hids : idsOk cs = true) :
    Mdl w0 F0 (ctxOf G im' d) (CSh.encs id cs x).1 n := by
  have hm := h.di.mdl
  have hlt : ∀ q b, (ctxOf G im' d).rho q = some b → q < n := fun q b hq => by
    cases hf : mapF d.map q with
    | none => simp [ctxOf, hf] at hq
    | some r => rw [← h.n]; exact h.di.lt q r hf
  refine ⟨hm.os, hm.tape, hm.output, hm.size, hm.keep, fun b hb => ?_, fun q hq => ?_, fun q c hqc => ?_, h.inj hids, fun q1 c1 q2 c2 b1 b2 h1 h2 hne hw1 hw2 hr1 hr2 hn1 hn2 => ?_, fun q c b hqc hw hr hn => ?_, fun b hb => ?_⟩
  · rcases hb with hb | ⟨r, b0, k1, k2, k3, rfl⟩
    · exact hm.imLt b hb
    · obtain ⟨c, hc, hor⟩ := h.di.lentIn r k1
      rcases hor with hrw | him
      · exact (hm.mine r c b0 (by simp [hc]) hrw k2 k3).2.1
      · exact hm.imLt _ (him b0 k2 k3)
  · cases hr : (ctxOf G im' d).rho q with
    | none => rfl
    | some b => have := hlt q b hr; omega
  · obtain ⟨s, hs⟩ := h.mem hqc
    obtain ⟨b, hb, hsrc, hnil⟩ := h.src hs
    exact ⟨b, hb, (h.each _ hs).2.2.2 _ b (ctxOf_compat im' d) (fun s hs => (hsrc s hs).1) hnil⟩
  · obtain ⟨s1, hs1⟩ := h.mem h1
    obtain ⟨s2, hs2⟩ := h.mem h2
    obtain ⟨b1', hb1, hsrc1, hnil1⟩ := h.src hs1
    obtain ⟨b2', hb2, hsrc2, hnil2⟩ := h.src hs2
    obtain rfl : b1 = b1' := Option.some.inj (hr1.symm.trans hb1)
    obtain rfl : b2 = b2' := Option.some.inj (hr2.symm.trans hb2)
    cases s1 with
    | none => rw [hnil1 rfl] at hn1; cases hn1
    | some s1 =>
      cases s2 with
      | none => rw [hnil2 rfl] at hn2; cases hn2
      | some s2 =>
        obtain ⟨e1, m1⟩ := hsrc1 s1 rfl
        obtain ⟨e2, m2⟩ := hsrc2 s2 rfl
        exact hm.apart s1.1 s1.2 s2.1 s2.2 b1 b2 m1 m2 (h.apart hs1 hs2 (fun e => hne (by cases e; rfl)) rfl rfl) ((h.each _ hs1).2.2.1 s1 rfl).1 ((h.each _ hs2).2.2.1 s2 rfl).1 e1 e2 hn1 hn2
  · obtain ⟨s, hs⟩ := h.mem hqc
    obtain ⟨b', hb, hsrc, hnil⟩ := h.src hs
    obtain rfl : b = b' := Option.some.inj (hr.symm.trans hb)
    cases s with
    | none => rw [hnil rfl] at hn; cases hn
    | some s =>
      obtain ⟨e1, m1⟩ := hsrc s rfl
      have hmi := hm.mine s.1 s.2 b m1 ((h.each _ hs).2.2.1 s rfl).1 e1 hn
      exact ⟨hmi.1, hmi.2.1, h.notIm hs rfl e1 hn⟩
  · rcases hb with hb | ⟨r, b0, k1, k2, k3, rfl⟩
    · exact hm.imNew b hb
    · obtain ⟨c, hc, hor⟩ := h.di.lentIn r k1
      rcases hor with hrw | him
      · exact .inr (hm.mine r c b0 (by simp [hc]) hrw k2 k3).1
      · exact hm.imNew _ (him b0 k2 k3)

theorem Told.ext0 {n : Nat} {cs : List (Nat × CSh)} {ss : List Sh} {map : List (Nat × Option Nat)} {ts : List T} {x : Gh cs ss} {d : D} {im' : Nat → Prop} {L : List (Nat × Chunk × Option (Nat × Chunk))} (h : Told w0 F0 G nx n cs ss map ts x d im' L) : Ext0 G (ctxOf G im' d) :=
  ⟨fun b hb => .inl (h.di.im b hb), fun _ _ => rfl, Nat.le_refl _⟩

theorem anchors_map : ∀ {n q : Nat}, q < n → mapF (anchors n) q = some (some q)
  | 0, q, h => by omega
  | n + 1, q, h => by
    unfold anchors mapF
    by_cases hq : n = q
    · subst hq; rw [nat_beq_self]
    · rw [nat_beq_ne hq]
      exact anchors_map (by omega)
theorem anchors_lt : ∀ {n q : Nat} {r : Option Nat}, mapF (anchors n) q = some r → q < n
  | 0, q, r, h => by simp [anchors, mapF] at h
  | n + 1, q, r, h => by
    unfold anchors mapF at h
    by_cases hq : n = q
    · omega
    · rw [nat_beq_ne hq] at h
      have := anchors_lt h
      omega

/-- The function's own blocks keep their numbers. -/
theorem Told.anchor {n na : Nat} {cs : List (Nat × CSh)} {ss : List Sh} {ts : List T} {x : Gh cs ss} {d : D} {im' : Nat → Prop} {L : List (Nat × Chunk × Option (Nat × Chunk))} (h : Told w0 F0 G nx n cs ss (anchors na) ts x d im' L) {q : Nat} (hq : q < na) : (ctxOf G im' d).rho q = G.rho q := by
  have := h.map q _ (anchors_map hq)
  simp [ctxOf, this, tgt]

end
end Go.J

set_option linter.unusedSimpArgs false
set_option linter.unusedVariables false
set_option linter.unusedSectionVars false

namespace Go.J

section
variable {P : Program} {E : Env} {w0 : World} {F0 : Base} {G : Cx} {nx : Nat}

/-! Lengths. -/
theorem El.lens_of : ∀ (e : El) (x : e.ty) (K : Prop) (im : Nat → Prop) (w : World) (cs : List Value), cellsOf im w e x cs → e.lensK x K → K
  | .rd e, x, K, im, w, cs, ⟨A, c, _, h1, h2, _⟩, h => h (Nat.le_trans h1 h2)
  | .cons e es, x, K, im, w, cs, ⟨c1, c2, _, k1, k2⟩, h => El.lens_of es x.2 K im w c2 k2 (El.lens_of e x.1 _ im w c1 k1 h)
  | .u8, _, _, _, _, _, _, h => h
  | .int _, _, _, _, _, _, _, h => h
  | .bool, _, _, _, _, _, _, h => h
  | .str, _, _, _, _, _, _, h => h
  | .nil, _, _, _, _, _, _, h => h
  | .ar _ _, _, _, _, _, _, _, h => h

theorem Sh.lens_of (ρ : Nat → Nat) : ∀ (s : Sh) {R : Type} (x : s.add R) (k : R → Prop) (cs : List Value), tCells G (s.enc ρ x).1 cs → s.lensK x k → k (s.enc ρ x).2
  | .el e, _, x, k, cs, hc, h => El.lens_of e x.1 _ _ _ cs ((tCells_enc e x.1 cs).1 hc) h
  | .lend e, _, x, k, cs, ⟨c, _, _, A, cc, _, h1, h2, _⟩, h => h (Nat.le_trans h1 h2)
  | .rp e, _, x, k, cs, ⟨c, _, _, _, b, o, css, _, _, _, _, c1, c2, _, k1, _⟩, h => El.lens_of e x.1 _ _ _ c1 k1 h
  | .own _, _, _, _, _, _, h => h
  | .ref _, _, _, _, _, _, h => h
  | .any, _, _, _, _, _, h => h
  | .nil, _, _, _, _, _, h => h
  | .cons s ss, _, x, k, cs, ⟨c1, c2, _, k1, k2⟩, h => Sh.lens_of ρ ss _ k c2 k2 (Sh.lens_of ρ s x _ c1 k1 h)

theorem Sh.lens_val (ρ : Nat → Nat) (s : Sh) {R : Type} (x : s.add R) (k : R → Prop) (v : Value) (hv : tVal G (s.enc ρ x).1 v) (h : s.lensK x k) : k (s.enc ρ x).2 := by
  cases s with
  | el e =>
    cases e with
    | rd e => obtain ⟨A, c, _, h1, h2, _⟩ := hv; exact h (Nat.le_trans h1 h2)
    | cons e es => obtain ⟨cs, _, hc⟩ := hv; exact Sh.lens_of (G := G) ρ (.el (.cons e es)) x k cs hc h
    | _ => exact h
  | lend e => obtain ⟨A, c, _, h1, h2, _⟩ := hv; exact h (Nat.le_trans h1 h2)
  | rp e => obtain ⟨_, b, o, css, _, _, _, _, c1, c2, _, k1, _⟩ := hv; exact El.lens_of e x.1 _ _ _ c1 k1 h
  | cons s ss => obtain ⟨cs, _, hc⟩ := hv; exact Sh.lens_of (G := G) ρ (.cons s ss) x k cs hc h
  | _ => exact h

theorem Sh.lenss_of (ρ : Nat → Nat) : ∀ (ss : List Sh) {R : Type} (x : Sh.adds ss R) (k : R → Prop) (vs : List Value), frOk G (Sh.encs ρ ss x).1 ⟨vs⟩ → Sh.lenssK ss x k → k (Sh.encs ρ ss x).2
  | [], _, _, _, _, _, h => h
  | s :: ss, _, x, k, vs, hf, h => by
    cases vs with
    | nil => have := hf.1; simp [Sh.encs] at this
    | cons v vs =>
      obtain ⟨h1, h2⟩ := frOk_cons.1 hf
      exact Sh.lenss_of ρ ss _ k vs h2 (Sh.lens_val ρ s x _ v h1 h)

theorem CSh.lenss_of (ρ : Nat → Nat) : ∀ (cs : List (Nat × CSh)) {R : Type} (x : CSh.adds cs R) (k : R → Prop), (∀ q c, (q, c) ∈ (CSh.encs ρ cs x).1 → ∃ b, chunkOk G c b) → CSh.lenssK cs x k → k (CSh.encs ρ cs x).2
  | [], _, _, _, _, h => h
  | (q, c) :: cs, _, x, k, hc, h => by
    refine CSh.lenss_of ρ cs _ k (fun q' c' hm => hc q' c' (by simp [CSh.encs, hm])) ?_
    obtain ⟨b, hb⟩ := hc (ρ q) _ (by simp only [CSh.encs]; exact List.mem_cons_self ..)
    cases c with
    | row ty e =>
      obtain ⟨A, c, _, h1, h2, _⟩ := own_row hb
      exact h (Nat.le_trans h1 h2)
    | own s =>
      obtain ⟨_, cs', ty, _, k3⟩ := hb
      exact Sh.lens_of ρ s x _ cs' k3 h

theorem ghK_out {cs : List (Nat × CSh)} {ss : List Sh} {x : Gh cs ss} {K : Prop} {n : Nat} {vs : List Value} (hm : Mdl w0 F0 G (CSh.encs id cs x).1 n) (hf : frOk G (Sh.encs id ss (CSh.encs id cs x).2).1 ⟨vs⟩) (h : ghK cs ss x K) : K := by
  have h1 := CSh.lenss_of id cs x _ (fun q c hqc => (hm.chunk q c hqc).imp fun b hb => hb.2) h
  exact Sh.lenss_of id ss _ _ vs hf h1

/-! What stays, from the function's start on. -/
structure Since (na : Nat) (G G' : Cx) : Prop where
  ext : Ext0 G G'
  rho : ∀ q, q < na → ∀ b, G.rho q = some b → G'.rho q = some b
theorem Since.refl (na : Nat) (G : Cx) : Since na G G := ⟨Ext0.refl G, fun _ _ _ h => h⟩
theorem Since.trans {na : Nat} {G G' G2 : Cx} (h : Since na G G') (k : Since na G' G2) : Since na G G2 := ⟨h.ext.trans k.ext, fun q hq b hb => k.rho q hq b (h.rho q hq b hb)⟩
theorem Ext.since {na : Nat} {G G' : Cx} (h : Ext G G') : Since na G G' := ⟨h.zero, fun q _ b hb => h.rho q b hb⟩

theorem tt_of {b : Bool} {G : Cx} {v : Value} (h : tVal G (.v (.bool b)) v) : tVal G (.v (if b then .tt else .ff)) v := by
  cases b <;> exact h

/-- A guard, told apart. -/
theorem guardK_out {ops : List Oper} {fr : List T} {g : Option (Nat × Bool)} {yes no : List T → Prop} {vs : Array Value} (hf : frOk G fr vs) (h : guardK ops fr g yes no) :
    (g = none ∧ yes fr) ∨ (∃ j want d, g = some (j, want) ∧ (ops[j]?).bind (·.dst) = some d ∧ vs[d]? = some undef ∧ no fr) ∨ ∃ j want d b fr', g = some (j, want) ∧ (ops[j]?).bind (·.dst) = some d ∧ vs[d]? = some (.bool b) ∧ frOk G fr' vs ∧ (if b = want then yes fr' else no fr') := by
  unfold guardK at h
  split at h
  · exact .inl ⟨rfl, h⟩
  · next j want =>
    obtain ⟨d, hd, h2⟩ := slotK_out h
    obtain ⟨x, hx, h3⟩ := lgetK_out h2
    obtain ⟨v, hv, hvt⟩ := hf.2 d x hx
    by_cases hx0 : x = .tup .nil
    · subst hx0
      obtain ⟨vs', hv', rfl⟩ := hvt
      exact .inr (.inl ⟨j, want, d, rfl, hd, by rw [hv, hv']; rfl, h3⟩)
    refine .inr (.inr ⟨j, want, d, ?_⟩)
    split at h3
    · have hvt : v = .bool true := hvt
      exact ⟨true, fr, rfl, hd, by rw [hv, hvt], hf, by cases want <;> simpa using h3⟩
    · have hvt : v = .bool false := hvt
      exact ⟨false, fr, rfl, hd, by rw [hv, hvt], hf, by cases want <;> simpa using h3⟩
    · next b =>
      have hvt : v = .bool b := hvt
      subst hvt
      have hset : ∀ y : T, tVal G y (.bool b) → frOk G (fr.set d y) vs := fun y hy => by
        have hdl : d < vs.size := (Array.getElem?_eq_some_iff.1 hv).1
        have := hf.set (i := d) (t := y) (v := .bool b) hy
        rwa [show vs.setIfInBounds d (.bool b) = vs from by
          apply Array.ext'
          have hg : vs[d] = .bool b := (Array.getElem?_eq_some_iff.1 hv).2
          rw [Array.setIfInBounds_def, dif_pos hdl, ← hg]
          simp] at this
      cases b with
      | true =>
        cases want with
        | true =>
          obtain ⟨_, h4⟩ := lsetK_out (h3.1 rfl)
          exact ⟨true, _, rfl, hd, hv, hset (.v .tt) rfl, by simpa using h4⟩
        | false =>
          obtain ⟨_, h4⟩ := lsetK_out (h3.1 rfl)
          exact ⟨true, _, rfl, hd, hv, hset (.v .tt) rfl, by simpa using h4⟩
      | false =>
        cases want with
        | true =>
          obtain ⟨_, h4⟩ := lsetK_out (h3.2 rfl)
          exact ⟨false, _, rfl, hd, hv, hset (.v .ff) rfl, by simpa using h4⟩
        | false =>
          obtain ⟨_, h4⟩ := lsetK_out (h3.2 rfl)
          exact ⟨false, _, rfl, hd, hv, hset (.v .ff) rfl, by simpa using h4⟩
    · exact (hx0 rfl).elim
    · exact h3.elim

theorem putK_frame {fr : List T} {dst : Option Tmp} {x : T} {k : List T → Prop} {a : Act} {v : Value} (hf : frOk G fr a.tmps) (hv : tVal G x v) (h : putK fr dst x k) : ∃ fr', k fr' ∧ frOk G fr' (a.put dst v).tmps := by
  unfold putK at h
  cases dst with
  | none => exact ⟨fr, h, hf⟩
  | some d =>
    obtain ⟨h1, h2⟩ := lsetK_out h
    exact ⟨_, h2, hf.set hv⟩

theorem ops_ok (hE : EnvOk P E) {ops : Array Oper} {Q : Exit → Act → World → Prop} {k : List T → Hp → Nat → Prop} {G0 : Cx} {ds : List Deferred}
    (hQ : ∀ a G fr hp nx, Mdl w0 F0 G hp nx → Ext G0 G → frOk G fr a.tmps → a.defers = ds → k fr hp nx → Q .normal a G.w) :
    ∀ (os : List Oper) (i : Nat), (∀ j, ops.toList[i + j]? = os[j]?) → ∀ (fr : List T) (hp : Hp) (nx : Nat) (a : Act) (G : Cx), Mdl w0 F0 G hp nx → Ext G0 G → frOk G fr a.tmps → a.defers = ds →
      denOps E ops.toList os fr hp nx k → wpOps P ops Q (List.range' i os.length) a G.w
  | [], i, _, fr, hp, nx, a, G, hm, hx, hf, hds, h => hQ a G fr hp nx hm hx hf hds h
  | o :: os, i, hi, fr, hp, nx, a, G, hm, hx, hf, hds, h => by
    have ho : ops[i]? = some o := by have := hi 0; simpa using this
    have hrest : ∀ j, ops.toList[i + 1 + j]? = os[j]? := fun j => by
      have := hi (j + 1)
      rw [show i + 1 + j = i + (j + 1) by omega]
      simpa using this
    have ih := ops_ok hE hQ os (i + 1) hrest
    rw [List.length_cons, List.range'_succ, wpOps_cons]
    unfold wpOp
    rw [ho]
    simp only []
    have yes : ∀ fr : List T, frOk G fr a.tmps → (denOp E o.op fr hp nx fun x hp nx => putK fr o.dst x fun fr => denOps E ops.toList os fr hp nx k) → o.wp P a G.w (wpOps P ops Q (List.range' (i + 1) os.length)) Q := fun fr hf h =>
      op_ok hE hm hf h _ Q fun G' x v hp' nx' hx' hm' hv hk => by
        obtain ⟨fr', h2, hf'⟩ := putK_frame (hf.ext hx') hv hk
        exact ih fr' hp' nx' _ G' hm' (hx.trans hx') hf' (put_defs.trans hds) h2
    have no : ∀ fr : List T, frOk G fr a.tmps → (putK fr o.dst (.tup .nil) fun fr => denOps E ops.toList os fr hp nx k) → wpOps P ops Q (List.range' (i + 1) os.length) (a.put o.dst undef) G.w := fun fr hf h => by
      obtain ⟨fr', h2, hf'⟩ := putK_frame (x := .tup .nil) (v := undef) hf ⟨[], rfl, rfl⟩ h
      exact ih fr' hp nx _ G hm hx hf' (put_defs.trans hds) h2
    have h : guardK ops.toList fr o.guard (fun fr => denOp E o.op fr hp nx fun x hp nx => putK fr o.dst x fun fr => denOps E ops.toList os fr hp nx k) (fun fr => putK fr o.dst (.tup .nil) fun fr => denOps E ops.toList os fr hp nx k) := h
    rcases guardK_out hf h with ⟨h1, h2⟩ | ⟨j, want, d, h1, h2, h3, h4⟩ | ⟨j, want, d, b, fr', h1, h2, h3, h4, h5⟩
    · rw [if_pos (by simp [Region.wanted, h1])]
      exact .inl (yes fr hf h2)
    · have hw : Region.wanted o (yielded ops a.tmps) = false := by
        have h2' : (ops[j]?).bind (·.dst) = some d := by simpa using h2
        have hy : yielded ops a.tmps j = none := by
          unfold yielded
          rw [h2', Option.bind_some, h3]
          rfl
        simp only [Region.wanted, h1, hy]
        rfl
      rw [hw]
      rw [if_neg (by simp)]
      exact no fr hf h4
    · have hy : yielded ops a.tmps j = some b := by
        have h2' : (ops[j]?).bind (·.dst) = some d := by simpa using h2
        unfold yielded
        rw [h2', Option.bind_some, h3]
      have hw : Region.wanted o (yielded ops a.tmps) = (b == want) := by
        simp only [Region.wanted, h1, hy]
        cases b <;> cases want <;> rfl
      rw [hw]
      by_cases hb : b = want
      · subst hb
        rw [if_pos rfl] at h5
        rw [if_pos (by simp)]
        exact .inl (yes fr' h4 h5)
      · rw [if_neg hb] at h5
        rw [if_neg (by simpa using hb)]
        exact no fr' h4 h5

theorem getsK_out {fr : List T} {vs : Array Value} (hf : frOk G fr vs) : ∀ {l : List (Nat × Sh)} {k : List T → Prop}, getsK fr l k → ∃ ts, k ts ∧ frOk G ts ⟨l.map fun p => vs.getD p.1 undef⟩
  | [], k, h => ⟨[], h, rfl, fun i t ht => by simp at ht⟩
  | (i, s) :: l, k, h => by
    obtain ⟨t, ht, h1⟩ := lgetK_out h
    obtain ⟨ts, h2, hts⟩ := getsK_out hf (l := l) (k := fun ts => k (t :: ts)) h1
    obtain ⟨v, hv, hvt⟩ := hf.2 i t ht
    refine ⟨_, h2, ?_⟩
    rw [List.map_cons]
    refine frOk_cons.2 ⟨?_, hts⟩
    have : vs.getD i undef = v := by simp [Array.getD, (Array.getElem?_eq_some_iff.1 hv).1, (Array.getElem?_eq_some_iff.1 hv).2]
    rw [this]
    exact hvt

theorem anys_eq : ∀ fr : List T, anys fr = List.replicate fr.length (.v .any)
  | [] => rfl
  | _ :: l => by simp [anys, anys_eq l, List.replicate_succ]

theorem frOk_anys {fr : List T} {vs : Array Value} (h : fr.length = vs.size) : frOk G (anys fr) vs := by
  rw [anys_eq]
  refine ⟨by simpa using h, fun i t ht => ?_⟩
  have hi := (List.getElem?_eq_some_iff.1 ht).1
  simp at hi
  simp [List.getElem?_replicate, hi] at ht
  subst ht
  exact ⟨vs[i]'(by omega), by simp [show i < vs.size by omega], trivial⟩

theorem setsK_out {vs : Array Value} : ∀ {l : List (Nat × Sh)} {ts : List T} {fr : List T} {k : List T → Prop}, frOk G fr vs → frOk G ts ⟨l.map fun p => vs.getD p.1 undef⟩ → setsK fr l ts k → ∃ fr', k fr' ∧ frOk G fr' vs
  | [], ts, fr, k, hf, _, h => ⟨fr, by cases ts <;> exact h, hf⟩
  | _ :: _, [], _, _, _, _, h => h.elim
  | (i, s) :: l, t :: ts, fr, k, hf, ht, h => by
    obtain ⟨h1, h2⟩ := lsetK_out h
    rw [List.map_cons] at ht
    obtain ⟨k1, k2⟩ := frOk_cons.1 ht
    refine setsK_out ?_ k2 h2
    have hlt : i < vs.size := by rw [← hf.1]; exact h1
    have := hf.set (i := i) (t := t) (v := vs.getD i undef) k1
    rwa [show vs.setIfInBounds i (vs.getD i undef) = vs from by
      apply Array.ext'
      rw [Array.setIfInBounds_def, dif_pos hlt]
      simp [Array.getD, hlt]] at this

end
end Go.J

set_option linter.unusedSimpArgs false
set_option linter.unusedVariables false
set_option linter.unusedSectionVars false

namespace Go.J

section
variable {P : Program} {E : Env} {w0 : World} {F0 : Base}

theorem planAtK_out {k : Plan → Prop} : ∀ {l : List (Nat × Plan)} {i : Nat}, planAtK l i k → ∃ p, planAt l i = some p ∧ k p
  | [], _, h => h.elim
  | (j, a) :: l, i, h => by
    unfold planAtK at h
    unfold planAt
    split at h
    · exact ⟨a, rfl, h⟩
    · exact planAtK_out h
theorem annK_out {k : Ann → Prop} : ∀ {l : List (Nat × Ann)} {i : Nat}, annK l i k → ∃ a, k a
  | [], _, h => h.elim
  | (j, a) :: l, i, h => by
    unfold annK at h
    split at h
    · exact ⟨a, h⟩
    · exact annK_out h

theorem code_ok (hE : EnvOk P E) (hmix : P.follows .mixedOrders = true) {na : Nat} {hi : Hints} : ∀ (c : Code), codeOk hi.plans c = true → ∀ (fr : List T) (hp : Hp) (nx : Nat) (K : Exit → List T → Hp → Nat → Prop) (a : Act) (G : Cx) (Q : Exit → Act → World → Prop),
    Mdl w0 F0 G hp nx → frOk G fr a.tmps →
    (∀ e fr hp nx a' G', Mdl w0 F0 G' hp nx → Since na G G' → frOk G' fr a'.tmps → a'.defers = a.defers → K e fr hp nx → Q e a' G'.w) →
    denC E na hi c fr hp nx K → c.wp P Q a G.w := by
  intro c
  induction c with
  | skip => intro _ fr hp nx K a G Q hm hf hQ h; exact wp_skip (hQ _ _ _ _ _ _ hm (Since.refl na G) hf rfl h)
  | region id ops d =>
    intro hok fr hp nx K a G Q hm hf hQ h
    cases d with
    | false =>
      refine wp_region ?_
      have h : denOps E ops.toList ops.toList fr hp nx (K .normal) := h
      have := ops_ok (P := P) hE (ops := ops) (Q := Q) (k := K .normal) (G0 := G) (ds := a.defers) (fun a' G' fr hp nx hm' hx hf' hds hk => hQ _ _ _ _ _ _ hm' hx.since hf' hds hk) ops.toList 0 (fun j => by rw [Nat.zero_add]) fr hp nx a G hm (Ext.refl G) hf rfl h
      rw [List.range_eq_range']
      simpa using this
    | true =>
      obtain ⟨p, hp1, h2⟩ := planAtK_out (show planAtK hi.plans id fun p => regionK E ops.toList (K .normal) p fr hp nx from h)
      have hr : regOk ops.toList p = true := by
        simp only [codeOk, hp1] at hok
        exact hok
      exact draw_ok hE hmix hm hf hr h2 fun a' G' fr hp nx hm' hx hf' hds hk => hQ _ _ _ _ _ _ hm' hx.since hf' hds hk
  | seq x y ih1 ih2 =>
    intro hok fr hp nx K a G Q hm hf hQ h
    simp only [codeOk, Bool.and_eq_true] at hok
    refine wp_seq (ih1 hok.1 fr hp nx _ a G _ hm hf ?_ h)
    intro e fr' hp' nx' a' G' hm' hs hf' hds hk
    cases e with
    | normal => exact ih2 hok.2 fr' hp' nx' K a' G' Q hm' hf' (fun e fr hp nx a2 G2 hm2 hs2 hf2 hds2 hk2 => hQ e fr hp nx a2 G2 hm2 (hs.trans hs2) hf2 (hds2.trans hds) hk2) hk
    | _ => exact hQ _ _ _ _ _ _ hm' hs hf' hds hk
  | cond c x y ih1 ih2 =>
    intro hok fr hp nx K a G Q hm hf hQ h
    simp only [codeOk, Bool.and_eq_true] at hok
    obtain ⟨t, h1, ht⟩ := evalK_out hf (show evalK fr c _ from h)
    split at h1
    · exact wp_cond_true ht (ih1 hok.1 fr hp nx K a G Q hm hf hQ h1)
    · exact wp_cond_false ht (ih2 hok.2 fr hp nx K a G Q hm hf hQ h1)
    · next v =>
      have ht : a.eval c = .bool v := ht
      have other : ((v = true → denC E na hi x fr hp nx K) ∧ (v = false → denC E na hi y fr hp nx K)) → (Code.cond c x y).wp P Q a G.w := fun h1 => by
        cases v with
        | true => exact wp_cond_true ht (ih1 hok.1 fr hp nx K a G Q hm hf hQ (h1.1 rfl))
        | false => exact wp_cond_false ht (ih2 hok.2 fr hp nx K a G Q hm hf hQ (h1.2 rfl))
      cases c with
      | tmp t =>
        have hget : t < fr.length → a.tmps[t]? = some (.bool v) := fun hlt => by
          rw [hf.1] at hlt
          have : a.tmps.getD t undef = .bool v := ht
          simp [Array.getD, hlt] at this
          simp [hlt, this]
        have hset : ∀ y : T, t < fr.length → tVal G y (.bool v) → frOk G (fr.set t y) a.tmps := fun y hlt hy => by
          have hg := hget hlt
          have hdl : t < a.tmps.size := (Array.getElem?_eq_some_iff.1 hg).1
          have := hf.set (i := t) (t := y) (v := .bool v) hy
          rwa [show a.tmps.setIfInBounds t (.bool v) = a.tmps from by
            apply Array.ext'
            have hg2 : a.tmps[t] = .bool v := (Array.getElem?_eq_some_iff.1 hg).2
            rw [Array.setIfInBounds_def, dif_pos hdl, ← hg2]
            simp] at this
        cases v with
        | true =>
          obtain ⟨q1, q2⟩ := lsetK_out (h1.1 rfl)
          exact wp_cond_true ht (ih1 hok.1 _ hp nx K a G Q hm (hset (.v .tt) q1 rfl) hQ q2)
        | false =>
          obtain ⟨q1, q2⟩ := lsetK_out (h1.2 rfl)
          exact wp_cond_false ht (ih2 hok.2 _ hp nx K a G Q hm (hset (.v .ff) q1 rfl) hQ q2)
      | _ => exact other h1
    · exact h1.elim
  | block i c ih =>
    intro hok fr hp nx K a G Q hm hf hQ h
    refine wp_block (ih (by simpa [codeOk] using hok) fr hp nx _ a G _ hm hf ?_ h)
    intro e fr' hp' nx' a' G' hm' hs hf' hds hk
    cases e with
    | exit j =>
      simp only [Exit.inBlock]
      dsimp only at hk
      revert hk
      cases hb : Nat.beq j i with
      | true =>
        intro hk
        obtain rfl := nat_beq_eq hb
        simp only [if_pos]
        exact hQ _ _ _ _ _ _ hm' hs hf' hds hk
      | false =>
        intro hk
        have hne : j ≠ i := by rintro rfl; rw [nat_beq_self] at hb; cases hb
        rw [if_neg hne]
        exact hQ _ _ _ _ _ _ hm' hs hf' hds hk
    | _ => exact hQ _ _ _ _ _ _ hm' hs hf' hds hk
  | exit i => intro _ fr hp nx K a G Q hm hf hQ h; exact wp_exit (hQ _ _ _ _ _ _ hm (Since.refl na G) hf rfl h)
  | ret => intro _ fr hp nx K a G Q hm hf hQ h; exact wp_ret (hQ _ _ _ _ _ _ hm (Since.refl na G) hf rfl h)
  | loop c ih =>
    intro hok fr hp nx K a G Q hm hf hQ h
    have hok : codeOk hi.plans c = true := by simpa [codeOk] using hok
    let step : Nat → List T → Hp → Nat → Prop := fun n => Nat.rec (motive := fun _ => List T → Hp → Nat → Prop) (fun _ _ _ => False) (fun _ ihn fr hp nx => denC E na hi c fr hp nx fun e fr hp nx => match e with
        | .normal => ihn fr hp nx
        | e => K e fr hp nx) n
    have hcase : (∃ n, step n fr hp nx) ∨ (annK hi.anns (firstReg c) fun A => match Nat.ble na A.nx && idsOk A.cs with
      | false => False
      | true => getsK fr A.ss fun ts => decSt A.cs (A.ss.map (·.2)) ts hp A.nx (anchors na) fun x0 _ => Is (A.inv x0 x0) ∧ ghAll A.cs (A.ss.map (·.2)) fun x => A.inv x0 x → ghK A.cs (A.ss.map (·.2)) x (
        CSh.encsK id A.cs x fun hp x' => Sh.encsK id (A.ss.map (·.2)) x' fun ts _ => setsK (anys fr) A.ss ts fun fr' => denC E na hi c fr' hp A.nx fun e fr' hp nx => match e with
          | .normal => sameLenK fr fr' (getsK fr' A.ss fun ts => decSt A.cs (A.ss.map (·.2)) ts hp A.nx (anchors na) fun y _ => Is (A.inv x0 y ∧ A.mu y < A.mu x))
          | e => K e fr' hp nx)) := by
      have h' := h
      unfold denC at h'
      simp only at h'
      cases hu : unrAt hi.unr (firstReg c) with
      | some n => rw [hu] at h'; exact .inl ⟨n, h'⟩
      | none => rw [hu] at h'; exact .inr h'
    rcases hcase with ⟨n, hn⟩ | h
    · refine wp_loop_rounds n ?_
      have key : ∀ (n : Nat) (fr : List T) (hp : Hp) (nx : Nat) (a1 : Act) (G1 : Cx), Mdl w0 F0 G1 hp nx → Since na G G1 → frOk G1 fr a1.tmps → a1.defers = a.defers → step n fr hp nx → Code.rounds P c Q n a1 G1.w := by
        intro n
        induction n with
        | zero => intro fr hp nx a1 G1 _ _ _ _ h; exact h.elim
        | succ n ihn =>
          intro fr hp nx a1 G1 hm1 hs1 hf1 hd1 h1
          show c.wp P (Exit.then (Code.rounds P c Q n) Q) a1 G1.w
          refine ih hok fr hp nx _ a1 G1 _ hm1 hf1 ?_ h1
          intro e fr' hp' nx' a' G' hm' hs' hf' hds' hk
          cases e with
          | normal => exact ihn fr' hp' nx' a' G' hm' (hs1.trans hs') hf' (hds'.trans hd1) hk
          | _ => exact hQ _ _ _ _ _ _ hm' (hs1.trans hs') hf' (hds'.trans hd1) hk
      exact key n fr hp nx a G hm (Since.refl na G) hf rfl hn
    obtain ⟨A, h⟩ := annK_out h
    split at h
    · exact h.elim
    · next hchk =>
      simp only [Bool.and_eq_true] at hchk
      have hle := Nat.le_of_ble_eq_true hchk.1
      have hmap : ∀ q r, mapF (anchors na) q = some r → q < A.nx := fun q r hq => Nat.lt_of_lt_of_le (anchors_lt hq) hle
      obtain ⟨ts, h1, hts⟩ := getsK_out hf h
      obtain ⟨x0, d0, im0, L0, ⟨hinv0, hbody⟩, hT0⟩ := st_told hm hmap h1
      have hsize : ∀ (vs : Array Value), fr.length = vs.size → (anys fr).length = vs.size := fun vs h => by rw [anys_eq]; simpa using h
      -- the state at the loop's head
      let I : Nat → Act → World → Prop := fun n a' w' => ∃ x G', w' = G'.w ∧ a'.defers = a.defers ∧ fr.length = a'.tmps.size ∧ Since na G G' ∧ Mdl w0 F0 G' (CSh.encs id A.cs x).1 A.nx ∧
        frOk G' (Sh.encs id (A.ss.map (·.2)) (CSh.encs id A.cs x).2).1 ⟨A.ss.map fun p => a'.tmps.getD p.1 undef⟩ ∧ A.inv x0 x ∧ A.mu x = n
      have since_told : ∀ {G1 : Cx} {nx1 : Nat} {ts : List T} {x : Gh A.cs (A.ss.map (·.2))} {d : D} {im' : Nat → Prop} {L}, Told w0 F0 G1 nx1 A.nx A.cs (A.ss.map (·.2)) (anchors na) ts x d im' L → Since na G1 (ctxOf G1 im' d) := fun hT =>
        ⟨hT.ext0, fun q hq b hb => by rw [hT.anchor hq]; exact hb⟩
      refine wp_loop_ghost I (A.mu x0) ⟨x0, ctxOf G im0 d0, rfl, rfl, hf.1, since_told hT0, hT0.mdl hchk.2, hT0.vals _ (ctxOf_compat _ _) _ hts, hinv0.out, rfl⟩ ?_
      rintro n a1 w1 ⟨x, G1, rfl, hds1, hlen1, hs1, hm1, hf1, hinv1, hmu1⟩
      have hb := ghK_out hm1 hf1 (ghAll_out hbody x hinv1)
      rw [CSh.encsK_eq] at hb
      rw [Sh.encsK_eq] at hb
      obtain ⟨fr1, hb2, hfr1⟩ := setsK_out (frOk_anys hlen1) hf1 hb
      have hlen2 : fr1.length = a1.tmps.size := hfr1.1
      refine ih hok fr1 _ A.nx _ a1 G1 _ hm1 hfr1 ?_ hb2
      intro e fr' hp' nx' a' G' hm' hs' hf' hds' hk
      cases e with
      | normal =>
        have same : ∀ {l m : List T} {q : Prop}, sameLenK l m q → l.length = m.length ∧ q := by
          intro l
          induction l with
          | nil => intro m q h; cases m <;> first | exact ⟨rfl, h⟩ | exact h.elim
          | cons a l ih =>
            intro m q h
            cases m with
            | nil => exact h.elim
            | cons b m => obtain ⟨h1, h2⟩ := ih (show sameLenK l m q from h); exact ⟨by simp [h1], h2⟩
        obtain ⟨hl, hk⟩ := same hk
        obtain ⟨ts', h3, hts'⟩ := getsK_out hf' hk
        obtain ⟨y, d, im', L, hy, hT⟩ := st_told hm' hmap h3
        have hy := hy.out
        refine ⟨A.mu y, hmu1 ▸ hy.2, y, ctxOf G' im' d, rfl, hds'.trans hds1, hl.trans hf'.1, (hs1.trans hs').trans (since_told hT), hT.mdl hchk.2, hT.vals _ (ctxOf_compat _ _) _ hts', hy.1, rfl⟩
      | _ => exact hQ _ _ _ _ _ _ hm' (hs1.trans hs') hf' (hds'.trans hds1) hk
  | _ => intro _ fr hp nx K a G Q hm hf hQ h; exact h.elim

end
end Go.J

set_option linter.unusedSimpArgs false
set_option linter.unusedVariables false
set_option linter.unusedSectionVars false

namespace Go.J

section
variable {P : Program} {E : Env}

def resV : List Value → Value
  | [v] => v
  | vs => .tuple ⟨vs⟩

def Spec.Post (S : Spec) (x : Gh S.cs S.ar) (y : Gh S.cs' S.rs) : Prop :=
  match S.post with
  | .fn g => y = g x
  | .rel R => R x y

/-- A function does what its contract says. -/
def FnOk (P : Program) (f : FuncId) (S : Spec) : Prop :=
  ∀ (w0 : World) (F0 : Base) (G : Cx) (x : Gh S.cs S.ar) (vs : List Value), Mdl w0 F0 G (CSh.encs id S.cs x).1 S.n → frOk G (Sh.encs id S.ar (CSh.encs id S.cs x).2).1 ⟨vs⟩ → S.pre x →
    Calls P f ⟨vs⟩ G.w fun e w' => ∃ rs y G', e = .returned (resV rs) ∧ w' = G'.w ∧ Since S.n G G' ∧ Mdl w0 F0 G' (CSh.encs id S.cs' y).1 S.n' ∧ frOk G' (Sh.encs id S.rs (CSh.encs id S.cs' y).2).1 ⟨rs⟩ ∧ S.Post x y

def resOne (vs : Array Value) (r : ResultVar) : Sem Value :=
  match r with
  | .tmp t => pure (vs.getD t undef)
  | .cell a t => do loadVar t (← asAddr (vs.getD a undef))

theorem resK_out (hE : EnvOk P E) {w0 : World} {F0 : Base} {G : Cx} {fr : List T} {hp : Hp} {nx : Nat} {vs : Array Value} (hm : Mdl w0 F0 G hp nx) (hf : frOk G fr vs) : ∀ {l : List ResultVar} {k : List T → Prop}, resK E fr hp l k →
    ∃ (ts : List T) (rs : List Value), k ts ∧ frOk G ts ⟨rs⟩ ∧ (l.mapM (resOne vs)).run P G.w = .ok rs G.w
  | [], k, h => ⟨[], [], h, ⟨rfl, fun i t ht => by simp at ht⟩, by simp⟩
  | .tmp t :: l, k, h => by
    obtain ⟨x, hx, h1⟩ := lgetK_out h
    obtain ⟨ts, rs, h2, h3, h4⟩ := resK_out hE hm hf (l := l) (k := fun xs => k (x :: xs)) h1
    obtain ⟨v, hv, hvt⟩ := hf.2 t x hx
    have hg : vs.getD t undef = v := by simp [Array.getD, (Array.getElem?_eq_some_iff.1 hv).1, (Array.getElem?_eq_some_iff.1 hv).2]
    refine ⟨_, v :: rs, h2, frOk_cons.2 ⟨hvt, h3⟩, ?_⟩
    rw [List.mapM_cons]
    simp only [resOne, Sem.run_bind, Sem.run_pure, Result.andThen_ok, hg]
    rw [h4]
    rfl
  | .cell a t :: l, k, h => by
    obtain ⟨x, hx, h1⟩ := lgetK_out h
    obtain ⟨y, hy, h2⟩ := tyK_out h1
    have hty := hE.ty t y hy
    obtain ⟨v, hv, hvt⟩ := hf.2 a x hx
    have hg : vs.getD a undef = v := by simp [Array.getD, (Array.getElem?_eq_some_iff.1 hv).1, (Array.getElem?_eq_some_iff.1 hv).2]
    have go : ∀ u x', tVal G x' u → (Instr.loadAt t v).run P G.w = .ok u G.w → (∃ ad, v = .pointer (some ad)) → resK E fr hp l (fun xs => k (x' :: xs)) →
        ∃ (ts : List T) (rs : List Value), k ts ∧ frOk G ts ⟨rs⟩ ∧ ((.cell a t :: l : List ResultVar).mapM (resOne vs)).run P G.w = .ok rs G.w := by
      intro u x' hu hl ⟨ad, hv⟩ hk
      subst hv
      obtain ⟨ts, rs, h2, h3, h4⟩ := resK_out hE hm hf (l := l) hk
      refine ⟨_, u :: rs, h2, frOk_cons.2 ⟨hu, h3⟩, ?_⟩
      have hl' : (loadVar t ad).run P G.w = .ok u G.w := by simpa [Instr.loadAt, Instr.sureAddr] using hl
      rw [List.mapM_cons]
      simp only [resOne, Sem.run_bind, Sem.run_pure, Result.andThen_ok, hg, asAddr, hl']
      rw [h4]
      rfl
    split at h2
    · next r p =>
      obtain ⟨c, hc, h3⟩ := lookK_out h2
      obtain ⟨x', h4, hx⟩ := tgetK_out h3
      obtain ⟨b, hr, hck⟩ := hm.chunk r c hc
      obtain ⟨b', k1, k2, k3⟩ := tVal_of_v hvt
      obtain rfl : b = b' := Option.some.inj (hr.symm.trans k1)
      obtain ⟨cs, hcs, hat⟩ := tree_cells hck
      obtain ⟨m1, m2⟩ := hx G cs hcs
      split at h4
      · next hs =>
        by_cases hne : cs = []
        · subst hne
          simp only [List.length_nil] at m2
          obtain ⟨v, hv1, hv2, hv3⟩ := run_load_t (b := b.blk) (o := poff p) hty hs h4 (cs := []) (by simpa using m1) (fun j v hv => by simp at hv)
          exact go v _ hv2 (by rw [k3]; exact hv1) ⟨_, k3⟩ hv3
        · have h5 := ((hat hne).2.drop (poff p) x'.size)
          rw [Nat.zero_add] at h5
          obtain ⟨v, hv1, hv2, hv3⟩ := run_load_t hty hs h4 m1 h5
          exact go v _ hv2 (by rw [k3]; exact hv1) ⟨_, k3⟩ hv3
      · exact h4.elim
    · exact h2.elim

theorem results_run {fn : Func} {tmps : Array Value} {w : World} {rs : List Value} (h : (fn.results.toList.mapM (resOne tmps)).run P w = .ok rs w) : (results fn tmps).run P w = .ok (resV rs) w := by
  show (do
    let vs ← fn.results.mapM (resOne tmps)
    pure (if h : vs.size = 1 then vs[0] else .tuple vs) : Sem Value).run P w = _
  rw [Array.mapM_eq_mapM_toList]
  simp only [Sem.run_bind, Sem.run_map, h]
  match rs with
  | [] => rfl
  | [v] => rfl
  | v :: u :: rs => simp [resV, Result.andThen]

theorem Sh.eqK_out : ∀ (s : Sh) {R : Type} (x y : s.add R) (k : R → R → Prop), s.eqK x y k → (∀ a b, k a b → a = b) → x = y
  | .el _, _, x, y, k, h, hk => Prod.ext h.1.out (hk _ _ h.2)
  | .lend _, _, x, y, k, h, hk => Prod.ext h.1.out (hk _ _ h.2)
  | .rp _, _, x, y, k, h, hk => Prod.ext h.1.out (hk _ _ h.2)
  | .own _, _, x, y, k, h, hk => hk _ _ h
  | .ref _, _, x, y, k, h, hk => hk _ _ h
  | .any, _, x, y, k, h, hk => hk _ _ h
  | .nil, _, x, y, k, h, hk => hk _ _ h
  | .cons s ss, _, x, y, k, h, hk => Sh.eqK_out s x y _ h fun a b hab => Sh.eqK_out ss a b k hab hk
theorem Sh.eqsK_out : ∀ (ss : List Sh) {R : Type} (x y : Sh.adds ss R) (k : R → R → Prop), Sh.eqsK ss x y k → (∀ a b, k a b → a = b) → x = y
  | [], _, x, y, k, h, hk => hk _ _ h
  | s :: ss, _, x, y, k, h, hk => Sh.eqK_out s x y _ h fun a b hab => Sh.eqsK_out ss a b k hab hk
theorem CSh.eqsK_out : ∀ (cs : List (Nat × CSh)) {R : Type} (x y : CSh.adds cs R) (k : R → R → Prop), CSh.eqsK cs x y k → (∀ a b, k a b → a = b) → x = y
  | [], _, x, y, k, h, hk => hk _ _ h
  | (_, .row _ _) :: cs, _, x, y, k, h, hk => Prod.ext h.1.out (CSh.eqsK_out cs _ _ k h.2 hk)
  | (_, .own s) :: cs, _, x, y, k, h, hk => Sh.eqK_out s x y _ h fun a b hab => CSh.eqsK_out cs a b k hab hk
theorem ghEq_out {cs : List (Nat × CSh)} {ss : List Sh} {x y : Gh cs ss} (h : ghEq cs ss x y) : x = y :=
  CSh.eqsK_out cs x y _ h fun a b hab => Sh.eqsK_out ss a b _ hab fun _ _ _ => rfl

theorem fn_ok (hE : EnvOk P E) (hmix : P.follows .mixedOrders = true) {S : Spec} {hi : Hints} {f : FuncId} {fn : Func} {c : Code} (hf : P.funcs[f]? = some fn) (hb : fn.body = some c) (hc : codeOk hi.plans c = true)
    (hs : (idsOk S.cs' && Nat.ble S.n S.n') = true) (h : denF E S hi fn) : FnOk P f S := by
  intro w0 F0 G x vs hm hv hpre
  simp only [Bool.and_eq_true] at hs
  have hle := Nat.le_of_ble_eq_true hs.2
  refine calls_of_wp hf hb ?_
  simp only [denF, hb] at h
  have h1 := ghK_out hm hv (ghAll_out h x hpre)
  rw [CSh.encsK_eq, Sh.encsK_eq] at h1
  obtain ⟨hlen, h2⟩ := lpadK_out h1
  have hfr : frOk G ((Sh.encs id S.ar (CSh.encs id S.cs x).2).1 ++ List.replicate (fn.ntmps - (Sh.encs id S.ar (CSh.encs id S.cs x).2).1.length) (.v .any)) ((⟨vs⟩ : Array Value) ++ Array.replicate (fn.ntmps - (⟨vs⟩ : Array Value).size) undef) := by
    have hl := hv.1
    refine ⟨by simp at hl ⊢; omega, fun i t ht => ?_⟩
    by_cases hi : i < (Sh.encs id S.ar (CSh.encs id S.cs x).2).1.length
    · rw [List.getElem?_append_left hi] at ht
      obtain ⟨v, hv1, hv2⟩ := hv.2 i t ht
      exact ⟨v, by rw [Array.getElem?_append_left (by rw [← hl]; exact hi)]; exact hv1, hv2⟩
    · rw [List.getElem?_append_right (by omega)] at ht
      have hi2 := (List.getElem?_eq_some_iff.1 ht).1
      simp only [List.length_replicate] at hi2
      rw [List.getElem?_replicate, if_pos hi2] at ht
      cases ht
      refine ⟨undef, ?_, trivial⟩
      rw [Array.getElem?_append_right (by rw [← hl]; omega), Array.getElem?_replicate, if_pos (by rw [← hl]; exact hi2)]
  have fin : ∀ (fr : List T) (hp : Hp) (nx : Nat) (a' : Act) (G' : Cx), Mdl w0 F0 G' hp nx → Since S.n G G' → frOk G' fr a'.tmps → a'.defers = [] → denF.fin E S fn x fr hp →
      a'.defers = [] ∧ ∃ v, (results fn a'.tmps).run P G'.w = .ok v G'.w ∧ ∃ rs y G2, Ending.returned v = .returned (resV rs) ∧ G'.w = G2.w ∧ Since S.n G G2 ∧ Mdl w0 F0 G2 (CSh.encs id S.cs' y).1 S.n' ∧ frOk G2 (Sh.encs id S.rs (CSh.encs id S.cs' y).2).1 ⟨rs⟩ ∧ S.Post x y := by
    intro fr hp nx a' G' hm' hs' hf' hds hfin
    obtain ⟨ts, rs, h3, h4, h5⟩ := resK_out (P := P) hE hm' hf' hfin
    obtain ⟨y, d, im', L, h6, hT⟩ := st_told hm' (fun q r hq => Nat.lt_of_lt_of_le (anchors_lt hq) hle) h3
    refine ⟨hds, resV rs, results_run h5, rs, y, ctxOf G' im' d, rfl, rfl, hs'.trans ⟨hT.ext0, fun q hq b hb => by rw [hT.anchor hq]; exact hb⟩, hT.mdl hs.1, hT.vals _ (ctxOf_compat _ _) _ h4, ?_⟩
    revert h6
    unfold Spec.Post
    cases S.post with
    | fn g => exact fun h => ghEq_out h
    | rel R => exact fun h => h.out
  refine code_ok hE hmix c hc _ _ _ _ _ G _ hm hfr ?_ h2
  intro e fr hp nx a' G' hm' hs' hf' hds hk
  cases e with
  | normal => exact fin fr hp nx a' G' hm' hs' hf' hds hk
  | ret => exact fin fr hp nx a' G' hm' hs' hf' hds hk
  | _ => exact hk.elim

end
end Go.J

set_option linter.unusedSimpArgs false
set_option linter.unusedVariables false
set_option linter.unusedSectionVars false

namespace Go.J

section
variable {P : Program} {E : Env}

theorem keepK_out {map : List (Nat × Option Nat)} {cs : List (Nat × CSh)} : ∀ {l : List Nat} {k : Prop}, keepK map cs l k → k ∧ ∀ q, q ∈ l → inIds q cs = true ∧ ∃ r, mapF map q = some (some r)
  | [], k, h => ⟨h, fun q hq => (by cases hq)⟩
  | q :: l, k, h => by
    unfold keepK at h
    split at h
    · next hi =>
      obtain ⟨r, hr, h2⟩ := mapK_out h
      cases r with
      | none => exact h2.elim
      | some r =>
        obtain ⟨h3, h4⟩ := keepK_out h2
        refine ⟨h3, fun q' hq' => ?_⟩
        rcases List.mem_cons.1 hq' with rfl | hq'
        · exact ⟨hi, r, hr⟩
        · exact h4 q' hq'
    · exact h.elim

theorem inIds_out {q : Nat} : ∀ {cs : List (Nat × CSh)}, inIds q cs = true → q ∈ cs.map (·.1)
  | [], h => by simp [inIds] at h
  | (q', c) :: cs, h => by
    simp only [inIds, Bool.or_eq_true] at h
    rcases h with h | h
    · simp [nat_beq_eq h]
    · simp only [List.map_cons, List.mem_cons]
      exact .inr (inIds_out h)

theorem renN_lt {map : List (Nat × Option Nat)} {n nx q r : Nat} (hq : q < n) (h : mapF map q = some (some r)) : renN map n nx q = r := by
  have hb : Nat.blt q n = true := by simpa [Nat.blt_eq] using hq
  unfold renN
  rw [hb]
  simp only []
  induction map with
  | nil => simp [mapF] at h
  | cons p l ih =>
    obtain ⟨q', r'⟩ := p
    unfold mapF at h
    unfold renN.go
    cases hbq : Nat.beq q' q with
    | true => rw [hbq] at h; simp at h; simp [h]
    | false => rw [hbq] at h; exact ih h
theorem renN_ge {map : List (Nat × Option Nat)} {n nx q : Nat} (hq : n ≤ q) : renN map n nx q = nx + (q - n) := by
  have hb : Nat.blt q n = false := by
    cases hb : Nat.blt q n with
    | false => rfl
    | true => have : q < n := by simpa [Nat.blt_eq] using hb
              omega
  unfold renN
  rw [hb]

/-! What holds in the callee's numbers holds in the caller's. -/
theorem bare_cells {im im' : Nat → Prop} {w : World} : ∀ (e : El), e.bare = true → ∀ (x : e.ty) (cs : List Value), cellsOf im w e x cs → cellsOf im' w e x cs
  | .u8, _, _, _, h => h
  | .int _, _, _, _, h => h
  | .bool, _, _, _, h => h
  | .str, _, _, _, h => h
  | .nil, _, _, _, h => h
  | .rd _, hb, _, _, _ => by cases hb
  | .cons e es, hb, x, cs, ⟨c1, c2, e1, k1, k2⟩ => by
    simp only [El.bare, Bool.and_eq_true] at hb
    exact ⟨c1, c2, e1, bare_cells e hb.1 x.1 c1 k1, bare_cells es hb.2 x.2 c2 k2⟩
  | .ar n e, hb, x, cs, ⟨k1, k2⟩ => ⟨k1, listOf.mono (fun x cs h => bare_cells e hb x cs h) _ _ k2⟩

structure Move (G3 G4 : Cx) (ρ : Nat → Nat) (bare : Bool) : Prop where
  w : G4.w = G3.w
  im : bare = false → ∀ b, G3.im b → G4.im b

theorem Move.cells {G3 G4 : Cx} {ρ : Nat → Nat} {bare : Bool} (h : Move G3 G4 ρ bare) {e : El} (hb : bare = true → e.bare = true) {x : e.ty} {cs : List Value} (hc : cellsOf G3.im G3.w e x cs) : cellsOf G4.im G4.w e x cs := by
  cases bare with
  | false => exact cellsOf.mono (h.im rfl) (fun _ _ => by rw [h.w]) (by rw [h.w]; exact Nat.le_refl _) e x cs hc
  | true => rw [h.w]; exact bare_cells e (hb rfl) x cs hc

theorem Move.enc_val {G3 G4 : Cx} {ρ : Nat → Nat} {bare : Bool} (h : Move G3 G4 ρ bare) {e : El} (hb : bare = true → e.bare = true) {x : e.ty} {v : Value} (hv : tVal1 G3 (e.enc x) v) : tVal1 G4 (e.enc x) v := by
  cases e with
  | rd e =>
    obtain ⟨A, c, e1, _⟩ := id hv
    exact h.cells (e := .rd e) hb hv
  | cons e es => obtain ⟨cs, e1, hc⟩ := hv; exact ⟨cs, e1, (tCells_enc (.cons e es) x cs).2 (h.cells hb ((tCells_enc (.cons e es) x cs).1 hc))⟩
  | nil => exact hv
  | ar n e => obtain ⟨cs, e1, hc⟩ := hv; exact ⟨cs, e1, (tCells_enc (.ar n e) x cs).2 (h.cells hb ((tCells_enc (.ar n e) x cs).1 hc))⟩
  | _ => exact hv

/-- The numbers that keep their meaning. -/
def Good (G3 G4 : Cx) (ρ : Nat → Nat) (n : Nat) (ids : List Nat) : Prop := ∀ q, (n ≤ q ∨ q ∈ ids) → ∀ b, G3.rho q = some b → G4.rho (ρ q) = some b

theorem mem_ids {n q : Nat} : n ≤ q ∨ q ∈ (match Nat.blt q n with
    | true => [q]
    | false => []) := by
  by_cases h : q < n
  · have hb : Nat.blt q n = true := by simpa [Nat.blt_eq] using h
    rw [hb]; exact .inr (by simp)
  · exact .inl (by omega)

theorem Good.sub {G3 G4 : Cx} {ρ : Nat → Nat} {n : Nat} {l l' : List Nat} (h : Good G3 G4 ρ n l) (hs : ∀ q, q ∈ l' → q ∈ l) : Good G3 G4 ρ n l' := fun q hq => h q (hq.imp id (hs q))

theorem Move.sh {G3 G4 : Cx} {ρ : Nat → Nat} {bare : Bool} {n : Nat} (h : Move G3 G4 ρ bare) : ∀ (s : Sh) {R : Type} (x : s.add R), (bare = true → s.bare = true) → Good G3 G4 ρ n (s.ids n) →
    (s.enc ρ x).2 = (s.enc id x).2 ∧ (∀ cs, tCells G3 (s.enc id x).1 cs → tCells G4 (s.enc ρ x).1 cs) ∧ (∀ v, tVal1 G3 (s.enc id x).1 v → tVal1 G4 (s.enc ρ x).1 v)
  | .el e, _, x, hb, _ => ⟨rfl, fun cs hc => (tCells_enc e x.1 cs).2 (h.cells hb ((tCells_enc e x.1 cs).1 hc)), fun v hv => h.enc_val hb hv⟩
  | .lend e, _, x, hb, _ => by
    cases bare with
    | true => exact absurd (hb rfl) (by simp [Sh.bare])
    | false =>
      have hv : ∀ v, vOk G3 (.rd e x.1) v → vOk G4 (.rd e x.1) v := fun v hv => h.cells (e := .rd e) (fun hh => by cases hh) hv
      exact ⟨rfl, fun cs ⟨c, e1, e2, e3⟩ => ⟨c, e1, e2, hv c e3⟩, hv⟩
  | .rp e, _, x, hb, _ => by
    cases bare with
    | true => exact absurd (hb rfl) (by simp [Sh.bare])
    | false =>
      have hv : ∀ v, vOk G3 (.rp e [x.1] 0 []) v → vOk G4 (.rp e [x.1] 0 []) v := fun v ⟨h0, b, o, css, e1, e2, e3, e4, e5⟩ =>
        ⟨h0, b, o, css, e1, h.im rfl b e2, by rw [h.w]; exact e3, by rw [h.w]; exact e4, listOf.mono (fun x cs hc => h.cells (fun hh => by cases hh) hc) _ _ e5⟩
      exact ⟨rfl, fun cs ⟨c, e1, e2, e3⟩ => ⟨c, e1, e2, hv c e3⟩, hv⟩
  | .own q, _, x, _, hg => by
    have hv : ∀ v, vOk G3 (.own q) v → vOk G4 (.own (ρ q)) v := fun v ⟨b, e1, e2⟩ => ⟨b, hg q mem_ids b e1, e2⟩
    exact ⟨rfl, fun cs ⟨c, e1, e2, e3⟩ => ⟨c, e1, e2, hv c e3⟩, hv⟩
  | .ref q, _, x, _, hg => by
    have hv : ∀ v, vOk G3 (.ptr q []) v → vOk G4 (.ptr (ρ q) []) v := fun v ⟨b, e1, e2⟩ => ⟨b, hg q mem_ids b e1, e2⟩
    exact ⟨rfl, fun cs ⟨c, e1, e2, e3⟩ => ⟨c, e1, e2, hv c e3⟩, hv⟩
  | .any, _, x, _, _ => ⟨rfl, fun cs hc => hc, fun v hv => hv⟩
  | .nil, _, x, _, _ => ⟨rfl, fun cs hc => hc, fun v hv => hv⟩
  | .cons s ss, _, x, hb, hg => by
    have hb1 : bare = true → s.bare = true := fun e => by have := hb e; simp only [Sh.bare, Bool.and_eq_true] at this; exact this.1
    have hb2 : bare = true → ss.bare = true := fun e => by have := hb e; simp only [Sh.bare, Bool.and_eq_true] at this; exact this.2
    obtain ⟨e1, c1, _⟩ := Move.sh (n := n) h s x hb1 (hg.sub fun q hq => by simp [Sh.ids, hq])
    obtain ⟨e2, c2, _⟩ := Move.sh (n := n) h ss (s.enc ρ x).2 hb2 (hg.sub fun q hq => by simp [Sh.ids, hq])
    have hc : ∀ cs, tCells G3 (Sh.enc id (.cons s ss) x).1 cs → tCells G4 (Sh.enc ρ (.cons s ss) x).1 cs := fun cs ⟨k1, k2, e, m1, m2⟩ => by
      refine ⟨k1, k2, e, c1 k1 m1, ?_⟩
      refine c2 k2 ?_
      rw [e1]
      exact m2
    refine ⟨?_, hc, fun v ⟨cs, e, m⟩ => ⟨cs, e, hc cs m⟩⟩
    simp only [Sh.enc]
    rw [e2, e1]

theorem Move.shs {G3 G4 : Cx} {ρ : Nat → Nat} {bare : Bool} {n : Nat} (h : Move G3 G4 ρ bare) : ∀ (ss : List Sh) {R : Type} (x : Sh.adds ss R), (bare = true → Sh.bares ss = true) → Good G3 G4 ρ n (Sh.idss n ss) →
    ∀ vs : List Value, frOk G3 (Sh.encs id ss x).1 ⟨vs⟩ → frOk G4 (Sh.encs ρ ss x).1 ⟨vs⟩
  | [], _, x, _, _, vs, hf => ⟨hf.1, fun i t ht => by simp [Sh.encs] at ht⟩
  | s :: ss, _, x, hb, hg, vs, hf => by
    have hb1 : bare = true → s.bare = true := fun e => by have := hb e; simp only [Sh.bares, Bool.and_eq_true] at this; exact this.1
    have hb2 : bare = true → Sh.bares ss = true := fun e => by have := hb e; simp only [Sh.bares, Bool.and_eq_true] at this; exact this.2
    obtain ⟨e1, _, v1⟩ := h.sh (n := n) s x hb1 (hg.sub fun q hq => by simp [Sh.idss, hq])
    cases vs with
    | nil => have := hf.1; simp [Sh.encs] at this
    | cons v vs =>
      obtain ⟨k1, k2⟩ := frOk_cons.1 hf
      refine frOk_cons.2 ⟨tVal_from1 (v1 v ?_), ?_⟩
      · have hnt : ∀ ts, (s.enc id x).1 ≠ .tup ts := fun ts => by
          cases s with
          | el e => cases e <;> simp [Sh.enc, El.enc]
          | _ => simp [Sh.enc]
        revert k1
        cases hq : (s.enc id x).1 with
        | tup ts => exact (hnt ts hq).elim
        | _ => exact fun h => h
      · refine Move.shs (n := n) h ss _ hb2 (hg.sub fun q hq => by simp [Sh.idss, hq]) vs ?_
        rw [e1]
        exact k2

/-- The blocks, in the caller's numbers. -/
theorem Move.chunks {G3 G4 : Cx} {ρ : Nat → Nat} {bare : Bool} {n : Nat} (h : Move G3 G4 ρ bare) : ∀ (cs : List (Nat × CSh)) {R : Type} (x : CSh.adds cs R), (bare = true → CSh.bares cs = true) → Good G3 G4 ρ n (CSh.idss n cs) →
    (CSh.encs ρ cs x).2 = (CSh.encs id cs x).2 ∧ ∀ p, p ∈ (CSh.encs ρ cs x).1 → ∃ q c, p.1 = ρ q ∧ (q, c) ∈ (CSh.encs id cs x).1 ∧ c.rw = p.2.rw ∧ (n ≤ q ∨ q ∈ CSh.idss n cs) ∧ ∀ b, chunkOk G3 c b → chunkOk G4 p.2 b
  | [], _, x, _, _ => ⟨rfl, fun p hp => (by cases hp)⟩
  | (q, c) :: cs, _, x, hb, hg => by
    have hb2 : bare = true → CSh.bares cs = true := fun e => by have := hb e; cases c <;> simp only [CSh.bares, Bool.and_eq_true] at this <;> exact this.2
    have hsub : ∀ q', q' ∈ CSh.idss n cs → q' ∈ CSh.idss n ((q, c) :: cs) := fun q' hq' => by
      cases c <;> simp only [CSh.idss] <;> cases Nat.blt q n <;> simp [hq']
    have hq : n ≤ q ∨ q ∈ CSh.idss n ((q, c) :: cs) := by
      by_cases hlt : q < n
      · have hbl : Nat.blt q n = true := by simpa [Nat.blt_eq] using hlt
        right
        cases c <;> simp only [CSh.idss, hbl] <;> simp
      · exact .inl (by omega)
    have one : (c.enc ρ x).2 = (c.enc id x).2 ∧ (c.enc id x).1.rw = (c.enc ρ x).1.rw ∧ ∀ b, chunkOk G3 (c.enc id x).1 b → chunkOk G4 (c.enc ρ x).1 b := by
      cases c with
      | row ty e =>
        have hbe : bare = true → e.bare = true := fun e => by have := hb e; simp only [CSh.bares, Bool.and_eq_true] at this; exact this.1
        exact ⟨rfl, rfl, fun b ⟨k1, k2, css, k3, k4⟩ => ⟨k1, k2, css, by rw [h.w]; exact k3, listOf.mono (fun x cs hc => h.cells hbe hc) _ _ k4⟩⟩
      | own s =>
        have hbe : bare = true → s.bare = true := fun e => by have := hb e; simp only [CSh.bares, Bool.and_eq_true] at this; exact this.1
        obtain ⟨e1, c1, _⟩ := h.sh (n := n) s x hbe (hg.sub fun q' hq' => by simp only [CSh.idss]; cases Nat.blt q n <;> simp [hq'])
        exact ⟨e1, rfl, fun b ⟨k1, cs', ty, k2, k3⟩ => ⟨k1, cs', ty, by rw [h.w]; exact k2, c1 cs' k3⟩⟩
    obtain ⟨e2, r2⟩ := Move.chunks (n := n) h cs (c.enc ρ x).2 hb2 (hg.sub hsub)
    refine ⟨?_, fun p hp => ?_⟩
    · simp only [CSh.encs]
      rw [e2, one.1]
    · simp only [CSh.encs] at hp
      rcases List.mem_cons.1 hp with rfl | hp
      · exact ⟨q, (c.enc id x).1, rfl, by simp [CSh.encs], one.2.1, hq, one.2.2⟩
      · obtain ⟨q', c', m1, m2, m3, m4, m5⟩ := r2 p hp
        refine ⟨q', c', m1, ?_, m3, m4.imp id (hsub q'), m5⟩
        simp only [CSh.encs]
        rw [← one.1]
        exact List.mem_cons_of_mem _ m2

end
end Go.J

