/-
  THE ENGINE, part 14: regions. Operations in the text's order; and where the order is drawn: values as soon as they can be had, the rest in every order.
-/
import Derived.Test.YtpanhnkcgmcghaaE13
import Derived.Orders
set_option linter.unusedSimpArgs false
set_option linter.unusedVariables false
set_option linter.unusedSectionVars false

namespace Go.J

def putK (fr : List T) (dst : Option Tmp) (x : T) (k : List T → Prop) : Prop :=
  match dst with
  | none => k fr
  | some d => lsetK fr d x k

def slotK (ops : List Oper) (g : Nat) (k : Nat → Prop) : Prop :=
  match ops, g with
  | [], _ => False
  | o :: _, 0 => match o.dst with
    | some d => k d
    | none => False
  | _ :: os, g + 1 => slotK os g k

/-- In the text's order: a guard that is not known yet is told apart. -/
def guardK (ops : List Oper) (fr : List T) (g : Option (Nat × Bool)) (yes no : List T → Prop) : Prop :=
  match g with
  | none => yes fr
  | some (g, want) => slotK ops g fun d => lgetK fr d fun
    | .v .tt => match want with
      | true => yes fr
      | false => no fr
    | .v .ff => match want with
      | true => no fr
      | false => yes fr
    | .v (.bool b) => match want with
      | true => (b = true → lsetK fr d (.v .tt) yes) ∧ (b = false → lsetK fr d (.v .ff) no)
      | false => (b = true → lsetK fr d (.v .tt) no) ∧ (b = false → lsetK fr d (.v .ff) yes)
    | .tup .nil => no fr
    | _ => False

noncomputable def denOps (E : Env) (ops os : List Oper) : List T → Hp → Nat → (List T → Hp → Nat → Prop) → Prop :=
  List.rec (motive := fun _ => List T → Hp → Nat → (List T → Hp → Nat → Prop) → Prop) (fun fr hp nx k => k fr hp nx)
    (fun o _ ih fr hp nx k => guardK ops fr o.guard
      (fun fr => denOp E o.op fr hp nx fun x hp nx => putK fr o.dst x fun fr => ih fr hp nx k)
      (fun fr => putK fr o.dst (.tup .nil) fun fr => ih fr hp nx k)) os

/-! Where the order is drawn. -/
def valueOp : Op → Bool
  | .move _ => true
  | .pick _ _ _ => true
  | .nilCheck _ => true
  | .fieldAddr _ _ _ => true
  | .field _ _ _ => true
  | .load _ _ => true
  | .build _ _ => true
  | .binOp _ _ _ _ _ => true
  | .unOp _ _ _ => true
  | .convert _ _ _ => true
  | .slice _ _ _ _ _ => true
  | .indexAddr _ _ _ => true
  | .index _ _ _ => true
  | .extract _ _ => true
  | .call c => match c.callee with
    | .builtin .len => true
    | .builtin .min => true
    | .builtin .max => true
    | _ => false
  | _ => false

def readsHp : Op → Bool
  | .load _ _ => true
  | .convert _ _ _ => true
  | .slice _ _ _ _ _ => true
  | .indexAddr _ _ _ => true
  | .call _ => true
  | _ => false

/-- A slice is not held against nil here: whether it is nil may be open. -/
def noNilK (o : Op) (fr : List T) (k : Prop) : Prop :=
  match o with
  | .binOp _ _ _ y _ => evalK fr y fun
    | .v .nils => False
    | _ => k
  | _ => k

def gateK (ops : List Oper) (fr : List T) (g : Option (Nat × Bool)) (yes no : Prop) : Prop :=
  match g with
  | none => yes
  | some (g, want) => slotK ops g fun d => lgetK fr d fun
    | .v .tt => match want with
      | true => yes
      | false => no
    | .v .ff => match want with
      | true => no
      | false => yes
    | .tup .nil => no
    | _ => False

def isGuard (i : Nat) : List Oper → Bool
  | [] => false
  | o :: os => match o.guard with
    | some (g, _) => Nat.beq g i || isGuard i os
    | none => isGuard i os

def normK (b : Bool) (x : T) (k : T → Prop) : Prop :=
  match b with
  | false => k x
  | true => match x with
    | .v .tt => k (.v .tt)
    | .v .ff => k (.v .ff)
    | .v (.bool b) => (b = true → k (.v .tt)) ∧ (b = false → k (.v .ff))
    | _ => False

def sameK (y x : T) : Prop :=
  match x with
  | .v .tt => match y with
    | .v .tt => True
    | .v (.bool b) => b = true
    | _ => False
  | .v .ff => match y with
    | .v .ff => True
    | .v (.bool b) => b = false
    | _ => False
  | .v .any => True
  | x => y = x

def bindsAll (m : Nat) : List Edge → Bool
  | [] => true
  | e :: es => (!Region.binds .any e || m.testBit e.on) && bindsAll m es

def nextV (m : Nat) : List Oper → Nat → Option (Nat × Oper)
  | [], _ => none
  | o :: os, i => match !m.testBit i && valueOp o.op && bindsAll m o.after.toList with
    | true => some (i, o)
    | false => nextV m os (i + 1)

def readyE (m : Nat) : List Oper → Nat → List (Nat × Oper)
  | [], _ => []
  | o :: os, i => match !m.testBit i && bindsAll m o.after.toList with
    | true => (i, o) :: readyE m os (i + 1)
    | false => readyE m os (i + 1)

/-- The operations that stand ahead of each, as bits. -/
def ancOf (acc : List Nat) : List Edge → Nat
  | [] => 0
  | e :: es => match Region.binds .any e with
    | true => (2 ^ e.on ||| acc.getD e.on 0) ||| ancOf acc es
    | false => ancOf acc es
def ancs : List Oper → List Nat → List Nat
  | [], acc => acc
  | o :: os, acc => ancs os (acc ++ [ancOf acc o.after.toList])

/-- The values that were read ahead: they are read the same now. -/
def recheckK (E : Env) (ops : List Oper) (m anc : Nat) (fr : List T) (hp : Hp) (nx : Nat) (k : Prop) : List Oper → Nat → Prop
  | [], _ => k
  | o :: os, i => match m.testBit i && !anc.testBit i && valueOp o.op && readsHp o.op with
    | true => (match o.dst with
      | none => False
      | some d => gateK ops fr o.guard (denOp E o.op fr hp nx fun y _ _ => lgetK fr d fun x => sameK y x) True) ∧ recheckK E ops m anc fr hp nx k os (i + 1)
    | false => recheckK E ops m anc fr hp nx k os (i + 1)

/-! What is asked of the text of such a region. -/
def tmpOf : Operand → List Tmp
  | .tmp t => [t]
  | _ => []
def looks (ops : List Oper) (o : Oper) : List Tmp :=
  (o.op.operands.toList.flatMap tmpOf) ++ (match o.guard with
    | some (g, _) => (match (ops[g]?).bind (·.dst) with
      | some d => [d]
      | none => [])
    | none => [])
def notSelect : Op → Bool
  | .select _ _ => false
  | _ => true
/-- An operation and another one that writes a slot which the first looks at, or writes too: they stand in order; where the writer makes a value, the writer first. -/
def pairOk (ops : List Oper) (as : List Nat) (i j : Nat) (x y : Oper) : Bool :=
  match y.dst with
  | none => true
  | some d => Nat.beq i j && !(looks ops x).contains d || !Nat.beq i j && (
      (!(looks ops x).contains d || (as.getD i 0).testBit j || !valueOp y.op && (as.getD j 0).testBit i) &&
      (match x.dst with
        | none => true
        | some c => !Nat.beq c d || !valueOp x.op && !valueOp y.op && ((as.getD i 0).testBit j || (as.getD j 0).testBit i)))
def rowOk (ops : List Oper) (as : List Nat) (i : Nat) (x : Oper) : List Oper → Nat → Bool
  | [], _ => true
  | y :: ys, j => pairOk ops as i j x y && rowOk ops as i x ys (j + 1)
def edgesOk (i : Nat) (o : Oper) : Bool := o.after.toList.all fun e => !Region.binds .any e || Nat.blt e.on i
def drawOk (ops : List Oper) (as : List Nat) : List Oper → Nat → Bool
  | [], _ => true
  | x :: xs, i => rowOk ops as i x ops 0 && edgesOk i x && notSelect x.op && drawOk ops as xs (i + 1)

def forkK : List (Nat × Oper) → (Nat → Oper → Prop) → Prop
  | [], _ => True
  | (j, o) :: l, f => f j o ∧ forkK l f

def anyK (E : Env) (ops : List Oper) (as : List Nat) (k : List T → Hp → Nat → Prop) : Nat → Nat → List T → Hp → Nat → Prop
  | 0, _, _, _, _ => False
  | n + 1, m, fr, hp, nx => match nextV m ops 0 with
    | some (i, o) => gateK ops fr o.guard
        (noNilK o.op fr (denOp E o.op fr hp nx fun x _ _ => normK (isGuard i ops) x fun x => putK fr o.dst x fun fr => anyK E ops as k n (m ||| 2 ^ i) fr hp nx))
        (putK fr o.dst (.tup .nil) fun fr => anyK E ops as k n (m ||| 2 ^ i) fr hp nx)
    | none => match readyE m ops 0 with
      | [] => k fr hp nx
      | l => forkK l fun j o => gateK ops fr o.guard
          (denOp E o.op fr hp nx fun x hp nx => normK (isGuard j ops) x fun x => putK fr o.dst x fun fr => recheckK E ops m (as.getD j 0) fr hp nx (anyK E ops as k n (m ||| 2 ^ j) fr hp nx) ops 0)
          (putK fr o.dst (.tup .nil) fun fr => recheckK E ops m (as.getD j 0) fr hp nx (anyK E ops as k n (m ||| 2 ^ j) fr hp nx) ops 0)

/-- The road that 'anyK' takes, written down. -/
inductive Plan where
  | done
  | take (i : Nat) (g : Bool) (p : Plan)
  | last (i : Nat) (g : Bool) (rc : List Nat) (p : Plan)
  | alt (i : Nat) (g : Bool) (rc : List Nat) (p rest : Plan)

/-- So many values, one behind the other. -/
def tks (i : Nat) : Nat → Plan → Plan
  | 0, p => p
  | n + 1, p => .take i false (tks (i + 1) n p)

def opAtK (ops : List Oper) (i : Nat) (k : Oper → Prop) : Prop :=
  match ops, i with
  | [], _ => False
  | o :: _, 0 => k o
  | _ :: os, i + 1 => opAtK os i k

noncomputable def recheckL (E : Env) (ops : List Oper) (fr : List T) (hp : Hp) (nx : Nat) (k : Prop) (is : List Nat) : Prop :=
  List.rec (motive := fun _ => Prop) k (fun i _ ih => opAtK ops i fun o => (match o.dst with
      | none => False
      | some d => gateK ops fr o.guard (denOp E o.op fr hp nx fun y _ _ => lgetK fr d fun x => sameK y x) True) ∧ ih) is

noncomputable def planK (E : Env) (ops : List Oper) (k : List T → Hp → Nat → Prop) (p : Plan) : List T → Hp → Nat → Prop :=
  Plan.rec (motive := fun _ => List T → Hp → Nat → Prop) (fun fr hp nx => k fr hp nx)
    (fun i g _ ih fr hp nx => opAtK ops i fun o => gateK ops fr o.guard
      (noNilK o.op fr (denOp E o.op fr hp nx fun x _ _ => normK g x fun x => putK fr o.dst x fun fr => ih fr hp nx))
      (putK fr o.dst (.tup .nil) fun fr => ih fr hp nx))
    (fun i g rc _ ih fr hp nx => opAtK ops i fun o => gateK ops fr o.guard
      (denOp E o.op fr hp nx fun x hp nx => normK g x fun x => putK fr o.dst x fun fr => recheckL E ops fr hp nx (ih fr hp nx) rc)
      (putK fr o.dst (.tup .nil) fun fr => recheckL E ops fr hp nx (ih fr hp nx) rc))
    (fun i g rc _ _ ih ihr fr hp nx => (opAtK ops i fun o => gateK ops fr o.guard
      (denOp E o.op fr hp nx fun x hp nx => normK g x fun x => putK fr o.dst x fun fr => recheckL E ops fr hp nx (ih fr hp nx) rc)
      (putK fr o.dst (.tup .nil) fun fr => recheckL E ops fr hp nx (ih fr hp nx) rc)) ∧ ihr fr hp nx) p

/-! Is it that road? -/
def rcList (ops : List Oper) (m anc : Nat) : List Oper → Nat → List Nat
  | [], _ => []
  | o :: os, i => match m.testBit i && !anc.testBit i && valueOp o.op && readsHp o.op with
    | true => i :: rcList ops m anc os (i + 1)
    | false => rcList ops m anc os (i + 1)
def sameL : List Nat → List Nat → Bool
  | [], [] => true
  | a :: l, b :: m => Nat.beq a b && sameL l m
  | _, _ => false
def sameB : Bool → Bool → Bool
  | true, true => true
  | false, false => true
  | _, _ => false
/-- 'rest': what is still to come of the operations that are ready here; none: a new place. -/
def planOk (ops : List Oper) (as : List Nat) : Plan → Nat → Option (List (Nat × Oper)) → Bool
  | .done, m, none => (match nextV m ops 0 with
    | some _ => false
    | none => true) && (match readyE m ops 0 with
    | [] => true
    | _ => false)
  | .take i g p, m, none => match nextV m ops 0 with
    | some (j, _) => Nat.beq i j && sameB g (isGuard i ops) && planOk ops as p (m ||| 2 ^ i) none
    | none => false
  | .last i g rc p, m, r => (match r with
      | none => (match nextV m ops 0 with
        | some _ => false
        | none => true)
      | some _ => true) && (match r.getD (readyE m ops 0) with
    | [(j, _)] => Nat.beq i j && sameB g (isGuard i ops) && sameL rc (rcList ops m (as.getD i 0) ops 0) && planOk ops as p (m ||| 2 ^ i) none
    | _ => false)
  | .alt i g rc p rest, m, r => (match r with
      | none => (match nextV m ops 0 with
        | some _ => false
        | none => true)
      | some _ => true) && (match r.getD (readyE m ops 0) with
    | (j, _) :: l => Nat.beq i j && sameB g (isGuard i ops) && sameL rc (rcList ops m (as.getD i 0) ops 0) && planOk ops as p (m ||| 2 ^ i) none && planOk ops as rest m (some l)
    | [] => false)
  | _, _, _ => false

def regOk (ops : List Oper) (p : Plan) : Bool := drawOk ops (ancs ops []) ops 0 && planOk ops (ancs ops []) p 0 none

end Go.J
