/-
  THE ENGINE, part 21: shapes of states; a state told by its ghosts, and back; code; functions.
-/
import Derived.Test.YtpanhnkcgmcghaaE20
set_option linter.unusedSimpArgs false
set_option linter.unusedVariables false
set_option linter.unusedSectionVars false

namespace Go.J

/-- How a value is told: el: by its content; lend: a slice that is looked at; rp: a pointer whose content is looked at; own: a row of its own; ref: a pointer to a block of ours. -/
inductive Sh where
  | el (e : El) | lend (e : El) | rp (e : El) | own (q : Nat) | ref (q : Nat) | any | nil | cons (s ss : Sh)

inductive CSh where
  | row (ty : TypeId) (e : El) | own (s : Sh)

@[reducible] def Sh.add : Sh → Type → Type
  | .el e, R => e.ty × R
  | .lend e, R => List e.ty × R
  | .rp e, R => e.ty × R
  | .cons s ss, R => s.add (ss.add R)
  | _, R => R
@[reducible] def Sh.adds : List Sh → Type → Type
  | [], R => R
  | s :: ss, R => s.add (Sh.adds ss R)
@[reducible] def CSh.add : CSh → Type → Type
  | .row _ e, R => List e.ty × R
  | .own s, R => s.add R
@[reducible] def CSh.adds : List (Nat × CSh) → Type → Type
  | [], R => R
  | (_, c) :: cs, R => c.add (CSh.adds cs R)

/-- A state's ghosts. -/
@[reducible] def Gh (cs : List (Nat × CSh)) (ss : List Sh) : Type := CSh.adds cs (Sh.adds ss Unit)

/-- What is left for us to show. -/
structure Is (p : Prop) : Prop where
  out : p

/-! All ghosts, one by one. -/
def El.allK : (e : El) → (e.ty → Prop) → Prop
  | .u8, k => ∀ x : UInt8, k x
  | .int _, k => ∀ x : Int, k x
  | .bool, k => ∀ x : Bool, k x
  | .str, k => ∀ x : List UInt8, k x
  | .rd .u8, k => ∀ x : List UInt8, k x
  | .rd (.int _), k => ∀ x : List Int, k x
  | .rd e, k => ∀ x : List e.ty, k x
  | .nil, k => k ()
  | .cons e es, k => e.allK fun x => es.allK fun y => k (x, y)
  | .ar _ .u8, k => ∀ x : List UInt8, k x
  | .ar _ (.int _), k => ∀ x : List Int, k x
  | .ar _ e, k => ∀ x : List e.ty, k x
def rowAllK : (e : El) → (List e.ty → Prop) → Prop
  | .u8, k => ∀ x : List UInt8, k x
  | .int _, k => ∀ x : List Int, k x
  | e, k => ∀ x : List e.ty, k x
def Sh.allK : (s : Sh) → {R : Type} → ((R → Prop) → Prop) → (s.add R → Prop) → Prop
  | .el e, _, q, k => e.allK fun x => q fun r => k (x, r)
  | .lend e, _, q, k => rowAllK e fun x => q fun r => k (x, r)
  | .rp e, _, q, k => e.allK fun x => q fun r => k (x, r)
  | .own _, _, q, k => q k
  | .ref _, _, q, k => q k
  | .any, _, q, k => q k
  | .nil, _, q, k => q k
  | .cons s ss, _, q, k => s.allK (fun k => ss.allK q k) k
def Sh.allsK : (ss : List Sh) → {R : Type} → ((R → Prop) → Prop) → (Sh.adds ss R → Prop) → Prop
  | [], _, q, k => q k
  | s :: ss, _, q, k => s.allK (fun k => Sh.allsK ss q k) k
def CSh.allK : (c : CSh) → {R : Type} → ((R → Prop) → Prop) → (c.add R → Prop) → Prop
  | .row _ e, _, q, k => rowAllK e fun x => q fun r => k (x, r)
  | .own s, _, q, k => s.allK q k
def CSh.allsK : (cs : List (Nat × CSh)) → {R : Type} → ((R → Prop) → Prop) → (CSh.adds cs R → Prop) → Prop
  | [], _, q, k => q k
  | (_, c) :: cs, _, q, k => c.allK (fun k => CSh.allsK cs q k) k
def ghAll (cs : List (Nat × CSh)) (ss : List Sh) (k : Gh cs ss → Prop) : Prop := CSh.allsK cs (fun k => Sh.allsK ss (fun k => k ()) k) k

theorem El.allK_out : ∀ (e : El) {k : e.ty → Prop}, e.allK k → ∀ x, k x
  | .u8, _, h, x => h x
  | .int _, _, h, x => h x
  | .bool, _, h, x => h x
  | .str, _, h, x => h x
  | .rd e, _, h, x => by cases e <;> exact h x
  | .nil, _, h, _ => h
  | .cons e es, _, h, x => El.allK_out es (El.allK_out e h x.1) x.2
  | .ar _ e, _, h, x => by cases e <;> exact h x
theorem rowAllK_out {e : El} {k : List e.ty → Prop} (h : rowAllK e k) : ∀ x, k x := by cases e <;> exact h
theorem Sh.allK_out : ∀ (s : Sh) {R : Type} {q : (R → Prop) → Prop} (_ : ∀ k, q k → ∀ r, k r) {k : s.add R → Prop}, s.allK q k → ∀ x, k x
  | .el e, _, _, hq, _, h, x => hq _ (El.allK_out e h x.1) x.2
  | .lend e, _, _, hq, _, h, x => hq _ (rowAllK_out h x.1) x.2
  | .rp e, _, _, hq, _, h, x => hq _ (El.allK_out e h x.1) x.2
  | .own _, _, _, hq, _, h, x => hq _ h x
  | .ref _, _, _, hq, _, h, x => hq _ h x
  | .any, _, _, hq, _, h, x => hq _ h x
  | .nil, _, _, hq, _, h, x => hq _ h x
  | .cons s ss, _, _, hq, _, h, x => Sh.allK_out s (fun _ h r => Sh.allK_out ss hq h r) h x
theorem Sh.allsK_out : ∀ (ss : List Sh) {R : Type} {q : (R → Prop) → Prop} (_ : ∀ k, q k → ∀ r, k r) {k : Sh.adds ss R → Prop}, Sh.allsK ss q k → ∀ x, k x
  | [], _, _, hq, _, h, x => hq _ h x
  | s :: ss, _, _, hq, _, h, x => Sh.allK_out s (fun _ h r => Sh.allsK_out ss hq h r) h x
theorem CSh.allsK_out : ∀ (cs : List (Nat × CSh)) {R : Type} {q : (R → Prop) → Prop} (_ : ∀ k, q k → ∀ r, k r) {k : CSh.adds cs R → Prop}, CSh.allsK cs q k → ∀ x, k x
  | [], _, _, hq, _, h, x => hq _ h x
  | (_, .row _ _) :: cs, _, _, hq, _, h, x => CSh.allsK_out cs hq (rowAllK_out h x.1) x.2
  | (_, .own s) :: cs, _, _, hq, _, h, x => Sh.allK_out s (fun _ h r => CSh.allsK_out cs hq h r) h x
theorem ghAll_out {cs : List (Nat × CSh)} {ss : List Sh} {k : Gh cs ss → Prop} (h : ghAll cs ss k) : ∀ x, k x :=
  CSh.allsK_out cs (fun _ h r => Sh.allsK_out ss (fun _ h _ => h) h r) h

/-! From ghosts to values. Numbers of ours are brought to their plain form. -/
def natGo (l : List Nat) (i : Nat) (n : Nat) (k : Nat → Prop) : Prop :=
  match l with
  | [] => k n
  | x :: l => match Nat.beq x n with
    | true => k x
    | false => natGo l i n k
def natK (n : Nat) (k : Nat → Prop) : Prop := natGo [0, 1, 2, 3, 4, 5, 6, 7, 8, 9, 10, 11, 12, 13, 14, 15, 16, 17, 18, 19, 20, 21, 22, 23, 24, 25, 26, 27, 28, 29, 30, 31, 32, 33, 34, 35, 36, 37, 38, 39, 40, 41, 42, 43, 44, 45, 46, 47, 48, 49, 50, 51, 52, 53, 54, 55, 56, 57, 58, 59, 60, 61, 62, 63] 0 n k
theorem natGo_eq : ∀ (l : List Nat) (i n : Nat) (k : Nat → Prop), natGo l i n k = k n
  | [], _, _, _ => rfl
  | x :: l, i, n, k => by
    unfold natGo
    split
    · next h => rw [Nat.eq_of_beq_eq_true h]
    · exact natGo_eq l i n k
theorem natK_eq (n : Nat) (k : Nat → Prop) : natK n k = k n := natGo_eq _ _ _ _

def Sh.encK (ρ : Nat → Nat) : (s : Sh) → {R : Type} → s.add R → (T → R → Prop) → Prop
  | .el e, _, (a, r), k => k (e.enc a) r
  | .lend e, _, (a, r), k => k (.v (.rd e a)) r
  | .rp e, _, (a, r), k => k (.v (.rp e [a] 0 [])) r
  | .own q, _, x, k => natK (ρ q) fun q => k (.v (.own q)) x
  | .ref q, _, x, k => natK (ρ q) fun q => k (.v (.ptr q [])) x
  | .any, _, x, k => k (.v .any) x
  | .nil, _, x, k => k .nil x
  | .cons s ss, _, x, k => s.encK ρ x fun t x => ss.encK ρ x fun ts x => k (.cons t ts) x
def Sh.encsK (ρ : Nat → Nat) : (ss : List Sh) → {R : Type} → Sh.adds ss R → (List T → R → Prop) → Prop
  | [], _, x, k => k [] x
  | s :: ss, _, x, k => s.encK ρ x fun t x => Sh.encsK ρ ss x fun ts x => k (t :: ts) x
def CSh.encK (ρ : Nat → Nat) : (c : CSh) → {R : Type} → c.add R → (Chunk → R → Prop) → Prop
  | .row ty e, _, (a, r), k => k (.row ty e a) r
  | .own s, _, x, k => s.encK ρ x fun t x => k (.own t) x
def CSh.encsK (ρ : Nat → Nat) : (cs : List (Nat × CSh)) → {R : Type} → CSh.adds cs R → (Hp → R → Prop) → Prop
  | [], _, x, k => k [] x
  | (q, c) :: cs, _, x, k => c.encK ρ x fun c x => natK (ρ q) fun q => CSh.encsK ρ cs x fun hp x => k ((q, c) :: hp) x

/-! No slice is longer than the machine allows. -/
def El.lensK : (e : El) → e.ty → Prop → Prop
  | .rd _, x, k => x.length ≤ maxLen → k
  | .cons e es, x, k => e.lensK x.1 (es.lensK x.2 k)
  | _, _, k => k
def Sh.lensK : (s : Sh) → {R : Type} → s.add R → (R → Prop) → Prop
  | .el e, _, x, k => e.lensK x.1 (k x.2)
  | .lend _, _, x, k => x.1.length ≤ maxLen → k x.2
  | .rp e, _, x, k => e.lensK x.1 (k x.2)
  | .own _, _, x, k => k x
  | .ref _, _, x, k => k x
  | .any, _, x, k => k x
  | .nil, _, x, k => k x
  | .cons s ss, _, x, k => s.lensK x fun x => ss.lensK x k
def Sh.lenssK : (ss : List Sh) → {R : Type} → Sh.adds ss R → (R → Prop) → Prop
  | [], _, x, k => k x
  | s :: ss, _, x, k => s.lensK x fun x => Sh.lenssK ss x k
def CSh.lensK : (c : CSh) → {R : Type} → c.add R → (R → Prop) → Prop
  | .row _ _, _, x, k => x.1.length ≤ maxLen → k x.2
  | .own s, _, x, k => s.lensK x k
def CSh.lenssK : (cs : List (Nat × CSh)) → {R : Type} → CSh.adds cs R → (R → Prop) → Prop
  | [], _, x, k => k x
  | (_, c) :: cs, _, x, k => c.lensK x fun x => CSh.lenssK cs x k
def ghK (cs : List (Nat × CSh)) (ss : List Sh) (x : Gh cs ss) (k : Prop) : Prop := CSh.lenssK cs x fun x => Sh.lenssK ss x fun _ => k

/-! The same ghosts, one by one. -/
def Sh.eqK : (s : Sh) → {R : Type} → s.add R → s.add R → (R → R → Prop) → Prop
  | .el _, _, (a, x), (b, y), k => Is (a = b) ∧ k x y
  | .lend _, _, (a, x), (b, y), k => Is (a = b) ∧ k x y
  | .rp _, _, (a, x), (b, y), k => Is (a = b) ∧ k x y
  | .own _, _, x, y, k => k x y
  | .ref _, _, x, y, k => k x y
  | .any, _, x, y, k => k x y
  | .nil, _, x, y, k => k x y
  | .cons s ss, _, x, y, k => s.eqK x y fun x y => ss.eqK x y k
def Sh.eqsK : (ss : List Sh) → {R : Type} → Sh.adds ss R → Sh.adds ss R → (R → R → Prop) → Prop
  | [], _, x, y, k => k x y
  | s :: ss, _, x, y, k => s.eqK x y fun x y => Sh.eqsK ss x y k
def CSh.eqK : (c : CSh) → {R : Type} → c.add R → c.add R → (R → R → Prop) → Prop
  | .row _ _, _, (a, x), (b, y), k => Is (a = b) ∧ k x y
  | .own s, _, x, y, k => s.eqK x y k
def CSh.eqsK : (cs : List (Nat × CSh)) → {R : Type} → CSh.adds cs R → CSh.adds cs R → (R → R → Prop) → Prop
  | [], _, x, y, k => k x y
  | (_, c) :: cs, _, x, y, k => c.eqK x y fun x y => CSh.eqsK cs x y k
def ghEq (cs : List (Nat × CSh)) (ss : List Sh) (x y : Gh cs ss) : Prop := CSh.eqsK cs x y fun x y => Sh.eqsK ss x y fun _ _ => Is True

/-! From values to ghosts. -/
structure D where
  n : Nat
  hp : Hp
  map : List (Nat × Option Nat)
  lent : List Nat

/-- A state in its plain form. -/
def forceD (d : D) (k : D → Prop) : Prop :=
  match d with
  | ⟨n, hp, map, lent⟩ => match hp, map, lent with
    | [], [], [] => k ⟨n, [], [], []⟩
    | [], [], l :: ls => k ⟨n, [], [], l :: ls⟩
    | [], m :: ms, [] => k ⟨n, [], m :: ms, []⟩
    | [], m :: ms, l :: ls => k ⟨n, [], m :: ms, l :: ls⟩
    | h :: hs, [], [] => k ⟨n, h :: hs, [], []⟩
    | h :: hs, [], l :: ls => k ⟨n, h :: hs, [], l :: ls⟩
    | h :: hs, m :: ms, [] => k ⟨n, h :: hs, m :: ms, []⟩
    | h :: hs, m :: ms, l :: ls => k ⟨n, h :: hs, m :: ms, l :: ls⟩
theorem forceD_eq (d : D) (k : D → Prop) : forceD d k = k d := by
  obtain ⟨n, hp, map, lent⟩ := d
  cases hp <;> cases map <;> cases lent <;> rfl

def sameO : Option Nat → Option Nat → Bool
  | some a, some b => Nat.beq a b
  | none, none => true
  | _, _ => false
def mapK (l : List (Nat × Option Nat)) (q : Nat) (k : Option Nat → Prop) : Prop :=
  match l with
  | [] => False
  | (q', r) :: l => match Nat.beq q' q with
    | true => k r
    | false => mapK l q k
/-- The same again, or new. -/
def bindK (l : List (Nat × Option Nat)) (q : Nat) (r : Option Nat) (k : Bool → Prop) : Prop :=
  match l with
  | [] => k true
  | (q', r') :: l => match Nat.beq q' q with
    | true => match sameO r' r with
      | true => k false
      | false => False
    | false => bindK l q r k
def bindD (d : D) (q : Nat) (r : Option Nat) (k : D → Prop) : Prop :=
  match Nat.blt q d.n with
  | true => bindK d.map q r fun
    | true => k ⟨d.n, d.hp, (q, r) :: d.map, d.lent⟩
    | false => k d
  | false => False

/-- A row that nobody writes from here on. -/
def freezeK (e : El) (r : Nat) (d : D) (k : List e.ty → D → Prop) : Prop :=
  lookK d.hp r fun
    | .row ty e' xs => updK d.hp r (.fz ty e' xs) fun hp => castK e' e xs fun xs => k xs ⟨d.n, hp, d.map, d.lent⟩
    | .fz _ e' xs => castK e' e xs fun xs => k xs d
    | .own _ => False

def frzK (r : Nat) (d : D) (k : D → Prop) : Prop :=
  lookK d.hp r fun
    | .row ty e' xs => updK d.hp r (.fz ty e' xs) fun hp => k ⟨d.n, hp, d.map, d.lent⟩
    | .fz _ _ _ => k d
    | .own _ => False

/-- The block that is looked at, where it is one that can be written. -/
def lentK (hp : Hp) (x : V) (k : List Nat → Prop) : Prop :=
  match x with
  | .own r => lookK hp r fun c => match c.rw with
    | true => k [r]
    | false => k []
  | .sl r _ _ _ _ => lookK hp r fun c => match c.rw with
    | true => k [r]
    | false => k []
  | _ => k []

def Sh.dec : (s : Sh) → T → D → ((∀ R : Type, R → s.add R) → D → Prop) → Prop
  | .el (.rd e), .v (.own r), d, k => freezeK e r d fun xs d => k (fun _ r => (xs, r)) d
  | .el (.rd e), .v (.sl r p off len sz), d, k => frzK r d fun d => rdK e d.hp (.sl r p off len sz) fun xs => lentK d.hp (.sl r p off len sz) fun l => match l with
    | [] => k (fun _ r => (xs, r)) d
    | _ => False
  | .el e, t, d, k => decK e t [] fun x => k (fun _ r => (x, r)) d
  | .lend e, .v x, d, k => rdK e d.hp x fun xs => lentK d.hp x fun l => k (fun _ r => (xs, r)) ⟨d.n, d.hp, d.map, l ++ d.lent⟩
  | .rp e, .v (.rp e' xs i p), d, k => tgetK p (e'.enc (xs.getD i e'.dflt)) fun t => decK e t [] fun x => k (fun _ r => (x, r)) d
  | .rp e, .v (.ptr r p), d, k => lookK d.hp r fun c => match c.rw with
    | true => tgetK p c.tree fun t => decK e t [] fun x => k (fun _ r => (x, r)) ⟨d.n, d.hp, d.map, r :: d.lent⟩
    | false => match p with
      | [] => False
      | s :: p => tgetK (s :: p) c.tree fun t => decK e t [] fun x => k (fun _ r => (x, r)) d
  | .own q, .v (.own r), d, k => bindD d q (some r) fun d => k (fun _ r => r) d
  | .own q, .v .nils, d, k => bindD d q none fun d => k (fun _ r => r) d
  | .ref q, .v (.ptr r p), d, k => match p with
    | [] => bindD d q (some r) fun d => k (fun _ r => r) d
    | _ :: _ => False
  | .any, .v _, d, k => k (fun _ r => r) d
  | .nil, .nil, d, k => k (fun _ r => r) d
  | .cons s ss, .cons t ts, d, k => s.dec t d fun f d => forceD d fun d => ss.dec ts d fun g d => k (fun R r => f _ (g R r)) d
  | _, _, _, _ => False
def Sh.decs : (ss : List Sh) → List T → D → ((∀ R : Type, R → Sh.adds ss R) → D → Prop) → Prop
  | [], [], d, k => k (fun _ r => r) d
  | s :: ss, t :: ts, d, k => s.dec t d fun f d => forceD d fun d => Sh.decs ss ts d fun g d => k (fun R r => f _ (g R r)) d
  | _, _, _, _ => False
def notIn (r : Nat) : List Nat → Bool
  | [] => true
  | x :: l => !Nat.beq x r && notIn r l
def CSh.dec (c : CSh) (q : Nat) (d : D) (k : (∀ R : Type, R → c.add R) → D → Prop) : Prop :=
  mapK d.map q fun
    | none => match c, k with
      | .row _ e, k => k (fun _ r => (([] : List e.ty), r)) d
      | .own _, _ => False
    | some r => match notIn r d.lent with
      | false => False
      | true => lookK d.hp r fun ch => delK d.hp r fun hp => match c, k with
        | .row ty e, k => match ch with
          | .row ty' e' xs => match Nat.beq ty' ty with
            | true => castK e' e xs fun xs => k (fun _ r => (xs, r)) ⟨d.n, hp, d.map, d.lent⟩
            | false => False
          | _ => False
        | .own s, k => match ch with
          | .own t => s.dec t ⟨d.n, hp, d.map, d.lent⟩ k
          | _ => False
def CSh.decs : (cs : List (Nat × CSh)) → D → ((∀ R : Type, R → CSh.adds cs R) → D → Prop) → Prop
  | [], d, k => k (fun _ r => r) d
  | (q, c) :: cs, d, k => c.dec q d fun f d => forceD d fun d => CSh.decs cs d fun g d => k (fun R r => f _ (g R r)) d

/-! Ghosts in their plain form. -/
def Sh.forceK : (s : Sh) → {R : Type} → s.add R → (R → (R → Prop) → Prop) → (s.add R → Prop) → Prop
  | .el _, _, (a, r), q, k => q r fun r => k (a, r)
  | .lend _, _, (a, r), q, k => q r fun r => k (a, r)
  | .rp _, _, (a, r), q, k => q r fun r => k (a, r)
  | .own _, _, x, q, k => q x k
  | .ref _, _, x, q, k => q x k
  | .any, _, x, q, k => q x k
  | .nil, _, x, q, k => q x k
  | .cons s ss, _, x, q, k => s.forceK x (fun x k => ss.forceK x q k) k
def Sh.forcesK : (ss : List Sh) → {R : Type} → Sh.adds ss R → (R → (R → Prop) → Prop) → (Sh.adds ss R → Prop) → Prop
  | [], _, x, q, k => q x k
  | s :: ss, _, x, q, k => s.forceK x (fun x k => Sh.forcesK ss x q k) k
def CSh.forceK : (c : CSh) → {R : Type} → c.add R → (R → (R → Prop) → Prop) → (c.add R → Prop) → Prop
  | .row _ _, _, (a, r), q, k => q r fun r => k (a, r)
  | .own s, _, x, q, k => s.forceK x q k
def CSh.forcesK : (cs : List (Nat × CSh)) → {R : Type} → CSh.adds cs R → (R → (R → Prop) → Prop) → (CSh.adds cs R → Prop) → Prop
  | [], _, x, q, k => q x k
  | (_, c) :: cs, _, x, q, k => c.forceK x (fun x k => CSh.forcesK cs x q k) k
def ghF (cs : List (Nat × CSh)) (ss : List Sh) (x : Gh cs ss) (k : Gh cs ss → Prop) : Prop := CSh.forcesK cs x (fun x k => Sh.forcesK ss x (fun x k => k x) k) k
theorem Sh.forceK_eq : ∀ (s : Sh) {R : Type} (x : s.add R) (q : R → (R → Prop) → Prop) (k : s.add R → Prop), (∀ r k, q r k = k r) → s.forceK x q k = k x
  | .el _, _, (a, r), q, k, h => h r _
  | .lend _, _, (a, r), q, k, h => h r _
  | .rp _, _, (a, r), q, k, h => h r _
  | .own _, _, x, q, k, h => h x _
  | .ref _, _, x, q, k, h => h x _
  | .any, _, x, q, k, h => h x _
  | .nil, _, x, q, k, h => h x _
  | .cons s ss, _, x, q, k, h => Sh.forceK_eq s x _ k fun r k => Sh.forceK_eq ss r q k h
theorem Sh.forcesK_eq : ∀ (ss : List Sh) {R : Type} (x : Sh.adds ss R) (q : R → (R → Prop) → Prop) (k : Sh.adds ss R → Prop), (∀ r k, q r k = k r) → Sh.forcesK ss x q k = k x
  | [], _, x, q, k, h => h x _
  | s :: ss, _, x, q, k, h => Sh.forceK_eq s x _ k fun r k => Sh.forcesK_eq ss r q k h
theorem CSh.forceK_eq (c : CSh) {R : Type} (x : c.add R) (q : R → (R → Prop) → Prop) (k : c.add R → Prop) (h : ∀ r k, q r k = k r) : c.forceK x q k = k x := by
  cases c with
  | row ty e => exact h x.2 _
  | own s => exact Sh.forceK_eq s x q k h
theorem CSh.forcesK_eq : ∀ (cs : List (Nat × CSh)) {R : Type} (x : CSh.adds cs R) (q : R → (R → Prop) → Prop) (k : CSh.adds cs R → Prop), (∀ r k, q r k = k r) → CSh.forcesK cs x q k = k x
  | [], _, x, q, k, h => h x _
  | (_, c) :: cs, _, x, q, k, h => CSh.forceK_eq c x _ k fun r k => CSh.forcesK_eq cs r q k h
theorem ghF_eq (cs : List (Nat × CSh)) (ss : List Sh) (x : Gh cs ss) (k : Gh cs ss → Prop) : ghF cs ss x k = k x :=
  CSh.forcesK_eq cs x _ k fun r k => Sh.forcesK_eq ss r _ k fun _ _ => rfl

/-- A state, told by its ghosts. -/
def decSt (cs : List (Nat × CSh)) (ss : List Sh) (ts : List T) (hp : Hp) (n : Nat) (map : List (Nat × Option Nat)) (k : Gh cs ss → D → Prop) : Prop :=
  Sh.decs ss ts ⟨n, hp, map, []⟩ fun f d => CSh.decs cs d fun g d => ghF cs ss (g _ (f Unit ())) fun x => k x d

/-- Each number once. -/
def idsOk : List (Nat × CSh) → Bool
  | [] => true
  | (q, _) :: cs => fresh q cs && idsOk cs
where
  fresh (q : Nat) : List (Nat × CSh) → Bool
    | [] => true
    | (q', _) :: cs => !Nat.beq q' q && fresh q cs

def anchors : Nat → List (Nat × Option Nat)
  | 0 => []
  | n + 1 => (n, some n) :: anchors n

/-! Contracts. -/
inductive PostK (X Y : Type) where
  | fn (f : X → Y)
  | rel (R : X → Y → Prop)

structure Spec where
  n : Nat
  cs : List (Nat × CSh)
  ar : List Sh
  pre : Gh cs ar → Prop
  n' : Nat
  cs' : List (Nat × CSh)
  rs : List Sh
  post : PostK (Gh cs ar) (Gh cs' rs)

def renN (map : List (Nat × Option Nat)) (n nx : Nat) (q : Nat) : Nat :=
  match Nat.blt q n with
  | true => go map
  | false => nx + (q - n)
where
  go : List (Nat × Option Nat) → Nat
    | [] => 0
    | (q', r) :: l => match Nat.beq q' q with
      | true => r.getD 0
      | false => go l

def resT : List T → T
  | [t] => t
  | ts => .tup (tupOf ts)
where
  tupOf : List T → T
    | [] => .nil
    | t :: ts => .cons t (tupOf ts)

/-- The numbers of the caller's that are spoken of behind the call. -/
def Sh.ids (n : Nat) : Sh → List Nat
  | .own q => match Nat.blt q n with
    | true => [q]
    | false => []
  | .ref q => match Nat.blt q n with
    | true => [q]
    | false => []
  | .cons s ss => s.ids n ++ ss.ids n
  | _ => []
def Sh.idss (n : Nat) : List Sh → List Nat
  | [] => []
  | s :: ss => s.ids n ++ Sh.idss n ss
def CSh.idss (n : Nat) : List (Nat × CSh) → List Nat
  | [] => []
  | (q, .row _ _) :: cs => match Nat.blt q n with
    | true => q :: CSh.idss n cs
    | false => CSh.idss n cs
  | (q, .own s) :: cs => match Nat.blt q n with
    | true => q :: (s.ids n ++ CSh.idss n cs)
    | false => s.ids n ++ CSh.idss n cs
def inIds (q : Nat) : List (Nat × CSh) → Bool
  | [] => false
  | (q', _) :: cs => Nat.beq q' q || inIds q cs
def keepK (map : List (Nat × Option Nat)) (cs : List (Nat × CSh)) : List Nat → Prop → Prop
  | [], k => k
  | q :: l, k => match inIds q cs with
    | true => mapK map q fun
      | some _ => keepK map cs l k
      | none => False
    | false => False
/-- Without slices that are looked at. -/
def El.bare : El → Bool
  | .rd _ => false
  | .cons e es => e.bare && es.bare
  | .ar _ e => e.bare
  | _ => true
def Sh.bare : Sh → Bool
  | .el e => e.bare
  | .lend _ => false
  | .rp _ => false
  | .cons s ss => s.bare && ss.bare
  | _ => true
def Sh.bares : List Sh → Bool
  | [] => true
  | s :: ss => s.bare && Sh.bares ss
def CSh.bares : List (Nat × CSh) → Bool
  | [] => true
  | (_, .row _ e) :: cs => e.bare && CSh.bares cs
  | (_, .own s) :: cs => s.bare && CSh.bares cs
def lentOkK (l : List Nat) (S : Spec) (k : Prop) : Prop :=
  match l with
  | [] => k
  | _ => match CSh.bares S.cs' && Sh.bares S.rs with
    | true => k
    | false => False

def retK (S : Spec) (d : D) (nx : Nat) (y : Gh S.cs' S.rs) (k : T → Hp → Nat → Prop) : Prop :=
  keepK d.map S.cs (CSh.idss S.n S.cs' ++ Sh.idss S.n S.rs) <| lentOkK d.lent S <| CSh.encsK (renN d.map S.n nx) S.cs' y fun hp y => Sh.encsK (renN d.map S.n nx) S.rs y fun ts _ => lappK d.hp hp fun hp => natK (nx + (S.n' - S.n)) fun nx => k (resT ts) hp nx

/-- A name for a value. -/
structure Nm {α : Type} (a b : α) : Prop where
  out : a = b
def Sh.nmK : (s : Sh) → {R : Type} → s.add R → s.add R → (R → R → Prop) → Prop
  | .el _, _, (a, x), (b, y), k => Nm a b → k x y
  | .lend _, _, (a, x), (b, y), k => Nm a b → k x y
  | .rp _, _, (a, x), (b, y), k => Nm a b → k x y
  | .own _, _, x, y, k => k x y
  | .ref _, _, x, y, k => k x y
  | .any, _, x, y, k => k x y
  | .nil, _, x, y, k => k x y
  | .cons s ss, _, x, y, k => s.nmK x y fun x y => ss.nmK x y k
def Sh.nmsK : (ss : List Sh) → {R : Type} → Sh.adds ss R → Sh.adds ss R → (R → R → Prop) → Prop
  | [], _, x, y, k => k x y
  | s :: ss, _, x, y, k => s.nmK x y fun x y => Sh.nmsK ss x y k
def CSh.nmK : (c : CSh) → {R : Type} → c.add R → c.add R → (R → R → Prop) → Prop
  | .row _ _, _, (a, x), (b, y), k => Nm a b → k x y
  | .own s, _, x, y, k => s.nmK x y k
def CSh.nmsK : (cs : List (Nat × CSh)) → {R : Type} → CSh.adds cs R → CSh.adds cs R → (R → R → Prop) → Prop
  | [], _, x, y, k => k x y
  | (_, c) :: cs, _, x, y, k => c.nmK x y fun x y => CSh.nmsK cs x y k
def ghNm (cs : List (Nat × CSh)) (ss : List Sh) (x y : Gh cs ss) (k : Prop) : Prop := CSh.nmsK cs x y fun x y => Sh.nmsK ss x y fun _ _ => k
theorem Sh.nmK_out : ∀ (s : Sh) {R : Type} (x : s.add R) (k : R → R → Prop), s.nmK x x k → ∃ r, k r r
  | .el _, _, (a, x), k, h => ⟨x, h ⟨rfl⟩⟩
  | .lend _, _, (a, x), k, h => ⟨x, h ⟨rfl⟩⟩
  | .rp _, _, (a, x), k, h => ⟨x, h ⟨rfl⟩⟩
  | .own _, _, x, k, h => ⟨x, h⟩
  | .ref _, _, x, k, h => ⟨x, h⟩
  | .any, _, x, k, h => ⟨x, h⟩
  | .nil, _, x, k, h => ⟨x, h⟩
  | .cons s ss, _, x, k, h => by
    obtain ⟨r, hr⟩ := Sh.nmK_out s x _ h
    exact Sh.nmK_out ss r k hr
theorem Sh.nmsK_out : ∀ (ss : List Sh) {R : Type} (x : Sh.adds ss R) (k : R → R → Prop), Sh.nmsK ss x x k → ∃ r, k r r
  | [], _, x, k, h => ⟨x, h⟩
  | s :: ss, _, x, k, h => by
    obtain ⟨r, hr⟩ := Sh.nmK_out s x _ h
    exact Sh.nmsK_out ss r k hr
theorem CSh.nmK_out (c : CSh) {R : Type} (x : c.add R) (k : R → R → Prop) (h : c.nmK x x k) : ∃ r, k r r := by
  cases c with
  | row ty e => exact ⟨x.2, h ⟨rfl⟩⟩
  | own s => exact Sh.nmK_out s x k h
theorem CSh.nmsK_out : ∀ (cs : List (Nat × CSh)) {R : Type} (x : CSh.adds cs R) (k : R → R → Prop), CSh.nmsK cs x x k → ∃ r, k r r
  | [], _, x, k, h => ⟨x, h⟩
  | (_, c) :: cs, _, x, k, h => by
    obtain ⟨r, hr⟩ := CSh.nmK_out c x _ h
    exact CSh.nmsK_out cs r k hr
theorem ghNm_out {cs : List (Nat × CSh)} {ss : List Sh} {x : Gh cs ss} {k : Prop} (h : ghNm cs ss x x k) : k := by
  obtain ⟨r, hr⟩ := CSh.nmsK_out cs x _ h
  exact (Sh.nmsK_out ss r _ hr).elim fun _ h => h

/-- A call by a contract; nm: what it hands back is named. -/
def Spec.callB (S : Spec) (nm : Bool) (args : List T) (hp : Hp) (nx : Nat) (k : T → Hp → Nat → Prop) : Prop :=
  decSt S.cs S.ar args hp S.n [] fun x d => Is (S.pre x) ∧ match S.post with
    | .fn f => (match nm with
      | false => retK S d nx (f x) k
      | true => ghAll S.cs' S.rs fun y => ghNm S.cs' S.rs y (f x) (ghK S.cs' S.rs y (retK S d nx y k)))
    | .rel R => ghAll S.cs' S.rs fun y => R x y → ghK S.cs' S.rs y (retK S d nx y k)

@[reducible] def Spec.call (S : Spec) : List T → Hp → Nat → (T → Hp → Nat → Prop) → Prop := S.callB false
@[reducible] def Spec.callN (S : Spec) : List T → Hp → Nat → (T → Hp → Nat → Prop) → Prop := S.callB true

/-! Code. -/
structure Ann where
  nx : Nat
  cs : List (Nat × CSh)
  ss : List (Nat × Sh)
  inv : Gh cs (ss.map (·.2)) → Gh cs (ss.map (·.2)) → Prop
  mu : Gh cs (ss.map (·.2)) → Nat

def getsK (fr : List T) : List (Nat × Sh) → (List T → Prop) → Prop
  | [], k => k []
  | (i, _) :: l, k => lgetK fr i fun t => getsK fr l fun ts => k (t :: ts)
def setsK : List T → List (Nat × Sh) → List T → (List T → Prop) → Prop
  | fr, [], _, k => k fr
  | fr, (i, _) :: l, t :: ts, k => lsetK fr i t fun fr => setsK fr l ts k
  | _, _ :: _, [], _ => False
def anys : List T → List T
  | [] => []
  | _ :: l => .v .any :: anys l

def sameLenK : List T → List T → Prop → Prop
  | [], [], k => k
  | _ :: l, _ :: m, k => sameLenK l m k
  | _, _, _ => False

def firstReg : Code → Nat
  | .region i _ _ => i
  | .seq a b => match firstReg a with
    | 0 => firstReg b
    | n => n
  | .cond _ a b => match firstReg a with
    | 0 => firstReg b
    | n => n
  | .block _ c => firstReg c
  | .loop c => firstReg c
  | _ => 0
def annK (l : List (Nat × Ann)) (i : Nat) (k : Ann → Prop) : Prop :=
  match l with
  | [] => False
  | (j, a) :: l => match Nat.beq j i with
    | true => k a
    | false => annK l i k

/-- What a function's text is told by us: its drawn regions' roads, its loops' states. -/
structure Hints where
  plans : List (Nat × Plan)
  anns : List (Nat × Ann)

def planAtK (l : List (Nat × Plan)) (i : Nat) (k : Plan → Prop) : Prop :=
  match l with
  | [] => False
  | (j, a) :: l => match Nat.beq j i with
    | true => k a
    | false => planAtK l i k
def planAt (l : List (Nat × Plan)) (i : Nat) : Option Plan :=
  match l with
  | [] => none
  | (j, a) :: l => match Nat.beq j i with
    | true => some a
    | false => planAt l i

/-- Are the roads the right ones? -/
def codeOk (l : List (Nat × Plan)) : Code → Bool
  | .region i ops true => match planAt l i with
    | some p => regOk ops.toList p
    | none => false
  | .seq a b => codeOk l a && codeOk l b
  | .cond _ a b => codeOk l a && codeOk l b
  | .block _ c => codeOk l c
  | .loop c => codeOk l c
  | _ => true

noncomputable def denC (E : Env) (na : Nat) (as : Hints) (c : Code) : List T → Hp → Nat → (Exit → List T → Hp → Nat → Prop) → Prop :=
  Code.rec (motive := fun _ => List T → Hp → Nat → (Exit → List T → Hp → Nat → Prop) → Prop)
    (fun fr hp nx Q => Q .normal fr hp nx)
    (fun i ops d fr hp nx Q => match d with
      | false => denOps E ops.toList ops.toList fr hp nx (Q .normal)
      | true => planAtK as.plans i fun p => planK E ops.toList (Q .normal) p fr hp nx)
    (fun _ _ iha ihb fr hp nx Q => iha fr hp nx fun e fr hp nx => match e with
      | .normal => ihb fr hp nx Q
      | e => Q e fr hp nx)
    (fun c _ _ iha ihb fr hp nx Q => evalK fr c fun
      | .v .tt => iha fr hp nx Q
      | .v .ff => ihb fr hp nx Q
      | .v (.bool v) => match c with
        | .tmp t => (v = true → lsetK fr t (.v .tt) fun fr => iha fr hp nx Q) ∧ (v = false → lsetK fr t (.v .ff) fun fr => ihb fr hp nx Q)
        | _ => (v = true → iha fr hp nx Q) ∧ (v = false → ihb fr hp nx Q)
      | _ => False)
    (fun i _ ih fr hp nx Q => ih fr hp nx fun e fr hp nx => match e with
      | .exit j => match Nat.beq j i with
        | true => Q .normal fr hp nx
        | false => Q (.exit j) fr hp nx
      | e => Q e fr hp nx)
    (fun c ih fr0 hp _ Q => annK as.anns (firstReg c) fun A => match Nat.ble na A.nx && idsOk A.cs with
      | false => False
      | true => getsK fr0 A.ss fun ts => decSt A.cs (A.ss.map (·.2)) ts hp A.nx (anchors na) fun x0 _ => Is (A.inv x0 x0) ∧ ghAll A.cs (A.ss.map (·.2)) fun x => A.inv x0 x → ghK A.cs (A.ss.map (·.2)) x (
        CSh.encsK id A.cs x fun hp x' => Sh.encsK id (A.ss.map (·.2)) x' fun ts _ => setsK (anys fr0) A.ss ts fun fr => ih fr hp A.nx fun e fr hp nx => match e with
          | .normal => sameLenK fr0 fr (getsK fr A.ss fun ts => decSt A.cs (A.ss.map (·.2)) ts hp A.nx (anchors na) fun y _ => Is (A.inv x0 y ∧ A.mu y < A.mu x))
          | e => Q e fr hp nx))
    (fun _ _ _ _ _ _ _ _ _ _ => False)
    (fun i fr hp nx Q => Q (.exit i) fr hp nx)
    (fun _ _ _ _ _ _ => False)
    (fun _ _ _ _ _ => False)
    (fun _ _ _ _ _ => False)
    (fun fr hp nx Q => Q .ret fr hp nx)
    (fun _ _ _ _ _ => False) c

/-- What a function hands back. -/
def resK (E : Env) (fr : List T) (hp : Hp) : List ResultVar → (List T → Prop) → Prop
  | [], k => k []
  | .tmp t :: l, k => lgetK fr t fun x => resK E fr hp l fun xs => k (x :: xs)
  | .cell a t :: l, k => lgetK fr a fun x => tyK E.ty t fun y => match x with
    | .v (.ptr r p) => lookK hp r fun c => tgetK p c.tree fun t => match Nat.beq t.size y.size with
      | true => shapeK y.k t fun t => resK E fr hp l fun xs => k (t :: xs)
      | false => False
    | _ => False

noncomputable def denF (E : Env) (S : Spec) (as : Hints) (f : Func) : Prop :=
  match f.body with
  | none => False
  | some c => ghAll S.cs S.ar fun x => S.pre x → ghK S.cs S.ar x (CSh.encsK id S.cs x fun hp x' => Sh.encsK id S.ar x' fun args _ => lpadK f.ntmps args fun fr => denC E S.n as c fr hp S.n fun e fr hp _ => match e with
    | .normal => fin x fr hp
    | .ret => fin x fr hp
    | _ => False)
where
  fin (x : Gh S.cs S.ar) (fr : List T) (hp : Hp) : Prop := resK E fr hp f.results.toList fun ts => decSt S.cs' S.rs ts hp S.n' (anchors S.n) fun y _ => match S.post with
    | .fn g => ghEq S.cs' S.rs y (g x)
    | .rel R => Is (R x y)

end Go.J
