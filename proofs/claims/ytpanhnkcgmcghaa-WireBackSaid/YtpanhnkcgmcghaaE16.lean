/-
  THE ENGINE, part 16: operations that make a value make one.
-/
import Derived.Test.YtpanhnkcgmcghaaE15
set_option linter.unusedSimpArgs false
set_option linter.unusedVariables false
set_option linter.unusedSectionVars false

namespace Go.J

/-- There is an outcome, and it alone counts. -/
def Det {α : Type} (p : (α → Prop) → Prop) : Prop := ∀ k, p k → ∃ x, k x ∧ ∀ k' : α → Prop, k' x → p k'

theorem Det.pure {α : Type} (a : α) : Det fun k : α → Prop => k a := fun _ h => ⟨a, h, fun _ h => h⟩
theorem Det.no {α : Type} : Det fun _ : α → Prop => False := fun _ h => h.elim
theorem Det.bind {α β : Type} {p : (α → Prop) → Prop} {q : α → (β → Prop) → Prop} (hp : Det p) (hq : ∀ x, Det (q x)) : Det fun k => p fun x => q x k := fun k h => by
  obtain ⟨x, h1, h2⟩ := hp _ h
  obtain ⟨y, h3, h4⟩ := hq x _ h1
  exact ⟨y, h3, fun k' hk => h2 _ (h4 k' hk)⟩
theorem Det.and {α : Type} {c : Prop} {q : (α → Prop) → Prop} (hq : Det q) : Det fun k => c ∧ q k := fun k h => by
  obtain ⟨x, h1, h2⟩ := hq _ h.2
  exact ⟨x, h1, fun k' hk => ⟨h.1, h2 k' hk⟩⟩
theorem Det.split {α : Type} {b : Bool} {q r : (α → Prop) → Prop} (hq : Det q) (hr : Det r) : Det fun k => (b = true → q k) ∧ (b = false → r k) := fun k h => by
  cases b with
  | true =>
    obtain ⟨x, h1, h2⟩ := hq _ (h.1 rfl)
    exact ⟨x, h1, fun k' hk => ⟨fun _ => h2 k' hk, fun e => by cases e⟩⟩
  | false =>
    obtain ⟨x, h1, h2⟩ := hr _ (h.2 rfl)
    exact ⟨x, h1, fun k' hk => ⟨fun e => (by cases e), fun _ => h2 k' hk⟩⟩
theorem Det.map {α β : Type} {p : (α → Prop) → Prop} (hp : Det p) (f : α → β) : Det fun k : β → Prop => p fun x => k (f x) := hp.bind fun x => Det.pure (f x)

theorem lgetK_det {α : Type} (l : List α) (n : Nat) : Det (lgetK l n) := fun k h => by
  obtain ⟨x, h1, h2⟩ := lgetK_out h
  exact ⟨x, h2, fun k' hk => lgetK_mk h1 hk⟩
theorem lsetK_det {α : Type} (l : List α) (n : Nat) (x : α) : Det (lsetK l n x) := fun k h => by
  obtain ⟨h1, h2⟩ := lsetK_out h
  exact ⟨_, h2, fun k' hk => lsetK_mk h1 hk⟩
theorem evalK_det (fr : List T) (o : Operand) : Det (evalK fr o) := by
  cases o with
  | tmp t => exact lgetK_det fr t
  | const c => exact Det.pure _
  | func f => exact Det.pure _
  | global g => exact Det.no
theorem evalsK_det (fr : List T) : ∀ os : List Operand, Det (evalsK fr os)
  | [] => Det.pure _
  | o :: os => (evalK_det fr o).bind fun x => (evalsK_det fr os).map (x :: ·)
theorem tyK_det (l : List (Nat × TyI)) (t : TypeId) : Det (tyK l t) := by
  induction l with
  | nil => exact Det.no
  | cons p l ih =>
    obtain ⟨t', i⟩ := p
    intro k h
    unfold tyK at h
    cases hb : Nat.beq t' t <;> rw [hb] at h
    · obtain ⟨x, h1, h2⟩ := ih _ h
      exact ⟨x, h1, fun k' hk => by unfold tyK; rw [hb]; exact h2 k' hk⟩
    · exact ⟨i, h, fun k' hk => by unfold tyK; rw [hb]; exact hk⟩
theorem lookK_det (hp : Hp) (r : Nat) : Det (lookK hp r) := by
  induction hp with
  | nil => exact Det.no
  | cons p l ih =>
    obtain ⟨t', i⟩ := p
    intro k h
    unfold lookK at h
    cases hb : Nat.beq t' r <;> rw [hb] at h
    · obtain ⟨x, h1, h2⟩ := ih _ h
      exact ⟨x, h1, fun k' hk => by unfold lookK; rw [hb]; exact h2 k' hk⟩
    · exact ⟨i, h, fun k' hk => by unfold lookK; rw [hb]; exact hk⟩
theorem El.same_refl : ∀ e : El, e.same e = true
  | .u8 => rfl
  | .int k => by simp [El.same]
  | .bool => rfl
  | .str => rfl
  | .rd e => by simp only [El.same]; exact El.same_refl e
  | .nil => rfl
  | .cons e es => by simp only [El.same, El.same_refl e, El.same_refl es]; rfl
  | .ar n e => by simp only [El.same, El.same_refl e, Nat.beq_refl]; rfl
theorem castK_mk {e : El} {xs : List e.ty} {k : List e.ty → Prop} (h : k xs) : castK e e xs k := by
  have gen : (if hh : e.same e = true then k (El.same_eq hh ▸ xs) else False) := by
    rw [dif_pos (El.same_refl e)]
    exact h
  cases e <;> first | exact h | exact gen | skip
  simp only [castK, beq_self_eq_true]
  exact h
theorem castK_det (e' e : El) (xs : List e'.ty) : Det (castK e' e xs) := fun k h => by
  obtain ⟨he, hk⟩ := castK_out h
  subst he
  exact ⟨xs, hk, fun k' hk' => castK_mk hk'⟩
theorem fieldK_det : ∀ (i o : Nat) (t : T), Det (fieldK i o t)
  | 0, o, .cons t ts => by
    cases o with
    | zero => exact Det.pure t
    | succ o => exact Det.no
  | i + 1, o, .cons t ts => by
    show Det fun k => fieldK (i + 1) o (.cons t ts) k
    simp only [fieldK]
    cases Nat.ble t.size o
    · exact Det.no
    · exact fieldK_det i _ ts
  | 0, _, .v _ => by simp only [fieldK]; exact Det.no
  | 0, _, .nil => by simp only [fieldK]; exact Det.no
  | 0, _, .arr _ _ _ => by simp only [fieldK]; exact Det.no
  | 0, _, .tup _ => by simp only [fieldK]; exact Det.no
  | _ + 1, _, .v _ => by simp only [fieldK]; exact Det.no
  | _ + 1, _, .nil => by simp only [fieldK]; exact Det.no
  | _ + 1, _, .arr _ _ _ => by simp only [fieldK]; exact Det.no
  | _ + 1, _, .tup _ => by simp only [fieldK]; exact Det.no
theorem tgetK_det : ∀ (p : List Stp) (t : T), Det (tgetK p t)
  | [], t => Det.pure t
  | .f i o :: p, t => by
    show Det fun k => tgetK (.f i o :: p) t k
    simp only [tgetK]
    exact (fieldK_det i o t).bind fun t => tgetK_det p t
  | .x i sz :: p, .arr e xs n => by
    show Det fun k => tgetK (.x i sz :: p) (.arr e xs n) k
    simp only [tgetK]
    cases Nat.beq sz e.sz
    · exact Det.no
    · exact (tgetK_det p _).and
  | .x i sz :: p, .cons t ts => by
    show Det fun k => tgetK (.x i sz :: p) (.cons t ts) k
    simp only [tgetK]
    exact (fieldK_det i _ _).bind fun t => tgetK_det p t
  | .x _ _ :: _, .v _ => by simp only [tgetK]; exact Det.no
  | .x _ _ :: _, .nil => by simp only [tgetK]; exact Det.no
  | .x _ _ :: _, .tup _ => by simp only [tgetK]; exact Det.no
theorem shapeK_det (y : Ty) (t : T) : Det (shapeK y t) := by
  cases y <;> cases t <;> first | exact Det.pure _ | exact Det.no
theorem placeK_det2 {α : Type} {q : TypeId → Nat → (α → Prop) → Prop} (hq : ∀ t d, Det (q t d)) : ∀ (fs : List (TypeId × Nat)) (f : Nat), Det fun k => placeK fs f fun t d => q t d k
  | [], _ => by simp only [placeK]; exact Det.no
  | (t, d) :: _, 0 => hq t d
  | _ :: fs, f + 1 => placeK_det2 hq fs f
theorem decK_det : ∀ (e : El) (t : T) (hp : Hp), Det (decK e t hp) := by
  intro e
  induction e with
  | u8 =>
    intro t hp
    cases t with
    | v x =>
      cases x
      case int ik n =>
        show Det fun k => decK .u8 (.v (.int ik n)) hp k
        simp only [decK]
        cases ik == .u8
        · exact Det.no
        · exact (Det.pure _).and
      all_goals (simp only [decK]; exact Det.no)
    | _ => simp only [decK]; exact Det.no
  | int jk =>
    intro t hp
    cases t with
    | v x =>
      cases x
      case int ik n =>
        show Det fun k => decK (.int jk) (.v (.int ik n)) hp k
        simp only [decK]
        cases jk == ik
        · exact Det.no
        · exact Det.pure _
      all_goals (simp only [decK]; exact Det.no)
    | _ => simp only [decK]; exact Det.no
  | bool =>
    intro t hp
    cases t with
    | v x => cases x <;> first | exact Det.pure _ | (simp only [decK]; exact Det.no)
    | _ => simp only [decK]; exact Det.no
  | str =>
    intro t hp
    cases t with
    | v x => cases x <;> first | exact Det.pure _ | (simp only [decK]; exact Det.no)
    | _ => simp only [decK]; exact Det.no
  | rd e _ =>
    intro t hp
    cases t with
    | v x => cases x <;> first | exact Det.pure _ | exact castK_det _ _ _ | (simp only [decK]; exact Det.no)
    | _ => simp only [decK]; exact Det.no
  | nil =>
    intro t hp
    cases t with
    | v x => cases x <;> (simp only [decK]; exact Det.no)
    | nil => exact Det.pure _
    | _ => simp only [decK]; exact Det.no
  | cons e es ih1 ih2 =>
    intro t hp
    cases t with
    | v x => cases x <;> (simp only [decK]; exact Det.no)
    | cons t ts =>
      show Det fun k => decK (.cons e es) (.cons t ts) hp k
      simp only [decK]
      exact (ih1 t hp).bind fun x => (ih2 ts hp).map fun y => (x, y)
    | _ => simp only [decK]; exact Det.no
  | ar n e _ =>
    intro t hp
    cases t with
    | v x => cases x <;> (simp only [decK]; exact Det.no)
    | arr e' xs n' =>
      show Det fun k => decK (.ar n e) (.arr e' xs n') hp k
      simp only [decK]
      cases Nat.beq n n'
      · exact Det.no
      · exact castK_det _ _ _
    | _ => simp only [decK]; exact Det.no
theorem rdK_det (e : El) (hp : Hp) (x : V) : Det (rdK e hp x) := by
  cases x
  case rd e' xs => exact castK_det _ _ _
  case nils => exact Det.pure _
  case own r =>
    show Det fun k => rdK e hp (.own r) k
    simp only [rdK]
    refine (lookK_det hp r).bind (q := fun c k => match c with
      | .row _ e' xs => castK e' e xs k
      | .fz _ e' xs => castK e' e xs k
      | .own _ => False) fun c => ?_
    cases c
    · exact Det.no
    · exact castK_det _ _ _
    · exact castK_det _ _ _
  case sl r p off len sz =>
    show Det fun k => rdK e hp (.sl r p off len sz) k
    simp only [rdK]
    refine (lookK_det hp r).bind fun c => (tgetK_det p c.tree).bind (q := fun t k => match t with
      | .arr e' xs _ => match Nat.beq sz e'.sz with
        | true => off + len ≤ xs.length ∧ castK e' e ((xs.drop off).take len) k
        | false => False
      | _ => False) fun t => ?_
    cases t
    case arr e' xs n =>
      show Det fun k => match Nat.beq sz e'.sz with
        | true => off + len ≤ xs.length ∧ castK e' e ((xs.drop off).take len) k
        | false => False
      cases Nat.beq sz e'.sz
      · exact Det.no
      · exact (castK_det _ _ _).and
    all_goals exact Det.no
  all_goals exact (show Det fun k => rdK e hp _ k from Det.no)
theorem loK_det (fr : List T) (lo : Option Operand) (d : Int) : Det (loK fr lo d) := by
  cases lo with
  | none => exact Det.pure _
  | some o =>
    show Det fun k => loK fr (some o) d k
    simp only [loK]
    refine (evalK_det fr o).bind (q := fun t k => match t with
      | .v (.int _ n) => k n
      | _ => False) fun t => ?_
    cases t with
    | v x => cases x <;> first | exact Det.pure _ | exact Det.no
    | _ => exact Det.no
theorem partsK_det (fr : List T) : ∀ ps : List (Nat × Operand), Det (partsK fr ps)
  | [] => Det.pure _
  | (i, o) :: ps => by
    show Det fun k => partsK fr ((i, o) :: ps) k
    simp only [partsK]
    refine (evalK_det fr o).bind (q := fun x k => match x.known with
      | false => False
      | true => partsK fr ps fun l => k ((i, x) :: l)) fun x => ?_
    cases x.known
    · exact Det.no
    · exact (partsK_det fr ps).map _
theorem setChk_det {new : T} : ∀ (i : Nat) (t : T), Det (setFieldChkK i t new)
  | 0, .cons t ts => by
    show Det fun k => setFieldChkK 0 (.cons t ts) new k
    simp only [setFieldChkK]
    cases Nat.beq t.size new.size
    · exact Det.no
    · exact Det.pure _
  | i + 1, .cons t ts => (setChk_det i ts).map _
  | 0, .v _ => by simp only [setFieldChkK]; exact Det.no
  | 0, .nil => by simp only [setFieldChkK]; exact Det.no
  | 0, .arr _ _ _ => by simp only [setFieldChkK]; exact Det.no
  | 0, .tup _ => by simp only [setFieldChkK]; exact Det.no
  | _ + 1, .v _ => by simp only [setFieldChkK]; exact Det.no
  | _ + 1, .nil => by simp only [setFieldChkK]; exact Det.no
  | _ + 1, .arr _ _ _ => by simp only [setFieldChkK]; exact Det.no
  | _ + 1, .tup _ => by simp only [setFieldChkK]; exact Det.no
theorem fillSK_det : ∀ (ps : List (Nat × T)) (t : T), Det (fillSK t ps)
  | [], t => Det.pure _
  | (i, x) :: ps, t => (setChk_det i t).bind fun t => fillSK_det ps t
theorem fillAK_det (e : El) (hp : Hp) : ∀ (ps : List (Nat × T)) (xs : List e.ty), Det (fillAK e xs ps hp)
  | [], xs => Det.pure _
  | (i, x) :: ps, xs => (decK_det e x hp).bind fun x => (lsetK_det xs i x).bind fun xs => fillAK_det e hp ps xs
theorem cmpI_det (op : BinOp) (x y : Int) : Det (cmpI op x y) := by
  cases op <;> first | exact Det.pure _ | exact (show Det fun k => cmpI _ x y k from Det.no)
theorem binI_det (op : BinOp) (ik : IntKind) (x y : Int) : Det (binI op ik x y) := by
  cases op <;> first | exact Det.pure _ | exact (Det.pure _).and | exact (show Det fun k => binI _ ik x y k from Det.no)
theorem shI_det (op : BinOp) (ik : IntKind) (x y : Int) : Det (shI op ik x y) := by
  cases op <;> first | exact (Det.pure _).and | exact (show Det fun k => shI _ ik x y k from Det.no)
theorem eqOpK_det (op : BinOp) (r : V) : Det (denOp.eqOpK op r) := by
  cases op <;> first | exact Det.pure _ | exact (show Det fun k => denOp.eqOpK _ r k from Det.no)
theorem eqTK_det : ∀ (x y : T), Det (eqTK x y)
  | .nil, .nil => Det.pure _
  | .cons t ts, .cons u us => (eqTK_det t u).bind fun x => (eqTK_det ts us).map fun y => andV x y
  | .arr e xs n, .arr e' ys n' => by
    show Det fun k => eqTK (.arr e xs n) (.arr e' ys n') k
    simp only [eqTK]
    cases Nat.beq n n'
    · exact Det.no
    · exact (castK_det _ _ _).map _
  | .v x, .v y => by
    show Det fun k => eqTK (.v x) (.v y) k
    cases x <;> cases y <;> simp only [eqTK, boolV] <;> first
      | exact Det.pure _
      | exact Det.no
      | skip
    rename_i a x b y
    cases a == b
    · exact Det.no
    · exact Det.pure _
  | .nil, .v _ => by simp only [eqTK]; exact Det.no
  | .nil, .cons _ _ => by simp only [eqTK]; exact Det.no
  | .nil, .arr _ _ _ => by simp only [eqTK]; exact Det.no
  | .nil, .tup _ => by simp only [eqTK]; exact Det.no
  | .cons _ _, .v _ => by simp only [eqTK]; exact Det.no
  | .cons _ _, .nil => by simp only [eqTK]; exact Det.no
  | .cons _ _, .arr _ _ _ => by simp only [eqTK]; exact Det.no
  | .cons _ _, .tup _ => by simp only [eqTK]; exact Det.no
  | .arr _ _ _, .v _ => by simp only [eqTK]; exact Det.no
  | .arr _ _ _, .nil => by simp only [eqTK]; exact Det.no
  | .arr _ _ _, .cons _ _ => by simp only [eqTK]; exact Det.no
  | .arr _ _ _, .tup _ => by simp only [eqTK]; exact Det.no
  | .v x, .nil => by cases x <;> exact (show Det fun k => eqTK (.v _) _ k from Det.no)
  | .v x, .cons _ _ => by cases x <;> exact (show Det fun k => eqTK (.v _) _ k from Det.no)
  | .v x, .arr _ _ _ => by cases x <;> exact (show Det fun k => eqTK (.v _) _ k from Det.no)
  | .v x, .tup _ => by cases x <;> exact (show Det fun k => eqTK (.v _) _ k from Det.no)
  | .tup _, _ => by simp only [eqTK]; exact Det.no

theorem tupGetK_det : ∀ (i : Nat) (t : T), Det (denOp.tupGetK i t)
  | 0, .cons t _ => Det.pure _
  | i + 1, .cons _ ts => tupGetK_det i ts
  | 0, .v _ => by simp only [denOp.tupGetK]; exact Det.no
  | 0, .nil => by simp only [denOp.tupGetK]; exact Det.no
  | 0, .arr _ _ _ => by simp only [denOp.tupGetK]; exact Det.no
  | 0, .tup _ => by simp only [denOp.tupGetK]; exact Det.no
  | _ + 1, .v _ => by simp only [denOp.tupGetK]; exact Det.no
  | _ + 1, .nil => by simp only [denOp.tupGetK]; exact Det.no
  | _ + 1, .arr _ _ _ => by simp only [denOp.tupGetK]; exact Det.no
  | _ + 1, .tup _ => by simp only [denOp.tupGetK]; exact Det.no

end Go.J
