/-
  THE ENGINE, part 17: a value operation's value.
-/
import Derived.Test.YtpanhnkcgmcghaaE16
set_option linter.unusedSimpArgs false
set_option linter.unusedVariables false
set_option linter.unusedSectionVars false

namespace Go.J

def notNils : T → Prop
  | .v .nils => False
  | _ => True
def noNilP (o : Op) (fr : List T) : Prop :=
  match o with
  | .binOp _ _ _ y _ => evalK fr y notNils
  | _ => True

/-- What a value operation asks of whoever takes its value. -/
def valK (E : Env) (o : Op) (fr : List T) (hp : Hp) (k : T → Prop) : Prop := denOp E o fr hp 0 fun x _ _ => k x

theorem noNilK_out {o : Op} {fr : List T} {q : Prop} (h : noNilK o fr q) : noNilP o fr ∧ q := by
  cases o <;> first | exact ⟨trivial, h⟩ | skip
  rename_i y _
  obtain ⟨u, hu, hk⟩ := evalK_det fr y _ h
  revert hu
  split
  · exact fun h => h.elim
  · next hn =>
    refine fun hq => ⟨hk notNils ?_, hq⟩
    unfold notNils
    split
    · exact (hn rfl).elim
    · trivial
theorem noNilK_mk {o : Op} {fr : List T} {q : Prop} (h : noNilP o fr) (hq : q) : noNilK o fr q := by
  cases o <;> first | exact hq | skip
  refine evalK_congr h (fun _ _ => rfl) fun u hu => ?_
  split
  · exact hu
  · exact hq

theorem val_same {E : Env} {o : Op} {fr : List T} {hp : Hp} {nx : Nat} {k : T → Hp → Nat → Prop} (hv : valueOp o = true) : denOp E o fr hp nx k = denOp E o fr hp 0 (fun x _ _ => k x hp nx) := by
  cases o <;> first | rfl | (simp only [valueOp, Bool.false_eq_true] at hv; done) | skip
  case call c =>
    cases hc : c.callee with
    | builtin b => cases b <;> simp only [denOp, hc] <;> first | rfl | (simp [valueOp, hc] at hv)
    | value x => simp [valueOp, hc] at hv
    | invoke _ _ => simp [valueOp, hc] at hv

theorem decK_hp : ∀ (e : El) (t : T) (hp hp2 : Hp) (k : e.ty → Prop), decK e t hp k = decK e t hp2 k := by
  intro e
  induction e with
  | cons e es ih1 ih2 =>
    intro t hp hp2 k
    cases t with
    | cons t ts =>
      simp only [decK]
      rw [ih1 t hp hp2]
      congr 1
      funext x
      exact ih2 ts hp hp2 _
    | v x => cases x <;> rfl
    | _ => rfl
  | u8 => intro t hp hp2 k; cases t with
    | v x => cases x <;> rfl
    | _ => rfl
  | int _ => intro t hp hp2 k; cases t with
    | v x => cases x <;> rfl
    | _ => rfl
  | bool => intro t hp hp2 k; cases t with
    | v x => cases x <;> rfl
    | _ => rfl
  | str => intro t hp hp2 k; cases t with
    | v x => cases x <;> rfl
    | _ => rfl
  | rd _ _ => intro t hp hp2 k; cases t with
    | v x => cases x <;> rfl
    | _ => rfl
  | nil => intro t hp hp2 k; cases t with
    | v x => cases x <;> rfl
    | _ => rfl
  | ar _ _ _ => intro t hp hp2 k; cases t with
    | v x => cases x <;> rfl
    | _ => rfl

theorem fillAK_hp (e : El) : ∀ (ps : List (Nat × T)) (xs : List e.ty) (hp hp2 : Hp) (k : List e.ty → Prop), fillAK e xs ps hp k = fillAK e xs ps hp2 k
  | [], _, _, _, _ => rfl
  | (i, x) :: ps, xs, hp, hp2, k => by
    simp only [fillAK]
    rw [decK_hp e x hp hp2]
    congr 1
    funext y
    congr 1
    funext ys
    exact fillAK_hp e ps ys hp hp2 k

theorem evalK_iff {fr : List T} {o : Operand} {k k' : T → Prop} (hk : ∀ x, k x ↔ k' x) : evalK fr o k ↔ evalK fr o k' :=
  ⟨fun h => evalK_congr h (fun _ _ => rfl) fun x => (hk x).1, fun h => evalK_congr h (fun _ _ => rfl) fun x => (hk x).2⟩

/-- Both sides hang on the same operand. -/
theorem evalK_two {fr : List T} {o : Operand} {p q r : T → Prop} (h1 : evalK fr o p) (h2 : evalK fr o q) (h : ∀ x, p x → q x → r x) : evalK fr o r := by
  obtain ⟨x, hx, hp⟩ := evalK_det fr o _ h1
  obtain ⟨y, hy, hq⟩ := evalK_det fr o _ h2
  obtain ⟨z, e1, e2⟩ := evalK_det fr o _ (hp (fun t => t = x) rfl)
  subst e1
  obtain ⟨z', e1', _⟩ := evalK_det fr o _ (hq (fun t => t = y) rfl)
  subst e1'
  have : z = z' := by
    cases o with
    | tmp t =>
      obtain ⟨a, ha, ka⟩ := lgetK_out (hp (fun t => t = z) rfl)
      obtain ⟨b, hb, kb⟩ := lgetK_out (hq (fun t => t = z') rfl)
      rw [ha] at hb
      simp at hb
      rw [← ka, ← kb, hb]
    | const c => exact (hp (fun t => t = z) rfl).symm.trans (hq (fun t => t = z') rfl)
    | func f => exact (hp (fun t => t = z) rfl).symm.trans (hq (fun t => t = z') rfl)
    | global g => exact h1.elim
  subst this
  exact e2 r (h z hx hy)

/-- A known operand. -/
theorem evalK_at {fr : List T} {o : Operand} {p : T → Prop} (h : evalK fr o p) : ∃ t, p t ∧ ∀ q : T → Prop, evalK fr o q ↔ q t := by
  cases o with
  | tmp i =>
    obtain ⟨t, ht, hp⟩ := lgetK_out h
    refine ⟨t, hp, fun q => ⟨fun hq => ?_, fun hq => lgetK_mk ht hq⟩⟩
    obtain ⟨t', ht', hq'⟩ := lgetK_out hq
    rw [ht] at ht'
    simp at ht'
    subst ht'
    exact hq'
  | const c => exact ⟨_, h, fun q => Iff.rfl⟩
  | func f => exact ⟨_, h, fun q => Iff.rfl⟩
  | global g => exact h.elim

theorem valK_hp {E : Env} {o : Op} {fr : List T} {hp hp2 : Hp} {k : T → Prop} (hv : valueOp o = true) (hr : readsHp o = false) (hn : noNilP o fr) (h : valK E o fr hp k) : valK E o fr hp2 k := by
  cases o <;> first | exact h | (simp only [valueOp, Bool.false_eq_true] at hv; done) | (simp only [readsHp, Bool.true_eq_false] at hr; done) | skip
  case build t ps =>
    simp only [valK, denOp] at h ⊢
    refine tyK_mono h fun y hy => partsK_congr hy (fun _ _ => rfl) fun l hl => ?_
    revert hl
    split
    · exact fun h => h
    · split
      · exact fun h => by rw [fillAK_hp _ _ _ hp2 hp]; exact h
      · exact fun h => h
    · exact fun h => h
  case binOp op t x y b =>
    obtain ⟨ty, hty, hat⟩ := evalK_at hn
    simp only [valK, denOp] at h ⊢
    refine evalK_congr h (fun _ _ => rfl) fun tx htx => ?_
    rw [hat] at htx ⊢
    revert htx
    split
    · exact fun h => h
    · exact fun h => h
    · refine fun hq => tyK_mono hq fun ti hti => ?_
      revert hti
      split
      · exact fun h => h
      · exact hty.elim
      · exact fun h => h
      · exact fun h => h
      · exact fun h => h
      · exact fun h => h
      · exact fun h => h

theorem valK_det {E : Env} {o : Op} {fr : List T} {hp : Hp} (hv : valueOp o = true) (hn : noNilP o fr) : Det (valK E o fr hp) := by
  show Det fun k => valK E o fr hp k
  have dsl : ∀ {y : Ty} {q : (T → Prop) → Prop}, Det q → Det fun k => slK y (q k) := by
    intro y q hq
    cases y <;> first | exact hq | exact Det.no
  have dst : ∀ {y : Ty} {q : (T → Prop) → Prop}, Det q → Det fun k => strK y (q k) := by
    intro y q hq
    cases y <;> first | exact hq | exact Det.no
  have dpt : ∀ {y : Ty} {q : (T → Prop) → Prop}, Det q → Det fun k => ptrK y (q k) := by
    intro y q hq
    cases y <;> first | exact hq | exact Det.no
  cases o <;> first | (simp only [valueOp, Bool.false_eq_true] at hv; done) | simp only [valK, denOp]
  case move x => exact (evalK_det fr x)
  case pick c a b =>
    refine (evalK_det fr c).bind fun t => ?_
    cases t with
    | v x => cases x <;> first | exact evalK_det fr a | exact evalK_det fr b | exact Det.split (evalK_det fr a) (evalK_det fr b) | exact Det.no
    | _ => exact Det.no
  case nilCheck x =>
    refine (evalK_det fr x).bind fun t => ?_
    cases t with
    | v x => cases x <;> first | exact Det.pure _ | exact Det.no
    | _ => exact Det.no
  case fieldAddr t x f =>
    refine (evalK_det fr x).bind fun x => (tyK_det E.ty t).bind fun y => ?_
    cases y.k
    case st fs =>
      refine placeK_det2 (fun _ d => ?_) fs f
      cases x with
      | v x => cases x <;> first | exact Det.pure _ | exact Det.no
      | _ => exact Det.no
    all_goals exact Det.no
  case field t x f =>
    refine (evalK_det fr x).bind fun x => (tyK_det E.ty t).bind fun y => ?_
    cases y.k
    case st fs =>
      refine placeK_det2 (fun ft d => (tyK_det E.ty ft).bind fun z => (fieldK_det f d x).bind fun t => ?_) fs f
      cases Nat.beq t.size z.size
      · exact Det.no
      · exact shapeK_det _ _
    all_goals exact Det.no
  case load t x =>
    refine (evalK_det fr x).bind fun x => (tyK_det E.ty t).bind fun y => ?_
    cases x with
    | v x =>
      cases x
      case ptr r p =>
        refine (lookK_det hp r).bind fun c => (tgetK_det p c.tree).bind fun t => ?_
        cases Nat.beq t.size y.size
        · exact Det.no
        · exact shapeK_det _ _
      case rp e xs i p =>
        refine (tgetK_det p _).bind fun t => ?_
        cases Nat.beq t.size y.size
        · exact Det.no
        · exact shapeK_det _ _
      all_goals exact Det.no
    | _ => exact Det.no
  case build t ps =>
    refine (tyK_det E.ty t).bind fun y => (partsK_det fr ps.toList).bind fun l => ?_
    cases y.k
    case st fs => cases y.zero <;> first | exact fillSK_det l _ | exact Det.no
    case ar n e => cases y.zero <;> first | exact (fillAK_det _ hp l _).map fun xs => T.arr _ xs _ | exact Det.no
    all_goals exact Det.no
  case binOp op t x y b =>
    obtain ⟨ty, hty, hat⟩ := evalK_at hn
    refine (evalK_det fr x).bind fun tx => ?_
    simp only [hat]
    split
    · split
      · exact (shI_det op _ _ _).map _
      · split
        · exact (binI_det op _ _ _).map _
        · exact Det.no
    · cases op <;> first | exact Det.pure _ | exact (Det.pure _).and | exact Det.no
    · refine (tyK_det E.ty t).bind fun ti => ?_
      split
      · exact hty.elim
      · exact hty.elim
      · exact hty.elim
      · exact dpt ((eqOpK_det op _).map _)
      · exact dpt ((eqOpK_det op _).map _)
      · exact dpt ((eqOpK_det op _).map _)
      · split
        · exact (eqTK_det _ _).bind fun r => (eqOpK_det op r).map _
        · exact Det.no
  case unOp op t x =>
    refine (evalK_det fr x).bind fun x => ?_
    cases op <;> cases x <;> first | exact Det.no | skip
    all_goals
      rename_i x
      cases x <;> first | exact Det.pure _ | exact Det.no
  case convert s t x =>
    refine (evalK_det fr x).bind fun x => (tyK_det E.ty s).bind fun ya => (tyK_det E.ty t).bind fun yb => ?_
    split
    · exact Det.pure _
    · refine (tyK_det E.ty _).bind fun z => ?_
      cases z.k
      case int ik =>
        dsimp only
        cases ik == .u8
        · exact Det.no
        · exact (rdK_det .u8 hp _).map _
      all_goals exact Det.no
    · exact Det.no
  case slice t x lo hi mx =>
    cases mx with
    | some _ => exact Det.no
    | none =>
      refine (evalK_det fr x).bind fun x => (loK_det fr lo 0).bind fun a => (tyK_det E.ty t).bind fun y => ?_
      have lo : ∀ {d : Int} {c : Int → Prop} {f : Int → T}, Det fun k : T → Prop => loK fr hi d fun b => c b ∧ k (f b) := (loK_det fr hi _).bind fun b => (Det.pure _).and
      cases y.k
      case str =>
        cases x with
        | v x => cases x <;> first | exact lo | exact Det.no
        | _ => exact Det.no
      case sl et =>
        refine (tyK_det E.ty et).bind fun z => ?_
        cases x with
        | v x =>
          cases x
          case rd e xs =>
            dsimp only
            cases Nat.beq z.size e.sz
            · exact Det.no
            · exact lo
          case nils => exact lo
          case own r =>
            refine (lookK_det hp r).bind fun c => ?_
            cases c with
            | own t => exact Det.no
            | row ty e xs =>
              dsimp only
              cases Nat.beq z.size e.sz
              · exact Det.no
              · exact lo
            | fz ty e xs =>
              dsimp only
              cases Nat.beq z.size e.sz
              · exact Det.no
              · exact lo
          case sl r p off len sz =>
            dsimp only
            cases Nat.beq z.size sz
            · exact Det.no
            · exact lo
          all_goals exact Det.no
        | _ => exact Det.no
      case ar n et =>
        refine (tyK_det E.ty et).bind fun z => ?_
        cases x with
        | v x =>
          cases x
          case ptr r p =>
            dsimp only
            cases Nat.ble n 4294967296
            · exact Det.no
            · exact lo
          all_goals exact Det.no
        | _ => exact Det.no
      all_goals exact Det.no
  case indexAddr t x i =>
    refine (evalK_det fr x).bind fun x => (evalK_det fr i).bind fun i => ?_
    cases i with
    | v i =>
      cases i
      case int ik i =>
        refine (tyK_det E.ty t).bind fun y => ?_
        cases y.k
        case sl et =>
          refine (tyK_det E.ty et).bind fun z => ?_
          cases x with
          | v x =>
            cases x
            case rd e xs =>
              dsimp only
              cases Nat.beq z.size e.sz
              · exact Det.no
              · exact (Det.pure _).and
            case own r =>
              refine (lookK_det hp r).bind fun c => ?_
              cases c with
              | own t => exact Det.no
              | row ty e xs =>
                dsimp only
                cases Nat.beq z.size e.sz
                · exact Det.no
                · exact (Det.pure _).and
              | fz ty e xs =>
                dsimp only
                cases Nat.beq z.size e.sz
                · exact Det.no
                · exact (Det.pure _).and
            case sl r p off len sz =>
              dsimp only
              cases Nat.beq z.size sz
              · exact Det.no
              · exact (Det.pure _).and
            all_goals exact Det.no
          | _ => exact Det.no
        case ar n et =>
          refine (tyK_det E.ty et).bind fun z => ?_
          cases x with
          | v x => cases x <;> first | exact (Det.pure _).and | exact Det.no
          | _ => exact Det.no
        all_goals exact Det.no
      all_goals exact Det.no
    | _ => exact Det.no
  case index t x i =>
    refine (evalK_det fr x).bind fun x => (evalK_det fr i).bind fun i => ?_
    cases i with
    | v i =>
      cases i
      case int ik i =>
        cases x with
        | arr e xs n =>
          refine (tyK_det E.ty t).bind fun y => ?_
          cases y.k
          case ar m et =>
            refine (tyK_det E.ty et).bind fun z => ?_
            cases Nat.beq m n <;> cases Nat.beq e.sz z.size <;> first | exact Det.no | exact (shapeK_det _ _).and
          all_goals exact Det.no
        | v x =>
          cases x
          case str s =>
            refine (tyK_det E.ty t).bind fun y => ?_
            cases y.k <;> first | exact (Det.pure _).and | exact Det.no
          all_goals exact Det.no
        | _ => exact Det.no
      all_goals exact Det.no
    | _ => exact Det.no
  case extract x i =>
    refine (evalK_det fr x).bind fun t => ?_
    cases t with
    | tup ts => exact tupGetK_det i ts
    | _ => exact Det.no
  case call c =>
    cases hc : c.callee with
    | builtin b =>
      cases b
      case len =>
        simp only []
        split
        · refine (tyK_det E.ty _).bind fun y => (evalsK_det fr _).bind fun ts => ?_
          split
          · exact dsl (Det.pure _)
          · exact dsl (Det.pure _)
          · exact dst (Det.pure _)
          · refine dsl ((lookK_det hp _).bind fun c => ?_)
            cases c <;> first | exact Det.pure _ | exact Det.no
          · exact dsl (Det.pure _)
          · exact Det.no
        · exact Det.no
      case min =>
        simp only []
        refine (evalsK_det fr _).bind fun ts => ?_
        split
        · exact Det.pure _
        · exact Det.no
      case max =>
        simp only []
        refine (evalsK_det fr _).bind fun ts => ?_
        split
        · exact Det.pure _
        · exact Det.no
      all_goals (simp [valueOp, hc] at hv)
    | value x => simp [valueOp, hc] at hv
    | invoke _ _ => simp [valueOp, hc] at hv

end Go.J
