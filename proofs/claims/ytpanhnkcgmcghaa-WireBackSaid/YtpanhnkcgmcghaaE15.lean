/-
  THE ENGINE, part 15: operations that make a value: it is one, and it hangs on what they look at.
-/
import Derived.Test.YtpanhnkcgmcghaaE14
set_option linter.unusedSimpArgs false
set_option linter.unusedVariables false
set_option linter.unusedSectionVars false

namespace Go.J

/-! The slots that an operation looks at. -/
def Agree (xs : List Operand) (fr fr2 : List T) : Prop := ∀ t, Operand.tmp t ∈ xs → fr2[t]? = fr[t]?

theorem lgetK_mk {α : Type} {k : α → Prop} : ∀ {l : List α} {n : Nat} {x : α}, l[n]? = some x → k x → lgetK l n k
  | [], _, _, h, _ => by simp at h
  | y :: _, 0, x, h, hk => by simp at h; subst h; exact hk
  | _ :: l, n + 1, x, h, hk => lgetK_mk (l := l) (n := n) (by simpa using h) hk

theorem lsetK_mk {α : Type} {x : α} : ∀ {l : List α} {n : Nat} {k : List α → Prop}, n < l.length → k (l.set n x) → lsetK l n x k
  | [], _, _, h, _ => by simp at h
  | y :: _, 0, _, _, hk => hk
  | y :: l, n + 1, k, h, hk => lsetK_mk (l := l) (n := n) (k := fun l => k (y :: l)) (by simpa using h) (by simpa using hk)

theorem evalK_congr {fr fr2 : List T} {o : Operand} {k k' : T → Prop} (h : evalK fr o k) (ha : ∀ t, o = .tmp t → fr2[t]? = fr[t]?) (hk : ∀ x, k x → k' x) : evalK fr2 o k' := by
  cases o with
  | tmp t =>
    obtain ⟨x, hx, hk0⟩ := lgetK_out h
    exact lgetK_mk ((ha t rfl).trans hx) (hk x hk0)
  | const c => exact hk _ h
  | func f => exact hk _ h
  | global g => exact h.elim

theorem evalsK_congr {fr fr2 : List T} : ∀ {os : List Operand} {k k' : List T → Prop}, evalsK fr os k → (∀ t, .tmp t ∈ os → fr2[t]? = fr[t]?) → (∀ x, k x → k' x) → evalsK fr2 os k'
  | [], _, _, h, _, hk => hk _ h
  | o :: os, k, k', h, ha, hk => evalK_congr h (fun t ht => ha t (by simp [ht])) fun x hx => evalsK_congr hx (fun t ht => ha t (by simp [ht])) fun xs hxs => hk _ hxs

theorem partsK_congr {fr fr2 : List T} : ∀ {ps : List (Nat × Operand)} {k k' : List (Nat × T) → Prop}, partsK fr ps k → (∀ t, .tmp t ∈ ps.map (·.2) → fr2[t]? = fr[t]?) → (∀ x, k x → k' x) → partsK fr2 ps k'
  | [], _, _, h, _, hk => hk _ h
  | (i, o) :: ps, k, k', h, ha, hk => evalK_congr h (fun t ht => ha t (by simp [ht])) fun x hx => by
    revert hx
    cases x.known
    · exact fun h => h
    · exact fun hx => partsK_congr hx (fun t ht => ha t (by simp at ht ⊢; exact .inr ht)) fun xs hxs => hk _ hxs

theorem loK_congr {fr fr2 : List T} {lo : Option Operand} {d : Int} {k k' : Int → Prop} (h : loK fr lo d k) (ha : ∀ t, .tmp t ∈ lo.toArray → fr2[t]? = fr[t]?) (hk : ∀ x, k x → k' x) : loK fr2 lo d k' := by
  cases lo with
  | none => exact hk _ h
  | some o =>
    refine evalK_congr h (fun t ht => ha t (by simp [ht])) fun x hx => ?_
    revert hx
    split
    · exact hk _
    · exact fun h => h

theorem tyK_mono {l : List (Nat × TyI)} {t : TypeId} {k k' : TyI → Prop} (h : tyK l t k) (hk : ∀ y, k y → k' y) : tyK l t k' := by
  induction l with
  | nil => exact h
  | cons p l ih =>
    obtain ⟨t', i⟩ := p
    unfold tyK at h ⊢
    cases hb : Nat.beq t' t <;> rw [hb] at h
    · exact ih h
    · exact hk _ h

theorem den_congr {E : Env} {o : Op} {fr fr2 : List T} {hp : Hp} {nx : Nat} {k : T → Hp → Nat → Prop} (h : denOp E o fr hp nx k) (ha : Agree o.operands.toList fr fr2) : denOp E o fr2 hp nx k := by
  have a1 : ∀ {x : Operand}, x ∈ o.operands.toList → ∀ t, x = .tmp t → fr2[t]? = fr[t]? := fun hx t ht => ha t (ht ▸ hx)
  cases o
  case move x => exact evalK_congr h (a1 (by simp [Op.operands])) fun _ h => h
  case assign x => exact evalK_congr h (a1 (by simp [Op.operands])) fun _ h => h
  case pick c a b =>
    refine evalK_congr h (a1 (by simp [Op.operands])) fun x hx => ?_
    revert hx
    split
    · exact fun hx => evalK_congr hx (a1 (by simp [Op.operands])) fun _ h => h
    · exact fun hx => evalK_congr hx (a1 (by simp [Op.operands])) fun _ h => h
    · exact fun hx => ⟨fun hc => evalK_congr (hx.1 hc) (a1 (by simp [Op.operands])) fun _ h => h, fun hc => evalK_congr (hx.2 hc) (a1 (by simp [Op.operands])) fun _ h => h⟩
    · exact fun h => h
  case alloc t => exact h
  case box t x => exact evalK_congr h (a1 (by simp [Op.operands])) fun _ h => h
  case build t ps => exact tyK_mono h fun y hy => partsK_congr hy (fun t ht => ha t (by simpa [Op.operands] using ht)) fun _ h => h
  case buildSlice t n ps =>
    refine tyK_mono h fun y hy => ?_
    revert hy
    split
    · exact fun hy => tyK_mono hy fun z hz => partsK_congr hz (fun t ht => ha t (by simpa [Op.operands] using ht)) fun _ h => h
    · exact fun h => h
  case load t x => exact evalK_congr h (a1 (by simp [Op.operands])) fun _ h => h
  case store t x y => exact evalK_congr h (a1 (by simp [Op.operands])) fun x hx => tyK_mono hx fun y hy => evalK_congr hy (a1 (by simp [Op.operands])) fun _ h => h
  case nilCheck x => exact evalK_congr h (a1 (by simp [Op.operands])) fun _ h => h
  case binOp op t x y b => exact evalK_congr h (a1 (by simp [Op.operands])) fun x hx => evalK_congr hx (a1 (by simp [Op.operands])) fun _ h => h
  case unOp op t x => exact evalK_congr h (a1 (by simp [Op.operands])) fun _ h => h
  case convert s t x => exact evalK_congr h (a1 (by simp [Op.operands])) fun _ h => h
  case makeSlice t l c =>
    refine tyK_mono h fun y hy => ?_
    revert hy
    split
    · refine fun hy => tyK_mono hy fun z hz => evalK_congr hz (a1 (by simp [Op.operands])) fun x hx => ?_
      revert hx
      split
      · exact fun hx => evalK_congr hx (a1 (by simp [Op.operands])) fun _ h => h
      · exact fun h => h
    · exact fun h => h
  case slice t x lo hi mx =>
    cases mx with
    | some _ => exact h.elim
    | none =>
      refine evalK_congr h (a1 (by simp [Op.operands])) fun x hx => loK_congr hx (fun t ht => ha t (by simp only [Op.operands, Array.toList_append, List.mem_append]; exact .inl (.inl (.inr (by simpa using ht))))) fun n hn => tyK_mono hn fun y hy => ?_
      have hb : ∀ {d : Int} {k k' : Int → Prop}, loK fr hi d k → (∀ x, k x → k' x) → loK fr2 hi d k' := fun h hk => loK_congr h (fun t ht => ha t (by simp only [Op.operands, Array.toList_append, List.mem_append]; exact .inl (.inr (by simpa using ht)))) hk
      revert hy
      split
      · split
        · exact fun hy => hb hy fun _ h => h
        · exact fun h => h
      · refine fun hy => tyK_mono hy fun z hz => ?_
        revert hz
        split
        · split
          · exact fun hy => hb hy fun _ h => h
          · exact fun h => h
        · exact fun hy => hb hy fun _ h => h
        · intro hy
          have : ∀ (hp : Hp) (r : Nat) (k k' : Chunk → Prop), lookK hp r k → (∀ c, k c → k' c) → lookK hp r k' := by
            intro hp r k k' h hk
            induction hp with
            | nil => exact h
            | cons p hp ih =>
              obtain ⟨r', c⟩ := p
              unfold lookK at h ⊢
              cases hb : Nat.beq r' r <;> rw [hb] at h
              · exact ih h
              · exact hk _ h
          refine this _ _ _ _ hy fun c hc => ?_
          revert hc
          split
          · split
            · exact fun hy => hb hy fun _ h => h
            · exact fun h => h
          · split
            · exact fun hy => hb hy fun _ h => h
            · exact fun h => h
          · exact fun h => h
        · split
          · exact fun hy => hb hy fun _ h => h
          · exact fun h => h
        · exact fun h => h
      · refine fun hy => tyK_mono hy fun z hz => ?_
        revert hz
        split
        · split
          · exact fun hy => hb hy fun _ h => h
          · exact fun h => h
        · exact fun h => h
      · exact fun h => h
  case fieldAddr t x f => exact evalK_congr h (a1 (by simp [Op.operands])) fun _ h => h
  case field t x f => exact evalK_congr h (a1 (by simp [Op.operands])) fun _ h => h
  case indexAddr t x i => exact evalK_congr h (a1 (by simp [Op.operands])) fun x hx => evalK_congr hx (a1 (by simp [Op.operands])) fun _ h => h
  case index t x i => exact evalK_congr h (a1 (by simp [Op.operands])) fun x hx => evalK_congr hx (a1 (by simp [Op.operands])) fun _ h => h
  case extract x i => exact evalK_congr h (a1 (by simp [Op.operands])) fun _ h => h
  case call c =>
    have hargs : ∀ t, .tmp t ∈ c.args.toList → fr2[t]? = fr[t]? := fun t ht => ha t (by simp [Op.operands, Call.operands]; exact .inr (by simpa using ht))
    simp only [denOp] at h ⊢
    split at h
    · split at h
      · exact tyK_mono h fun y hy => evalsK_congr hy hargs fun _ h => h
      · exact h
    · exact evalsK_congr h hargs fun _ h => h
    · exact evalsK_congr h hargs fun _ h => h
    · exact evalsK_congr h hargs fun _ h => h
    · split at h
      · refine tyK_mono h fun y hy => ?_
        revert hy
        split
        · refine fun hy => tyK_mono hy fun z hz => ?_
          revert hz
          split
          · exact fun hz => evalsK_congr hz hargs fun _ h => h
          · exact fun h => h
        · exact fun h => h
      · exact h
    · have : ∀ (l : List (Nat × (List T → Hp → Nat → (T → Hp → Nat → Prop) → Prop))) (f : FuncId) (k k' : _ → Prop), denOp.callK l f k → (∀ g, k g → k' g) → denOp.callK l f k' := by
        intro l f k k' h hk
        induction l with
        | nil => exact h
        | cons p l ih =>
          obtain ⟨f', g⟩ := p
          unfold denOp.callK at h ⊢
          cases hb : Nat.beq f' f <;> rw [hb] at h
          · exact ih h
          · exact hk _ h
      exact this _ _ _ _ h fun g hg => evalsK_congr hg hargs fun _ h => h
    · exact h
  all_goals exact h.elim

end Go.J
