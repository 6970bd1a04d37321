/-
  JOBBER: the engine and the functions of this claim, part 3.
-/
import Derived.Test.YtpanhnkcgmcghaaK2
set_option linter.unusedSimpArgs false
set_option linter.unusedVariables false
set_option linter.unusedSectionVars false

namespace Go.J

/-! The zero values, cell by cell. -/
def isInt0 (k : IntKind) : Value → Bool
  | .int k' n => k == k' && decide (n = 0)
  | _ => false
def isFalse : Value → Bool
  | .bool b => !b
  | _ => false
def isEmptyS : Value → Bool
  | .string s => s.data.toList.isEmpty
  | _ => false
def isNilSl : Value → Bool
  | .slice none n c => Nat.beq n 0 && Nat.beq c 0
  | _ => false
def isNilP : Value → Bool
  | .pointer none => true
  | _ => false
def hd (p : Value → Bool) : List Value → Option (List Value)
  | [] => none
  | v :: l => match p v with
    | true => some l
    | false => none
def eatN (f : List Value → Option (List Value)) : Nat → List Value → Option (List Value)
  | 0, l => some l
  | n + 1, l => match f l with
    | some l => eatN f n l
    | none => none
def El.eat : El → List Value → Option (List Value)
  | .u8 => hd (isInt0 .u8)
  | .int k => hd (isInt0 k)
  | .bool => hd isFalse
  | .str => hd isEmptyS
  | .rd _ => hd isNilSl
  | .nil => some
  | .cons e es => fun l => match e.eat l with
    | some l => es.eat l
    | none => none
  | .ar n e => eatN e.eat n
def Z.eat : Z → List Value → Option (List Value)
  | .int k => hd (isInt0 k)
  | .bool => hd isFalse
  | .str => hd isEmptyS
  | .nils => hd isNilSl
  | .nilp => hd isNilP
  | .nilf => hd Value.oneCell'
  | .nil => some
  | .cons z zs => fun l => match z.eat l with
    | some l => zs.eat l
    | none => none
  | .arr e n => eatN e.eat n
def isNil {α : Type} : Option (List α) → Bool
  | some [] => true
  | _ => false
def Z.many : Z → Bool
  | .nil => true
  | .cons _ _ => true
  | .arr _ _ => true
  | _ => false
/-- The zero value of a type, as a value. -/
def Z.isV (z : Z) (v : Value) : Bool :=
  match z.many, v with
  | true, .agg cs => isNil (z.eat cs.toList)
  | true, _ => false
  | false, v => isNil (z.eat [v]) && v.oneCell' && isNil (z.eat v.cells.toList)

theorem hd_out {p : Value → Bool} {l l' : List Value} (h : hd p l = some l') : ∃ v, l = v :: l' ∧ p v = true := by
  cases l with
  | nil => cases h
  | cons v l =>
    simp only [hd] at h
    cases hp : p v with
    | true => rw [hp] at h; cases h; exact ⟨v, rfl, hp⟩
    | false => rw [hp] at h; cases h
theorem isInt0_eq {k : IntKind} {v : Value} (h : isInt0 k v = true) : v = .int k 0 := by
  cases v <;> simp [isInt0] at h
  rw [h.1, h.2]
theorem isFalse_eq {v : Value} (h : isFalse v = true) : v = .bool false := by
  cases v <;> simp [isFalse] at h
  rw [h]
theorem isEmptyS_eq {v : Value} (h : isEmptyS v = true) : v = .string ⟨⟨[]⟩⟩ := by
  cases v <;> simp [isEmptyS] at h
  rename_i s
  obtain ⟨⟨l⟩⟩ := s
  simp at h
  subst h
  rfl
theorem isNilSl_eq {v : Value} (h : isNilSl v = true) : v = .slice none 0 0 := by
  cases v <;> simp only [isNilSl] at h <;> (try cases h)
  rename_i a n c
  cases a with
  | none =>
    simp only [Bool.and_eq_true] at h
    rw [nat_beq_eq h.1, nat_beq_eq h.2]
  | some _ => cases h
theorem isNilP_eq {v : Value} (h : isNilP v = true) : v = .pointer none := by
  cases v <;> simp only [isNilP] at h <;> (try cases h)
  rename_i a
  cases a with
  | none => rfl
  | some _ => cases h

theorem eatN_out {α : Type} {R : α → List Value → Prop} {x : α} {f : List Value → Option (List Value)} (hf : ∀ l l', f l = some l' → ∃ c, l = c ++ l' ∧ R x c) : ∀ (n : Nat) (l l' : List Value), eatN f n l = some l' → ∃ c, l = c ++ l' ∧ listOf R (List.replicate n x) c
  | 0, l, l', h => by simp [eatN] at h; exact ⟨[], by simp [h], rfl⟩
  | n + 1, l, l', h => by
    unfold eatN at h
    split at h
    · next l1 h1 =>
      obtain ⟨c, rfl, hc⟩ := hf _ _ h1
      obtain ⟨c2, rfl, hc2⟩ := eatN_out hf n _ _ h
      exact ⟨c ++ c2, by simp, c, c2, rfl, hc, hc2⟩
    · cases h

theorem El.eat_out (im : Nat → Prop) (w : World) : ∀ (e : El) (l l' : List Value), e.eat l = some l' → ∃ c, l = c ++ l' ∧ cellsOf im w e e.dflt c
  | .u8, l, l', h => by obtain ⟨v, e1, e2⟩ := hd_out h; exact ⟨[v], e1, by rw [isInt0_eq e2]; rfl⟩
  | .int k, l, l', h => by obtain ⟨v, e1, e2⟩ := hd_out h; exact ⟨[v], e1, by rw [isInt0_eq e2]; rfl⟩
  | .bool, l, l', h => by obtain ⟨v, e1, e2⟩ := hd_out h; exact ⟨[v], e1, by rw [isFalse_eq e2]; rfl⟩
  | .str, l, l', h => by obtain ⟨v, e1, e2⟩ := hd_out h; exact ⟨[v], e1, by rw [isEmptyS_eq e2]; rfl⟩
  | .rd e, l, l', h => by
    obtain ⟨v, e1, e2⟩ := hd_out h
    exact ⟨[v], e1, none, 0, by rw [isNilSl_eq e2]; rfl, Nat.le_refl _, by simp, fun hp => by simp [El.dflt] at hp⟩
  | .nil, l, l', h => by cases h; exact ⟨[], rfl, rfl⟩
  | .cons e es, l, l', h => by
    simp only [El.eat] at h
    split at h
    · next l1 h1 =>
      obtain ⟨c1, rfl, k1⟩ := El.eat_out im w e _ _ h1
      obtain ⟨c2, rfl, k2⟩ := El.eat_out im w es _ _ h
      exact ⟨c1 ++ c2, by simp, c1, c2, rfl, k1, k2⟩
    · cases h
  | .ar n e, l, l', h => by
    obtain ⟨c, e1, hc⟩ := eatN_out (R := cellsOf im w e) (x := e.dflt) (fun l l' h => El.eat_out im w e l l' h) n l l' h
    exact ⟨c, e1, by simp [El.dflt], hc⟩

theorem Z.eat_out (G : Cx) : ∀ (z : Z) (l l' : List Value), z.eat l = some l' → ∃ c, l = c ++ l' ∧ tCells G z.toT c
  | .int k, l, l', h => by obtain ⟨v, e1, e2⟩ := hd_out h; exact ⟨[v], e1, v, rfl, by rw [isInt0_eq e2]; rfl, isInt0_eq e2⟩
  | .bool, l, l', h => by obtain ⟨v, e1, e2⟩ := hd_out h; exact ⟨[v], e1, v, rfl, by rw [isFalse_eq e2]; rfl, isFalse_eq e2⟩
  | .str, l, l', h => by obtain ⟨v, e1, e2⟩ := hd_out h; exact ⟨[v], e1, v, rfl, by rw [isEmptyS_eq e2]; rfl, isEmptyS_eq e2⟩
  | .nils, l, l', h => by obtain ⟨v, e1, e2⟩ := hd_out h; exact ⟨[v], e1, v, rfl, by rw [isNilSl_eq e2]; rfl, isNilSl_eq e2⟩
  | .nilp, l, l', h => by obtain ⟨v, e1, e2⟩ := hd_out h; exact ⟨[v], e1, v, rfl, by rw [isNilP_eq e2]; rfl, isNilP_eq e2⟩
  | .nilf, l, l', h => by obtain ⟨v, e1, e2⟩ := hd_out h; exact ⟨[v], e1, v, rfl, e2, trivial⟩
  | .nil, l, l', h => by cases h; exact ⟨[], rfl, rfl⟩
  | .cons z zs, l, l', h => by
    simp only [Z.eat] at h
    split at h
    · next l1 h1 =>
      obtain ⟨c1, rfl, k1⟩ := Z.eat_out G z _ _ h1
      obtain ⟨c2, rfl, k2⟩ := Z.eat_out G zs _ _ h
      exact ⟨c1 ++ c2, by simp, c1, c2, rfl, k1, k2⟩
    · cases h
  | .arr e n, l, l', h => by
    obtain ⟨c, e1, hc⟩ := eatN_out (R := cellsOf G.im G.w e) (x := e.dflt) (fun l l' h => El.eat_out G.im G.w e l l' h) n l l' h
    exact ⟨c, e1, by simp, hc⟩

theorem isNil_out {α : Type} {o : Option (List α)} (h : isNil o = true) : o = some [] := by
  unfold isNil at h
  split at h
  · rfl
  · cases h

theorem Z.isV_out {z : Z} {v : Value} (h : z.isV v = true) (G : Cx) : tVal G z.toT v ∧ tCells G z.toT v.cells.toList := by
  have cells : ∀ l, isNil (z.eat l) = true → tCells G z.toT l := fun l h => by
    obtain ⟨c, e1, hc⟩ := Z.eat_out G z l [] (isNil_out h)
    rw [List.append_nil] at e1
    rw [e1]
    exact hc
  unfold Z.isV at h
  split at h
  · next cs hm =>
    have hc := cells _ h
    refine ⟨?_, hc⟩
    cases z <;> first | (cases hm; done) | exact ⟨cs.toList, rfl, hc⟩
  · cases h
  · next hm =>
    simp only [Bool.and_eq_true] at h
    have hc := cells _ h.1.1
    refine ⟨?_, cells _ h.2⟩
    cases z <;> first | (cases hm; done) | (obtain ⟨c, e1, _, e3⟩ := hc; simp at e1; subst e1; exact e3)

/-! The table. -/
def offB (P : Program) : List (TypeId × Nat) → Nat → Z → Bool
  | [], _, .nil => true
  | (t, d) :: fs, o, .cons z zs => Nat.beq d o && (match P.info? t with
    | some i => Nat.beq i.size z.toT.size
    | none => false) && offB P fs (o + z.toT.size) zs
  | _, _, _ => false
def sameFs : List Field → List (TypeId × Nat) → Bool
  | [], [] => true
  | f :: l, (t, d) :: m => Nat.beq f.type t && Nat.beq f.offset d && sameFs l m
  | _, _ => false
def fieldsB (P : Program) : List Field → Bool
  | [] => true
  | f :: l => (f.name != "_") && (match P.info? f.type with
    | some i => !Nat.beq i.size 0
    | none => false) && fieldsB P l
def undB (P : Program) (t : TypeId) (y : TyI) : Bool :=
  match y.k, P.underlying t with
  | .int k, some (.int k') => k == k'
  | .bool, some .bool => true
  | .str, some .string => true
  | .ptr e, some (.pointer e') => Nat.beq e e'
  | .sl e, some (.slice e') => Nat.beq e e'
  | .ar n e, some (.array n' e') => Nat.beq n n' && Nat.beq e e' && (match y.zero with
    | .arr e2 _ => (match P.info? e with
      | some ie => Nat.beq ie.size e2.sz
      | none => false)
    | _ => true)
  | .st fs, some (.struct fields) => sameFs fields.toList fs && fieldsB P fields.toList && !P.stoodInHeld t && offB P fs 0 y.zero
  | .fn, some (.func _ _ _) => true
  | .other, some d => !d.isRow
  | _, _ => false
def tyB (P : Program) (t : TypeId) (y : TyI) : Bool :=
  match P.info? t with
  | none => false
  | some i => Nat.beq i.size y.size && Nat.beq i.bytes y.bytes && (match i.zero with
    | none => false
    | some z => y.zero.isV z && (match y.el with
      | none => true
      | some e => Nat.beq e.sz y.size && Nat.blt 0 y.size && isNil (e.eat z.cells.toList))) && undB P t y && (!y.eqok || !P.eqGuardType P.depth t)
def tysB (P : Program) : List (Nat × TyI) → Bool
  | [] => true
  | (t, y) :: l => tyB P t y && tysB P l

theorem offB_out {P : Program} : ∀ (fs : List (TypeId × Nat)) (o : Nat) (z : Z), offB P fs o z = true → kids z.toT = fs.length ∧ ∀ (i : Nat) (tt : TypeId) (d : Nat), fs[i]? = some (tt, d) → ∃ c inf, o ≤ d ∧ fieldK i (d - o) z.toT (fun u => u = c) ∧ P.info? tt = some inf ∧ inf.size = c.size
  | [], o, z, h => by
    cases z <;> simp [offB] at h
    exact ⟨rfl, fun i tt d hi => by simp at hi⟩
  | (t, d) :: fs, o, z, h => by
    cases z <;> simp only [offB] at h <;> (try cases h)
    rename_i z zs
    simp only [Bool.and_eq_true] at h
    obtain ⟨⟨h1, h2⟩, h3⟩ := h
    obtain rfl := nat_beq_eq h1
    obtain ⟨k1, k2⟩ := offB_out fs _ zs h3
    refine ⟨by simp [Z.toT, kids, k1], fun i tt d' hi => ?_⟩
    cases i with
    | zero =>
      simp at hi
      obtain ⟨rfl, rfl⟩ := hi
      split at h2
      · next inf hinf => exact ⟨z.toT, inf, Nat.le_refl _, by simp [Z.toT, fieldK], hinf, nat_beq_eq h2⟩
      · cases h2
    | succ i =>
      obtain ⟨c, inf, m1, m2, m3, m4⟩ := k2 i tt d' (by simpa using hi)
      refine ⟨c, inf, by omega, ?_, m3, m4⟩
      simp only [Z.toT]
      unfold fieldK
      rw [T.eat_eq, if_pos (by omega)]
      simp only []
      rw [show d' - d - z.toT.size = d' - (d + z.toT.size) by omega]
      exact m2

theorem sameFs_out : ∀ {l : List Field} {m : List (TypeId × Nat)}, sameFs l m = true → l.map (fun f => (f.type, f.offset)) = m
  | [], [], _ => rfl
  | f :: l, (t, d) :: m, h => by
    simp only [sameFs, Bool.and_eq_true] at h
    rw [List.map_cons, sameFs_out h.2, nat_beq_eq h.1.1, nat_beq_eq h.1.2]
  | [], _ :: _, h => by simp [sameFs] at h
  | _ :: _, [], h => by simp [sameFs] at h

theorem fieldsB_out {P : Program} : ∀ {l : List Field}, fieldsB P l = true → ∀ f ∈ l, f.name ≠ "_" ∧ ∃ i, P.info? f.type = some i ∧ i.size ≠ 0
  | [], _, f, hf => by cases hf
  | g :: l, h, f, hf => by
    simp only [fieldsB, Bool.and_eq_true] at h
    rcases List.mem_cons.1 hf with rfl | hf
    · refine ⟨by simpa using h.1.1, ?_⟩
      have h2 := h.1.2
      split at h2
      · next i hi =>
        refine ⟨i, hi, fun e => ?_⟩
        rw [e] at h2
        cases h2
      · cases h2
    · exact fieldsB_out h.2 f hf

theorem tyB_out {P : Program} {t : TypeId} {y : TyI} (h : tyB P t y = true) : TyOk P t y := by
  unfold tyB at h
  split at h
  · cases h
  · next i hi =>
    simp only [Bool.and_eq_true] at h
    obtain ⟨⟨⟨⟨h1, h2⟩, h3⟩, h4⟩, h5⟩ := h
    have hz : ∃ z, i.zero = some z ∧ y.zero.isV z = true ∧ (match y.el with
      | none => true
      | some e => Nat.beq e.sz y.size && Nat.blt 0 y.size && isNil (e.eat z.cells.toList)) = true := by
      split at h3
      · cases h3
      · next z hz => exact ⟨z, hz, by simpa using h3⟩
    obtain ⟨z, hz, hv, hel⟩ := hz
    have hst : ∀ fs, y.k = .st fs → ∃ fields, P.underlying t = some (.struct fields) ∧ sameFs fields.toList fs = true ∧ fieldsB P fields.toList = true ∧ P.stoodInHeld t = false ∧ offB P fs 0 y.zero = true := fun fs hk => by
      unfold undB at h4
      rw [hk] at h4
      split at h4 <;> simp_all
    have har : ∀ n e, y.k = .ar n e → P.underlying t = some (.array n e) ∧ (match y.zero with
      | .arr e2 _ => (match P.info? e with
        | some ie => Nat.beq ie.size e2.sz
        | none => false)
      | _ => true) = true := fun n e hk => by
      unfold undB at h4
      rw [hk] at h4
      cases hu : P.underlying t with
      | none => rw [hu] at h4; cases h4
      | some d =>
        rw [hu] at h4
        cases d <;> (try cases h4)
        simp only [Bool.and_eq_true] at h4
        obtain ⟨⟨e1, e2⟩, e3⟩ := h4
        rw [← nat_beq_eq e1, ← nat_beq_eq e2]
        exact ⟨rfl, e3⟩
    refine ⟨⟨i, hi, nat_beq_eq h1, nat_beq_eq h2, z, hz, fun G => Z.isV_out hv G⟩, ?_, fun fs hk => ?_, fun n e e' m hk hzz => ?_, fun he => ?_, fun e he => ?_⟩
    · cases hk : y.k with
      | st fs =>
        obtain ⟨fields, q1, q2, q3, q4, q5⟩ := hst fs hk
        refine ⟨fields, q1, sameFs_out q2, fieldsB_out q3, q4, fun i tt d hd => ?_⟩
        obtain ⟨c, inf, _, m2, m3, m4⟩ := (offB_out fs 0 y.zero q5).2 i tt d hd
        exact ⟨c, inf, m2, m3, m4⟩
      | ar n e => exact (har n e hk).1
      | _ =>
        unfold undB at h4
        rw [hk] at h4
        split at h4 <;> simp_all
    · obtain ⟨fields, _, _, _, _, q5⟩ := hst fs hk
      exact (offB_out fs 0 y.zero q5).1
    · have := (har n e hk).2
      rw [hzz] at this
      simp only [] at this
      split at this
      · next ie hie => exact ⟨ie, hie, nat_beq_eq this⟩
      · cases this
    · rw [he] at h5
      simpa using h5
    · rw [he] at hel
      simp only [Bool.and_eq_true] at hel
      obtain ⟨⟨m1, m2⟩, m3⟩ := hel
      refine ⟨nat_beq_eq m1, by simpa [Nat.blt_eq] using m2, i, z, hi, hz, fun im w => ?_⟩
      obtain ⟨c, e1, hc⟩ := El.eat_out im w e _ [] (isNil_out m3)
      rw [List.append_nil] at e1
      rw [e1]
      exact hc

theorem tysB_out {P : Program} : ∀ {l : List (Nat × TyI)}, tysB P l = true → ∀ t y, (t, y) ∈ l → TyOk P t y
  | [], _, _, _, h => by cases h
  | (t, y) :: l, h, t', y', hm => by
    simp only [tysB, Bool.and_eq_true] at h
    rcases List.mem_cons.1 hm with hm | hm
    · cases hm; exact tyB_out h.1
    · exact tysB_out h.2 t' y' hm

end Go.J

set_option linter.unusedSimpArgs false
set_option linter.unusedVariables false
set_option linter.unusedSectionVars false

namespace Go.J

/-- A function that may be called, by its contract. -/
def May (P : Program) (p : Nat × (List T → Hp → Nat → (T → Hp → Nat → Prop) → Prop)) : Prop := FnIs P p.1 ∧ CallOk P p.1 p.2
def AllMay (P : Program) : List (Nat × (List T → Hp → Nat → (T → Hp → Nat → Prop) → Prop)) → Prop
  | [] => True
  | p :: l => May P p ∧ AllMay P l
theorem allMay_out {P : Program} : ∀ {l : List (Nat × (List T → Hp → Nat → (T → Hp → Nat → Prop) → Prop))}, AllMay P l → ∀ f g, (f, g) ∈ l → May P (f, g)
  | [], _, _, _, h => by cases h
  | p :: l, h, f, g, hm => by
    rcases List.mem_cons.1 hm with rfl | hm
    · exact h.1
    · exact allMay_out h.2 f g hm
theorem env_of {P : Program} {tys : List (Nat × TyI)} {l : List (Nat × (List T → Hp → Nat → (T → Hp → Nat → Prop) → Prop))} (h1 : tysB P tys = true) (h2 : AllMay P l) : EnvOk P ⟨tys, l⟩ :=
  ⟨fun f g h => (allMay_out h2 f g h).1, tysB_out h1, fun f g h => (allMay_out h2 f g h).2⟩

/-- What a function's text asks for, at given ghosts. -/
noncomputable def denX (E : Env) (S : Spec) (as : Hints) (f : Func) (x : Gh S.cs S.ar) : Prop :=
  match f.body with
  | none => False
  | some c => S.pre x → ghK S.cs S.ar x (CSh.encsK id S.cs x fun hp x' => Sh.encsK id S.ar x' fun args _ => lpadK f.ntmps args fun fr => denC E S.n as c fr hp S.n fun e fr hp _ => match e with
    | .normal => denF.fin E S f x fr hp
    | .ret => denF.fin E S f x fr hp
    | _ => False)

/-- From a function's side conditions to its contract. -/
theorem fn_of {P : Program} {tys : List (Nat × TyI)} {l : List (Nat × (List T → Hp → Nat → (T → Hp → Nat → Prop) → Prop))} {f : FuncId} {S : Spec} {hi : Hints} {fn : Func} {c : Code} (h1 : tysB P tys = true) (hmix : P.follows .mixedOrders = true) (h2 : AllMay P l)
    (hf : P.funcs[f]? = some fn) (hb : fn.body = some c) (hn : (fn.name == "runtime.NumGoroutine") = false) (hc : codeOk hi.plans c = true) (hs : (idsOk S.cs && idsOk S.cs' && Nat.ble S.n S.n') = true) (h : denF ⟨tys, l⟩ S hi fn) : (FnIs P f ∧ FnOk P f S) ∧ (idsOk S.cs && idsOk S.cs' && Nat.ble S.n S.n') = true := by
  have hs' := hs
  simp only [Bool.and_eq_true] at hs'
  exact ⟨⟨⟨fn, hf, hn, by rw [hb]; rfl⟩, fn_ok (env_of h1 h2) hmix hf hb hc (by simp only [Bool.and_eq_true]; exact ⟨hs'.1.2, hs'.2⟩) h⟩, hs⟩
theorem may_call {P : Program} {f : FuncId} {S : Spec} (h : (FnIs P f ∧ FnOk P f S) ∧ (idsOk S.cs && idsOk S.cs' && Nat.ble S.n S.n') = true) : May P (f, S.call) := ⟨h.1.1, call_ok false h.1.2 h.2⟩
theorem may_callN {P : Program} {f : FuncId} {S : Spec} (h : (FnIs P f ∧ FnOk P f S) ∧ (idsOk S.cs && idsOk S.cs' && Nat.ble S.n S.n') = true) : May P (f, S.callN) := ⟨h.1.1, call_ok true h.1.2 h.2⟩

end Go.J

