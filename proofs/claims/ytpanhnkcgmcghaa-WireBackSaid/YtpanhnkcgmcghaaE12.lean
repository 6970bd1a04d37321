/-
  THE ENGINE, part 12: comparisons; conversions; calls.
-/
import Derived.Test.YtpanhnkcgmcghaaE11
import Derived.ChangeKeysEq
import Derived.Laws.Pointers
import Derived.Lib.SliceRun
set_option linter.unusedSimpArgs false
set_option linter.unusedVariables false
set_option linter.unusedSectionVars false

namespace Go.J
open Go.RowKit

section
variable {P : Program} {E : Env} {w0 : World} {F0 : Base} {G : Cx} {hp : Hp} {nx : Nat} {o : Oper} {a : Act} {fr : List T} {k : T → Hp → Nat → Prop}

theorem lookTy_out : ∀ {l : List (Nat × TyI)} {t : TypeId} {y : TyI}, lookTy l t = some y → (t, y) ∈ l
  | [], _, _, h => by simp [lookTy] at h
  | (t', i) :: l, t, y, h => by
    unfold lookTy at h
    split at h
    · next hb =>
      obtain rfl := nat_beq_eq hb
      simp at h
      simp [h]
    · simp [lookTy_out h]

def typedShape : Ty → T → Bool
  | .st _, .nil => true
  | .st _, .cons _ _ => true
  | .ar _ _, .nil => true
  | .ar _ _, .cons _ _ => true
  | .ar _ _, .arr _ _ _ => true
  | .st _, _ => false
  | .ar _ _, _ => false
  | _, .v _ => true
  | _, _ => false

/-- An element of one cell, as its cell. -/
def valS : (e : El) → e.ty → Value
  | .u8, x => .int .u8 x.toNat
  | .int k, n => .int k n
  | .bool, b => .bool b
  | .str, s => .string ⟨⟨s⟩⟩
  | _, _ => undef

theorem scal_cells {im : Nat → Prop} {w : World} {e : El} (h : e.scal = true) {x : e.ty} {cs : List Value} (hc : cellsOf im w e x cs) : cs = [valS e x] := by
  cases e <;> simp [El.scal] at h <;> exact hc

theorem scal_list {im : Nat → Prop} {w : World} {e : El} (h : e.scal = true) : ∀ {xs : List e.ty} {cs : List Value}, listOf (cellsOf im w e) xs cs → cs = xs.map (valS e)
  | [], _, hc => hc
  | x :: xs, _, ⟨c1, c2, e1, k1, k2⟩ => by
    rw [e1, scal_cells h k1, scal_list h k2]
    rfl

theorem scal_sz {e : El} (h : e.scal = true) : e.sz = 1 := by
  cases e <;> simp [El.scal] at h <;> rfl

theorem scal_eq {t : TypeId} {y : TyI} {e : El} (ht : TyOk P t y) (h : scalTy y.k e = true) (w : World) (d : Nat) (x x' : e.ty) :
    (Op.equalIn (d + 1) t (valS e x) (valS e x')).run P w = .ok (@decide (x = x') (El.decEqTy e x x')) w := by
  have hu := ht.und
  cases hk : y.k <;> rw [hk] at h hu <;> cases e <;> simp only [scalTy, Bool.false_eq_true] at h
  · rw [valS, valS, run_equalIn_int w d t _ _ _ _ hu]
    congr 1
    rw [Bool.eq_iff_iff]
    simp only [beq_iff_eq, decide_eq_true_eq, Int.natCast_inj]
    exact ⟨fun h => UInt8.toNat_inj.1 h, fun h => congrArg _ h⟩
  · rw [valS, valS, run_equalIn_int w d t _ _ _ _ hu]
    congr 1
  · rw [valS, valS, run_equalIn_bool w d t _ _ hu]
    congr 1
  · rw [valS, valS, run_equalIn_string w d t _ _ hu]
    congr 1
    rw [Bool.eq_iff_iff]
    simp only [beq_iff_eq, decide_eq_true_eq, ByteArray.toList_eq]

theorem scal_plain {t : TypeId} {y : TyI} {e : El} (ht : TyOk P t y) (h : scalTy y.k e = true) : P.plainKey t = true := by
  have hu := ht.und
  unfold Program.plainKey
  cases hk : y.k <;> rw [hk] at h hu <;> cases e <;> simp only [scalTy, Bool.false_eq_true] at h <;> simp only at hu <;> rw [hu]

theorem items_eq {t : TypeId} {y : TyI} {e : El} (ht : TyOk P t y) (h : scalTy y.k e = true) (w : World) (d : Nat) (csx csy : List Value) : ∀ (xs ys : List e.ty) (i n : Nat), xs.length = n → ys.length = n → csx.drop i = xs.map (valS e) → csy.drop i = ys.map (valS e) →
    (Op.eqItems (d + 1) t 1 ⟨csx⟩ ⟨csy⟩ (List.range' i n)).run P w = .ok (@decide (xs = ys) (@instDecidableEqList _ (El.decEqTy e) xs ys)) w
  | [], [], i, n, hx, _, _, _ => by
    simp at hx
    subst hx
    simp [Op.eqItems]
  | [], _ :: _, i, n, hx, hy, _, _ => by simp at hx hy; omega
  | _ :: _, [], i, n, hx, hy, _, _ => by simp at hx hy; omega
  | x :: xs, y' :: ys, i, n, hx, hy, ex, ey => by
    simp only [List.length_cons] at hx hy
    subst hx
    have gx : csx[i]? = some (valS e x) := by
      have := congrArg (·[0]?) ex
      simpa using this
    have gy : csy[i]? = some (valS e y') := by
      have := congrArg (·[0]?) ey
      simpa using this
    have px := run_part_plain w (scal_plain ht h) (xs := ⟨csx⟩) (off := i) (by simpa using gx)
    have py := run_part_plain w (scal_plain ht h) (xs := ⟨csy⟩) (off := i) (by simpa using gy)
    have hq := scal_eq ht h w d x y'
    have rest := items_eq ht h w d csx csy xs ys (i + 1) xs.length rfl (by omega) (by rw [← List.drop_drop, ex]; simp) (by rw [← List.drop_drop, ey]; simp)
    rw [List.range'_succ]
    simp only [Op.eqItems, Nat.mul_one, Sem.run_bind, px, py, hq, Result.andThen_ok]
    by_cases hxy : x = y'
    · subst hxy
      simp only [decide_true, Bool.not_true, Bool.false_eq_true, if_false, rest]
      congr 1
      simp
    · simp [hxy]

theorem shapeK_true {y : Ty} {x : T} : typedShape y x = true → shapeK y x (fun _ => True) := by
  cases y <;> cases x <;> simp [typedShape, shapeK]

theorem typed_shape : ∀ {n : Nat} {l : List (Nat × TyI)} {t : TypeId} {x : T}, typed n l t x = true → ∃ y, (t, y) ∈ l ∧ Nat.beq x.size y.size = true ∧ shapeK y.k x (fun _ => True)
  | 0, _, _, _, h => by simp [typed] at h
  | n + 1, l, t, x, h => by
    unfold typed at h
    cases hl : lookTy l t with
    | none => simp [hl] at h
    | some y =>
      simp only [hl, Bool.and_eq_true] at h
      refine ⟨y, lookTy_out hl, h.1, shapeK_true ?_⟩
      have h2 := h.2
      cases hk : y.k <;> rw [hk] at h2 <;> simp only [Bool.false_eq_true] at h2 <;> cases x <;> first | rfl | (simp only [Bool.false_eq_true] at h2; done) | skip
      all_goals (rename_i fs; cases fs <;> simp [typedL] at h2)

theorem eqFields_run (n d : Nat) (hE : EnvOk P E)
    (IH : ∀ (t : TypeId) (x y : T) (vx vy : Value) (kk : V → Prop), typed n E.ty t x = true → typed n E.ty t y = true → eqTK x y kk → tVal G x vx → tVal G y vy → ∃ b r, (Op.equalIn d t vx vy).run P G.w = .ok b G.w ∧ vOk G r (.bool b) ∧ r ≠ .any ∧ kk r) :
    ∀ (fl : List Field) (dd : Nat) (x y : T) (csx csy : List Value) (kk : V → Prop), (∀ f ∈ fl, f.name ≠ "_") → typedL (typed n E.ty) (fl.map fun f => (f.type, f.offset)) dd x = true → typedL (typed n E.ty) (fl.map fun f => (f.type, f.offset)) dd y = true → eqTK x y kk →
      dd ≤ csx.length → dd ≤ csy.length → tCells G x (csx.drop dd) → tCells G y (csy.drop dd) → ∃ b r, (Op.eqFields d ⟨csx⟩ ⟨csy⟩ fl).run P G.w = .ok b G.w ∧ vOk G r (.bool b) ∧ r ≠ .any ∧ kk r
  | [], dd, x, y, csx, csy, kk, _, tx, ty', hk, _, _, _, _ => by
    cases x <;> simp only [List.map_nil, typedL, Bool.false_eq_true] at tx
    cases y <;> simp only [List.map_nil, typedL, Bool.false_eq_true] at ty'
    exact ⟨true, .tt, by simp [Op.eqFields], rfl, by simp, hk⟩
  | f :: fl, dd, x, y, csx, csy, kk, hn, tx, ty', hk, lx, ly, cx, cy => by
    cases x <;> simp only [List.map_cons, typedL, Bool.false_eq_true] at tx
    cases y <;> simp only [List.map_cons, typedL, Bool.false_eq_true] at ty'
    rename_i x xs y ys
    simp only [Bool.and_eq_true] at tx ty'
    obtain ⟨⟨t1, t2⟩, t3⟩ := tx
    obtain ⟨⟨u1, u2⟩, u3⟩ := ty'
    have hoff := nat_beq_eq t1
    have part_ok : ∀ (x : T) (xs : T) (cs : List Value), dd ≤ cs.length → typed n E.ty f.type x = true → tCells G (.cons x xs) (cs.drop dd) →
        (∃ v, (part f.type ⟨cs⟩ dd).run P G.w = .ok v G.w ∧ tVal G x v) ∧ dd + x.size ≤ cs.length ∧ tCells G xs (cs.drop (dd + x.size)) := by
      intro x xs cs hle ht hc
      obtain ⟨z, hz, hs, hsh⟩ := typed_shape ht
      obtain ⟨c1, c2, e1, k1, k2⟩ := hc
      have hlen := tCells.length k1
      have hl : dd + x.size ≤ cs.length := by
        have := congrArg List.length e1
        simp at this
        omega
      obtain ⟨v, r1, r2, _⟩ := run_part_t (d := dd) (cs := cs) (hE.ty _ z hz) hs hsh (by rw [e1, ← hlen, List.take_left]; exact k1) hl
      exact ⟨⟨v, r1, r2⟩, hl, by rw [← List.drop_drop, e1, ← hlen, List.drop_left]; exact k2⟩
    obtain ⟨⟨va, p1, p2⟩, p3, p4⟩ := part_ok x xs csx lx t2 cx
    obtain ⟨⟨vb, q1, q2⟩, q3, q4⟩ := part_ok y ys csy ly u2 cy
    have hsz : x.size = y.size := by
      obtain ⟨z, hz, hs, _⟩ := typed_shape t2
      obtain ⟨z', hz', hs', _⟩ := typed_shape u2
      have h1 := nat_beq_eq hs
      have h2 := nat_beq_eq hs'
      obtain ⟨i, hi, hi1, _⟩ := (hE.ty _ z hz).info
      obtain ⟨i', hi', hi1', _⟩ := (hE.ty _ z' hz').info
      obtain rfl : i = i' := Option.some.inj (hi.symm.trans hi')
      omega
    obtain ⟨b, r, m1, m2, m3, m4⟩ := IH f.type x y va vb _ t2 u2 (show eqTK x y fun x => eqTK xs ys fun y => kk (andV x y) from hk) p2 q2
    obtain ⟨b', r', m1', m2', m3', m4'⟩ := eqFields_run n d hE IH fl (dd + x.size) xs ys csx csy _ (fun g hg => hn g (by simp [hg])) t3 (by rw [hsz]; exact u3) m4 p3 (by rw [hsz]; exact q3) p4 (by rw [hsz]; exact q4)
    obtain ⟨a1, a2⟩ := andV_ok m2 m3 m2' m3'
    refine ⟨b && b', andV r r', ?_, a1, a2, m4'⟩
    rw [← hoff] at p1 q1
    simp only [Op.eqFields, hn f (by simp), ne_eq, not_false_eq_true, if_true, Sem.run_bind, p1, q1, m1, Result.andThen_ok]
    cases b
    · simp
    · simp [m1']

theorem eqT_run (hE : EnvOk P E) : ∀ (n : Nat) (t : TypeId) (x y : T) (vx vy : Value) (kk : V → Prop), typed n E.ty t x = true → typed n E.ty t y = true → eqTK x y kk → tVal G x vx → tVal G y vy → ∀ d,
    ∃ b r, (Op.equalIn (d + n + 1) t vx vy).run P G.w = .ok b G.w ∧ vOk G r (.bool b) ∧ r ≠ .any ∧ kk r
  | 0, _, _, _, _, _, _, h, _, _, _, _, _ => by simp [typed] at h
  | n + 1, t, x, y, vx, vy, kk, hx, hy, hk, hvx, hvy, d => by
    unfold typed at hx hy
    cases hl : lookTy E.ty t with
    | none => simp [hl] at hx
    | some ty =>
      have hty := hE.ty t ty (lookTy_out hl)
      have hu := hty.und
      simp only [hl, Bool.and_eq_true] at hx hy
      obtain ⟨hx1, hx⟩ := hx
      obtain ⟨hy1, hy⟩ := hy
      cases hty' : ty.k <;> rw [hty'] at hx hy hu <;> simp only [Bool.false_eq_true] at hx
      case int ik =>
        cases x <;> (try simp only [Bool.false_eq_true] at hx)
        cases y <;> (try simp only [Bool.false_eq_true] at hy)
        rename_i x y
        cases x <;> (try simp only [Bool.false_eq_true] at hx)
        cases y <;> (try simp only [Bool.false_eq_true] at hy)
        obtain rfl := eq_of_beq hx
        obtain rfl := eq_of_beq hy
        rename_i x y
        simp only [eqTK, beq_self_eq_true] at hk
        have hvx : vx = _ := hvx
        have hvy : vy = _ := hvy
        subst hvx hvy
        refine ⟨_, _, run_equalIn_int G.w (d + (n + 1)) t _ _ _ _ hu, ?_, ?_, hk⟩
        · simp [vOk]; rfl
        · simp
      case bool =>
        cases x <;> (try simp only [Bool.false_eq_true] at hx)
        cases y <;> (try simp only [Bool.false_eq_true] at hy)
        rename_i x y
        obtain ⟨b, hb⟩ := Option.isSome_iff_exists.1 hx
        obtain ⟨c, hc⟩ := Option.isSome_iff_exists.1 hy
        have e1 := boolV_ok hb hvx
        have e2 := boolV_ok hc hvy
        subst e1 e2
        have hkk : kk (eqBool x y) := by
          have : ∀ (x y : V) (b c : Bool), boolV x = some b → boolV y = some c → eqTK (.v x) (.v y) kk → kk (eqBool x y) := by
            intro x y b c hb hc hk
            cases x <;> simp only [boolV] at hb <;> (try cases hb) <;> cases y <;> simp only [boolV] at hc <;> (try cases hc) <;> exact hk
          exact this x y b c hb hc hk
        obtain ⟨m1, m2⟩ := eqBool_ok (G := G) hb hc
        exact ⟨_, _, run_equalIn_bool G.w (d + (n + 1)) t _ _ hu, m1, m2, hkk⟩
      case str =>
        cases x <;> (try simp only [Bool.false_eq_true] at hx)
        cases y <;> (try simp only [Bool.false_eq_true] at hy)
        rename_i x y
        cases x <;> (try simp only [Bool.false_eq_true] at hx)
        cases y <;> (try simp only [Bool.false_eq_true] at hy)
        rename_i x y
        have hvx : vx = .string ⟨⟨x⟩⟩ := hvx
        have hvy : vy = .string ⟨⟨y⟩⟩ := hvy
        subst hvx hvy
        refine ⟨_, .bool (decide (x = y)), run_equalIn_string G.w (d + (n + 1)) t _ _ hu, ?_, by simp, hk⟩
        show Value.bool _ = Value.bool _
        congr 1
        rw [Bool.eq_iff_iff]
        simp [ByteArray.toList_eq]
      case ar m e =>
        cases x <;> (try simp only [Bool.false_eq_true] at hx)
        cases y <;> (try simp only [Bool.false_eq_true] at hy)
        rename_i ex xs nx' ey ys ny'
        cases hl2 : lookTy E.ty e with
        | none => simp [hl2] at hx
        | some z =>
          simp only [hl2, Bool.and_eq_true] at hx hy
          obtain ⟨⟨⟨h1, h2⟩, h3⟩, h4⟩ := hx
          obtain ⟨⟨⟨g1, g2⟩, g3⟩, g4⟩ := hy
          obtain rfl := nat_beq_eq h1
          obtain rfl := nat_beq_eq g1
          have hz1 := nat_beq_eq h4
          have hzo := hE.ty e z (lookTy_out hl2)
          obtain ⟨i, hi, hi1, _⟩ := hzo.info
          obtain ⟨csx, rfl, l1, c1⟩ := hvx
          obtain ⟨csy, rfl, l2, c2⟩ := hvy
          simp only [eqTK] at hk
          split at hk
          · obtain rfl := castK_eq hk
            have hk := castK_self hk
            refine ⟨@decide (xs = ys) (@instDecidableEqList _ (El.decEqTy _) xs ys), _, ?_, ?_, ?_, hk⟩
            · rw [run_equalIn_array G.w (d + (n + 1)) _ _ hu hi]
              have hc1 : P.cellsOf e = 1 := by simp [Program.cellsOf, hi, hi1, hz1]
              rw [hc1, List.range_eq_range']
              exact items_eq hzo h3 G.w (d + n) csx csy xs ys 0 m l1 l2 (by simpa using scal_list h2 c1) (by simpa using scal_list h2 c2)
            · simp [vOk]
            · simp
          · exact hk.elim
      case st fs =>
        obtain ⟨fields, hu, hfs, hne, hsh, _⟩ := hu
        have hfo : P.fieldsOf t = fields := by simp [Program.fieldsOf, hu]
        have ax : ∀ {x : T} {v : Value}, typedL (typed n E.ty) fs 0 x = true → tVal G x v → ∃ cs : List Value, v = .agg ⟨cs⟩ ∧ tCells G x cs := by
          intro x v h hv
          refine agg_of hv ?_ ?_ <;> intro y hy <;> subst hy <;> cases fs <;> simp [typedL] at h
        obtain ⟨csx, rfl, c1⟩ := ax hx hvx
        obtain ⟨csy, rfl, c2⟩ := ax hy hvy
        subst hfs
        rw [run_equalIn_struct G.w (d + (n + 1)) t _ _ (by rw [hfo]; exact hu) hsh, hfo]
        exact eqFields_run n (d + (n + 1)) hE (fun t x y vx vy kk h1 h2 h3 h4 h5 => eqT_run hE n t x y vx vy kk h1 h2 h3 h4 h5 d) fields.toList 0 x y csx csy kk (fun f hf => (hne f hf).1) hx hy hk (Nat.zero_le _) (Nat.zero_le _) (by simpa using c1) (by simpa using c2)

end
end Go.J
