/-
  THE ENGINE, part 13: operators; conversions; calls; every operation.
-/
import Derived.Test.YtpanhnkcgmcghaaE12C
set_option linter.unusedSimpArgs false
set_option linter.unusedVariables false
set_option linter.unusedSectionVars false

namespace Go.J
open Go.RowKit

section
variable {P : Program} {E : Env} {w0 : World} {F0 : Base} {G : Cx} {hp : Hp} {nx : Nat} {o : Oper} {a : Act} {fr : List T} {k : T → Hp → Nat → Prop}

theorem run_equalIn_slice_nil' (w : World) (d : Nat) (t e : TypeId) (a : Option Addr) (l c : Nat) (h : P.underlying t = some (.slice e)) : (Op.equalIn (d + 1) t (.slice a l c) (.slice none 0 0)).run P w = .ok a.isNone w := by
  cases a <;> simp [Op.equalIn, run_underlying h]

theorem run_binOp_of {op : BinOp} {t : TypeId} {x y : Operand} {b : TypeId} {v : Value} (ho : o.op = .binOp op t x y b) (hg : (eqGuard op t x y (a.eval x) (a.eval y)).run P G.w = .ok () G.w) (h : (binOp op t (a.eval x) (a.eval y)).run P G.w = .ok v G.w) :
    (execOp a.eval o).run P G.w = .ok (.value v) G.w := by
  simp only [execOp, ho, Sem.run_bind, hg, h, Result.andThen_ok, Sem.run_pure]

def plainV : Value → Bool
  | .agg _ => false
  | .nilIface => false
  | _ => true

theorem eqGuard_plain {op : BinOp} {t : TypeId} {x y : Operand} {v u : Value} (h : plainV v = true) : (eqGuard op t x y v u).run P G.w = .ok () G.w := by
  cases op <;> first | rfl | (cases v <;> simp [plainV] at h <;> cases u <;> rfl)

def eqV : Value → Bool
  | .slice _ _ _ => true
  | .pointer _ => true
  | .bool _ => true
  | .agg _ => true
  | _ => false

theorem run_eq_op {op : BinOp} {t : TypeId} {v u : Value} {b : Bool} {r : V} {kk : V → Prop} (hv : eqV v = true) (he : (Op.equalIn 10000 t v u).run P G.w = .ok b G.w) (hr : vOk G r (.bool b)) (hne : r ≠ .any) (h : denOp.eqOpK op r kk) :
    ∃ v' r', (binOp op t v u).run P G.w = .ok v' G.w ∧ vOk G r' v' ∧ kk r' := by
  cases op <;> simp only [denOp.eqOpK] at h
  · refine ⟨.bool b, r, ?_, hr, h⟩
    cases v <;> simp only [eqV, Bool.false_eq_true] at hv <;> simp [binOp, Op.equal, Op.maxDepth, he]
  · refine ⟨.bool !b, notV r, ?_, notV_ok hr hne, h⟩
    cases v <;> simp only [eqV, Bool.false_eq_true] at hv <;> simp [binOp, Op.equal, Op.maxDepth, he]

theorem run_str_op {op : BinOp} {t : TypeId} {x y : List UInt8} {kk : T → Prop}
    (h : match op with
      | .eql => kk (.v (.bool (decide (x = y))))
      | .neq => kk (.v (.bool (!decide (x = y))))
      | .lss => kk (.v (.bool (Op.bytesLess x y)))
      | .add => (x.length + y.length : Nat) ≤ maxLen ∧ kk (.v (.str (x ++ y)))
      | _ => False) :
    ∃ v' r', (binOp op t (.string ⟨⟨x⟩⟩) (.string ⟨⟨y⟩⟩)).run P G.w = .ok v' G.w ∧ vOk G r' v' ∧ kk (.v r') := by
  cases op <;> simp only at h
  case add =>
    refine ⟨.string ⟨⟨x ++ y⟩⟩, .str (x ++ y), ?_, rfl, h.2⟩
    · have h1 := h.1
      have : ¬ (((ByteArray.mk ⟨x⟩).size + (ByteArray.mk ⟨y⟩).size : Nat) : Int) > IntKind.i64.max := by
        have e1 : (ByteArray.mk ⟨x⟩).size = x.length := rfl
        have e2 : (ByteArray.mk ⟨y⟩).size = y.length := rfl
        rw [e1, e2]
        simp only [maxLen] at h1
        have : IntKind.i64.max = 9223372036854775807 := by decide
        omega
      simp only [binOp, Op.stringOp]
      rw [if_neg this]
      simp only [Sem.run_pure]
      congr 2
  case eql =>
    refine ⟨.bool (decide (x = y)), .bool (decide (x = y)), ?_, rfl, h⟩
    simp only [binOp, Op.stringOp, Sem.run_pure, ByteArray.toList_eq]
    congr 2
    rw [Bool.eq_iff_iff]
    simp
  case neq =>
    refine ⟨.bool (!decide (x = y)), .bool (!decide (x = y)), ?_, rfl, h⟩
    simp only [binOp, Op.stringOp, Sem.run_pure, ByteArray.toList_eq]
    congr 3
    rw [Bool.eq_iff_iff]
    simp
  case lss =>
    refine ⟨.bool (Op.bytesLess x y), .bool (Op.bytesLess x y), ?_, rfl, h⟩
    simp only [binOp, Op.stringOp, Sem.run_pure, ByteArray.toList_eq]

theorem ok_binOp (hE : EnvOk P E) {op : BinOp} {t : TypeId} {x y : Operand} {b : TypeId} (ho : o.op = .binOp op t x y b) (hm : Mdl w0 F0 G hp nx) (hf : frOk G fr a.tmps) (h0 : denOp E (.binOp op t x y b) fr hp nx k) : Goes P w0 F0 G o a k := by
  obtain ⟨tx, h1, hx⟩ := evalK_out hf h0
  obtain ⟨ty, h2, hy⟩ := evalK_out hf h1
  split at h2
  · next ik x' jk y' =>
    have hx : a.eval x = .int ik x' := hx
    have hy : a.eval y = .int jk y' := hy
    split at h2
    · obtain ⟨v, r, e1, e2, e3⟩ := run_shI (P := P) (G := G) (t := t) (jk := jk) h2
      rw [← hx, ← hy] at e1
      exact goes_v e3 hm e2 (run_binOp_of ho (eqGuard_plain (by rw [hx]; rfl)) e1)
    · split at h2
      · next he =>
        obtain rfl := eq_of_beq he
        obtain ⟨v, r, e1, e2, e3⟩ := run_binI (P := P) (G := G) (t := t) h2
        rw [← hx, ← hy] at e1
        exact goes_v e3 hm e2 (run_binOp_of ho (eqGuard_plain (by rw [hx]; rfl)) e1)
      · exact h2.elim
  · next x' y' =>
    have hx : a.eval x = .string ⟨⟨x'⟩⟩ := hx
    have hy : a.eval y = .string ⟨⟨y'⟩⟩ := hy
    obtain ⟨v, r, e1, e2, e3⟩ := run_str_op (P := P) (G := G) (t := t) (kk := fun t => k t hp nx) h2
    rw [← hx, ← hy] at e1
    exact goes_v e3 hm e2 (run_binOp_of ho (eqGuard_plain (by rw [hx]; rfl)) e1)
  · obtain ⟨ti, hti, h3⟩ := tyK_out h2
    have hty := hE.ty t ti hti
    have hund := hty.und
    have go : ∀ (v u : Value) (b : Bool) (r : V), a.eval x = v → a.eval y = u → eqV v = true → (eqGuard op t x y v u).run P G.w = .ok () G.w → (Op.equalIn 10000 t v u).run P G.w = .ok b G.w → vOk G r (.bool b) → r ≠ .any → denOp.eqOpK op r (fun r => k (.v r) hp nx) → Goes P w0 F0 G o a k := by
      intro v u b r e1 e2 hv hgu he hr hne hk
      obtain ⟨v', r', q1, q2, q3⟩ := run_eq_op (P := P) hv he hr hne hk
      rw [← e1, ← e2] at q1
      exact goes_v q3 hm q2 (run_binOp_of ho (by rw [e1, e2]; exact hgu) q1)
    have slnil : ∀ (A : Option Addr) (n c : Nat) (r : V), a.eval x = .slice A n c → a.eval y = .slice none 0 0 → (∃ e, ti.k = .sl e) → vOk G r (.bool A.isNone) → r ≠ .any → denOp.eqOpK op r (fun r => k (.v r) hp nx) → Goes P w0 F0 G o a k := by
      intro A n c r e1 e2 ⟨e, he⟩ hr hne hk
      rw [he] at hund
      exact go _ _ _ r e1 e2 rfl (eqGuard_plain rfl) (run_equalIn_slice_nil' G.w 9999 t e A n c hund) hr hne hk
    have ptnil : ∀ (p : Option Addr) (r : V), a.eval x = .pointer p → a.eval y = .pointer none → (∃ e, ti.k = .ptr e) → vOk G r (.bool p.isNone) → r ≠ .any → denOp.eqOpK op r (fun r => k (.v r) hp nx) → Goes P w0 F0 G o a k := by
      intro p r e1 e2 ⟨e, he⟩ hr hne hk
      rw [he] at hund
      exact go _ _ _ r e1 e2 rfl (eqGuard_plain rfl) (run_equalIn_pointer_nil G.w 9999 t p (by simp only [Program.pointee, hund])) hr hne hk
    split at h3
    · obtain ⟨h4, h5⟩ := slK_out h3
      exact slnil none 0 0 .tt hx hy h4 rfl (by simp) h5
    · next r _ _ =>
      obtain ⟨h4, h5⟩ := slK_out h3
      obtain ⟨c, hc, h6⟩ := lookK_out h5
      obtain ⟨bb, hr, hck⟩ := hm.chunk r c hc
      obtain ⟨b', k1, k2⟩ := tVal_of_v hx
      obtain rfl : bb = b' := Option.some.inj (hr.symm.trans k1)
      split at h6
      · next et e xs =>
        have hnn : 0 < xs.length → bb.nil = false := fun hp => by
          obtain ⟨A, c', e1, _, _, e2⟩ := own_row hck
          obtain ⟨b2, oo, css, e3, _⟩ := e2 hp
          rw [e3] at e1
          simp [B.val] at e1
          cases hb : bb.nil with
          | false => rfl
          | true => rw [hb] at e1; simp at e1
        have := h6 bb.nil hnn
        exact slnil _ _ _ (.bool bb.nil) k2 hy h4 (by cases bb.nil <;> rfl) (by simp) this
      · next et e xs =>
        have := h6 bb.nil (fun hp => (hck.2.2.2 (by rw [hck.1]; exact hp)).1)
        exact slnil _ _ _ (.bool bb.nil) k2 hy h4 (by cases bb.nil <;> rfl) (by simp) this
      · exact h6.elim
    · next e xs =>
      obtain ⟨h4, h5⟩ := slK_out h3
      obtain ⟨A, c, e1, e2, e3, e4⟩ := tVal_of_v hx
      simp at e1
      have := h5 A.isNone (fun hp => by obtain ⟨b, oo, css, q, _⟩ := e4 hp; rw [q]; rfl)
      exact slnil A _ c (.bool A.isNone) e1 hy h4 rfl (by simp) this
    · obtain ⟨h4, h5⟩ := ptrK_out h3
      exact ptnil none .tt hx hy h4 rfl (by simp) h5
    · obtain ⟨h4, h5⟩ := ptrK_out h3
      obtain ⟨b, k1, k2, k3⟩ := tVal_of_v hx
      exact ptnil _ .ff k3 hy h4 rfl (by simp) h5
    · obtain ⟨h4, h5⟩ := ptrK_out h3
      obtain ⟨_, b, oo, css, k3, _⟩ := tVal_of_v hx
      exact ptnil _ .ff k3 hy h4 rfl (by simp) h5
    · split at h3
      · next hb =>
        simp only [Bool.and_eq_true] at hb
        obtain ⟨⟨hb1, hb2⟩, hb3⟩ := hb
        obtain ⟨bb, r, q1, q2, q3, q4⟩ := eqT_run hE 9 t tx ty _ _ _ hb1 hb2 h3 hx hy 9990
        have hag : ∀ (x : T) (v : Value), denOp.eqTyOk ti x = true → tVal G x v → (∃ cs, v = .agg cs) ∧ ti.eqok = true ∨ ∃ b, v = .bool b := by
          intro x v h hv
          cases x with
          | v x =>
            obtain ⟨b, hb⟩ := Option.isSome_iff_exists.1 (show (boolV x).isSome = true from h)
            exact .inr ⟨b, boolV_ok hb hv⟩
          | tup _ => simp [denOp.eqTyOk] at h
          | nil => obtain ⟨cs, e, _⟩ := hv; exact .inl ⟨⟨_, e⟩, h⟩
          | cons _ _ => obtain ⟨cs, e, _⟩ := hv; exact .inl ⟨⟨_, e⟩, h⟩
          | arr _ _ _ => obtain ⟨cs, e, _⟩ := hv; exact .inl ⟨⟨_, e⟩, h⟩
        rcases hag tx _ hb3 hx with ⟨⟨cs, e1⟩, he⟩ | ⟨b, e1⟩
        · refine go _ _ bb r rfl rfl (by rw [e1]; rfl) ?_ q1 q2 q3 q4
          rw [e1]
          cases hu : a.eval y with
          | agg ds => exact run_eqGuard_agg G.w op t x y cs ds (hty.eqg he)
          | _ => cases op <;> rfl
        · exact go _ _ bb r rfl rfl (by rw [e1]; rfl) (eqGuard_plain (by rw [e1]; rfl)) q1 q2 q3 q4
      · exact h3.elim

theorem ok_convert (hE : EnvOk P E) {s t : TypeId} {x : Operand} (ho : o.op = .convert s t x) (hm : Mdl w0 F0 G hp nx) (hf : frOk G fr a.tmps) (h0 : denOp E (.convert s t x) fr hp nx k) : Goes P w0 F0 G o a k := by
  obtain ⟨tx, h1, hx⟩ := evalK_out hf h0
  obtain ⟨ya, hya, h2⟩ := tyK_out h1
  obtain ⟨yb, hyb, h3⟩ := tyK_out h2
  have ha := (hE.ty s ya hya).und
  have hb := (hE.ty t yb hyb).und
  split at h3
  · next k1 ik k2 n e1 e2 =>
    rw [e1] at ha
    rw [e2] at hb
    have hx : a.eval x = .int k2 n := hx
    exact goes_v h3 hm (v := .int ik (ik.wrap n)) rfl (by simp [execOp, ho, hx, convert, run_underlying ha, run_underlying hb, Conv.intToInt])
  · next e v e1 e2 =>
    obtain ⟨z, hz, h4⟩ := tyK_out h3
    rw [e1] at ha
    rw [e2] at hb
    have he := (hE.ty e z hz).und
    split at h4
    · next ik hk =>
      split at h4
      · next hik =>
        obtain rfl := eq_of_beq hik
        rw [hk] at he
        obtain ⟨xs, h5, A, c, q1, q2, q3, q4⟩ := rdK_out hm hx h4
        have hrun : (Conv.bytesToString (.slice A xs.length c)).run P G.w = .ok (.string ⟨⟨xs⟩⟩) G.w := by
          cases A with
          | none =>
            have : xs = [] := by
              cases xs with
              | nil => rfl
              | cons y ys => obtain ⟨b, oo, css, e, _⟩ := q4 (by simp); cases e
            subst this
            rfl
          | some ad =>
            have hld : (loadCells ad xs.length).run P G.w = .ok ((xs.map fun x => (x.toNat : Int)).map (Value.int .u8)).toArray G.w := by
              have := run_loadCells_list (P := P) G.w ad ((xs.map fun x => (x.toNat : Int)).map (Value.int .u8)) (fun j v hj => by
                have hlt : 0 < xs.length := by
                  have := (List.getElem?_eq_some_iff.1 hj).1
                  simp at this
                  omega
                obtain ⟨b, oo, css, e, k1, k2⟩ := q4 hlt
                simp at e
                subst e
                have k3 := scal_list (by rfl) k2
                have := k1 j v (by rw [k3]; rw [← hj, List.map_map]; rfl)
                simpa [Addr.add_mid] using this)
              simpa using this
            rw [run_bytesToString G.w ad xs.length c _ hld]
            congr 2
            have : ∀ (l : List UInt8) (acc : ByteArray), (l.map fun x => (x.toNat : Int)).foldl (fun (r : ByteArray) (n : Int) => r.push (UInt8.ofNat n.toNat)) acc = ⟨⟨acc.data.toList ++ l⟩⟩ := by
              intro l
              induction l with
              | nil => intro acc; simp
              | cons x l ih =>
                intro acc
                rw [List.map_cons, List.foldl_cons, ih]
                simp
            rw [this]
            simp
        refine goes_v h5 hm (v := .string ⟨⟨xs⟩⟩) rfl ?_
        simp only [execOp, ho, q1, run_convert_bytes_string (P := P) G.w s t e A xs.length c ha he hb, hrun, Sem.run_bind, Result.andThen_ok, Sem.run_pure]
      · exact h4.elim
    · exact h4.elim
  · exact h3.elim

theorem callK_out {kk : (List T → Hp → Nat → (T → Hp → Nat → Prop) → Prop) → Prop} : ∀ {l : List (Nat × (List T → Hp → Nat → (T → Hp → Nat → Prop) → Prop))} {f : FuncId}, denOp.callK l f kk → ∃ g, (f, g) ∈ l ∧ kk g
  | [], _, h => h.elim
  | (f', g) :: l, f, h => by
    unfold denOp.callK at h
    split at h
    · next hb =>
      obtain rfl := nat_beq_eq hb
      exact ⟨g, by simp, h⟩
    · obtain ⟨g', h1, h2⟩ := callK_out h
      exact ⟨g', by simp [h1], h2⟩

theorem ok_call (hE : EnvOk P E) {c : Call} {f : FuncId} (ho : o.op = .call c) (hc : c.callee = .value (.func f)) (hm : Mdl w0 F0 G hp nx) (hf : frOk G fr a.tmps) (h0 : denOp E (.call c) fr hp nx k) : Goes P w0 F0 G o a k := by
  simp only [denOp, hc] at h0
  obtain ⟨g, hg, h1⟩ := callK_out h0
  obtain ⟨ts, h2, hts⟩ := evalsK_out hf h1
  obtain ⟨fn, q1, q2, q3⟩ := hE.fn f g hg
  have hcall := hE.call f g hg w0 F0 G hp nx ts _ k hm hts h2
  have hrun : (execOp a.eval o).run P G.w = .ok (.enter f (c.args.map a.eval)) G.w := by
    have q4 : fn.name ≠ "runtime.NumGoroutine" := by simpa using q2
    have q5 : fn.body.isSome = true := by cases hb : fn.body <;> simp [hb] at q3 ⊢
    obtain ⟨body, q6⟩ := Option.isSome_iff_exists.1 q5
    simp [execOp, ho, resolve, hc, Act.eval, Deferred.ofValue, invoke, callFunc, q1, q4, q6]
  intro next Q hn
  unfold Oper.wp
  rw [hrun, Oper.upon_enter]
  intro cs
  obtain ⟨e, w', fr', ⟨G', x, v, hp', nx', rfl, rfl, r3, r4, r5, r6⟩, r7, r8⟩ := hcall cs
  refine ⟨_, _, fr', ?_, ?_, r8⟩
  · exact hn G' x v hp' nx' r3 r4 r5 r6
  · have : c.args.map a.eval = ⟨c.args.toList.map a.eval⟩ := by apply Array.ext'; simp
    rw [this]
    exact r7

/-- Every operation. -/
theorem op_ok (hE : EnvOk P E) (hm : Mdl w0 F0 G hp nx) (hf : frOk G fr a.tmps) (h : denOp E o.op fr hp nx k) : Goes P w0 F0 G o a k := by
  cases ho : o.op <;> rw [ho] at h
  case move => exact ok_move (.inl ho) hm hf h
  case assign => exact ok_move (.inr ho) hm hf h
  case pick => exact ok_pick ho hm hf h
  case alloc => exact ok_alloc hE ho hm h
  case box => exact ok_box hE ho hm hf h
  case build => exact ok_build hE ho hm hf h
  case buildSlice => exact ok_buildSlice hE ho hm hf h
  case load => exact ok_load hE ho hm hf h
  case store => exact ok_store hE ho hm hf h
  case nilCheck => exact ok_nilCheck ho hm hf h
  case binOp => exact ok_binOp hE ho hm hf h
  case unOp => exact ok_unOp ho hm hf h
  case convert => exact ok_convert hE ho hm hf h
  case makeSlice => exact ok_makeSlice hE ho hm hf h
  case slice => exact ok_slice hE ho hm hf h
  case fieldAddr => exact ok_fieldAddr hE ho hm hf h
  case field => exact ok_field hE ho hm hf h
  case indexAddr => exact ok_indexAddr hE ho hm hf h
  case index => exact ok_index hE ho hm hf h
  case extract => exact ok_extract ho hm hf h
  case call c =>
    cases hc : c.callee with
    | builtin b =>
      cases b
      case append => exact ok_append hE ho hc hm hf h
      case copy => exact ok_copy hE ho hc hm hf h
      case len => exact ok_len hE ho hc hm hf h
      case min => exact ok_min ho hc hm hf h
      case max => exact ok_max ho hc hm hf h
      all_goals (simp only [denOp, hc] at h)
    | value x =>
      cases x with
      | func f => exact ok_call hE ho hc hm hf h
      | _ => simp only [denOp, hc] at h
    | invoke _ _ => simp only [denOp, hc] at h
  all_goals exact h.elim

end
end Go.J
