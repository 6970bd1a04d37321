/-
  JOBBER: the engine and the functions of this claim, part 6.
-/
import Derived.Test.YtfeaoffmpphkdaaDoorK5
import Derived.KernelRfl
import Derived.Tactics
import Derived.Tactics2
import Derived.Defers
import Derived.Laws.Pointers
import Derived.Laws.LoneSync
import Derived.RegionTactic
import Derived.RegionCalls
import Derived.ChangeAlike
import Derived.Below
import Derived.ProofKit
import Derived.OpenShut
import Derived.ShutString
import Derived.ChangeOld
import Derived.DataReads
import Derived.ChangeArms
set_option linter.unusedSimpArgs false
set_option linter.unusedVariables false
set_option linter.unusedSectionVars false
namespace Go.J
open Go.Proofs

theorem oDisable (w : World) : (callFunc 75 #[]).run Tryd.prog w = .ok (.value (.tuple #[])) w := run_call_mark0 Tryd.func75 (by kernel_rfl) (by kernel_rfl) (by kernel_rfl) .disable (by kernel_rfl) w
theorem oEnable (w : World) : (callFunc 77 #[]).run Tryd.prog w = .ok (.value (.tuple #[])) w := run_call_mark0 Tryd.func77 (by kernel_rfl) (by kernel_rfl) (by kernel_rfl) .enable (by kernel_rfl) w
theorem oAcquire (a : Addr) (w : World) : (callFunc 78 #[.pointer (some a)]).run Tryd.prog w = .ok (.value (.tuple #[])) w := run_call_marked Tryd.func78 (by kernel_rfl) (by kernel_rfl) (by kernel_rfl) .acquire (by kernel_rfl) a w
theorem oReleaseMerge (a : Addr) (w : World) : (callFunc 80 #[.pointer (some a)]).run Tryd.prog w = .ok (.value (.tuple #[])) w := run_call_marked Tryd.func80 (by kernel_rfl) (by kernel_rfl) (by kernel_rfl) .releaseMerge (by kernel_rfl) a w

set_option maxRecDepth 100000 in
set_option maxHeartbeats 1600000 in
theorem oStore (a : Addr) (x : Value) (u : FrameMode) (w : World) (hc : w.cell? a = some x) (hz : w.frozen? a = false) :
    CallsD Tryd.prog 63 #[.pointer (some a), .bool true] u w fun e u' w' => u' = u ∧ (e = .returned (.tuple #[]) ∧ w' = w.drew.setCell a (.int .u32 1)) := by
  have hc' : w.drew.cell? a = some x := by go_simp
  have hz' : w.drew.frozen? a = false := by go_simp
  have hst := run_call_store (P := Tryd.prog) Tryd.func71 (by kernel_rfl) (by kernel_rfl) (by kernel_rfl) (by kernel_rfl) (k := .u32) (y := 1) hc' hz'
  go_enter_d Tryd.func63, Tryd.ntmps63
  go_wp2
  go_region_calls
  all_goals (go_end0; exact ⟨rfl, rfl⟩)

set_option maxRecDepth 100000 in
set_option maxHeartbeats 1600000 in
theorem oUnlock (a : Addr) (u : FrameMode) (w : World) (hc : w.cell? a = some (.int .i32 1)) (hz : w.frozen? a = false) :
    CallsD Tryd.prog 62 #[.pointer (some a)] u w fun e u' w' => u' = u ∧ (e = .returned (.tuple #[]) ∧ w' = w.setCell a (.int .i32 0)) := by
  have hd := oDisable
  have he := oEnable
  have hr := oReleaseMerge
  have hadd := run_call_add (P := Tryd.prog) Tryd.func81 (by kernel_rfl) (by kernel_rfl) (by kernel_rfl) .i32 (by kernel_rfl) (y := -1) (s := 0) hc hz (by simp [go_sem]; rfl)
  have hcv := run_convert_to_unsafe (P := Tryd.prog) (src := 118) (dst := 122) Tryd.underlying118 Tryd.underlying122 (by kernel_rfl) hc
  go_enter_d Tryd.func62, Tryd.ntmps62
  go_wp2
  go_end0
  go_wp2
  go_end0
  exact ⟨rfl, rfl⟩

set_option maxRecDepth 100000 in
set_option maxHeartbeats 1600000 in
theorem oLock (a : Addr) (w : World) (hc : w.cell? a = some (.int .i32 0)) (hz : w.frozen? a = false) :
    Calls Tryd.prog 61 #[.pointer (some a)] w fun e w' => e = .returned (.tuple #[]) ∧ w' = w.setCell a (.int .i32 1) := by
  have hd := oDisable
  have he := oEnable
  have ha := oAcquire
  have hcas := run_call_cas_hit (P := Tryd.prog) Tryd.func76 (by kernel_rfl) (by kernel_rfl) (by kernel_rfl) .i32 (by kernel_rfl) (y := 1) hc hz
  have hc' : (w.setCell a (.int .i32 1)).cell? a = some (.int .i32 1) := World.cell?_setCell_same w a _ hc
  have hcv := run_convert_to_unsafe (P := Tryd.prog) (src := 118) (dst := 122) Tryd.underlying118 Tryd.underlying122 (by kernel_rfl) hc'
  go_enter Tryd.func61, Tryd.ntmps61
  go_wp2
  first | go_end0 | (simp only [Exit.inBlock, Exit.then]; refine bodyPost_ret (results_none rfl _ _ _) rfl ?_) | refine bodyPost_ret (results_none rfl _ _ _) rfl ?_
  go_wp2
  go_end0
  exact ⟨rfl, rfl⟩
end Go.J

set_option linter.unusedSimpArgs false
set_option linter.unusedVariables false
set_option linter.unusedSectionVars false
namespace Go.J
open Go.Proofs

def onceDone (p : List Stp) : List Stp := appPath (appPath p (.f 1 0)) (.f 1 0)
def onceState (p : List Stp) : List Stp := appPath (appPath (appPath p (.f 2 1)) (.f 1 0)) (.f 0 0)
theorem poff_appPath : ∀ (p : List Stp) (s : Stp), poff (appPath p s) = poff p + poff [s]
  | [], s => by simp [appPath, poff]
  | .f i o :: p, s => by simp only [appPath, poff]; rw [poff_appPath p s]; omega
  | .x i sz :: p, s => by simp only [appPath, poff]; rw [poff_appPath p s]; omega
theorem done_off (p : List Stp) : poff (onceDone p) = poff p := by unfold onceDone; rw [poff_appPath, poff_appPath]; rfl
theorem state_off (p : List Stp) : poff (onceState p) = poff p + 1 := by unfold onceState; rw [poff_appPath, poff_appPath, poff_appPath]; rfl
/-- (*sync.Once).doSlow: not yet done, the lock free, a function that captures one variable. -/
noncomputable def gSlow (F : Nat) (g : List T → Hp → Nat → (T → Hp → Nat → Prop) → Prop) (args : List T) (hp : Hp) (nx : Nat) (k : T → Hp → Nat → Prop) : Prop :=
  match args with
  | [.v (.ptr r p), .v (.fn f [q])] => match Nat.beq f F with
    | true => lookK hp r fun
      | .own t => tgetK (onceDone p) t fun
        | .v (.int .u32 d) => d = 0 ∧ tgetK (onceState p) t fun
          | .v (.int .i32 s) => s = 0 ∧ tsetK (onceState p) t (.v (.int .i32 1)) hp fun t1 => updK hp r (.own t1) fun hp1 => g [.v (.ptr q [])] hp1 nx fun _ hp2 nx2 => lookK hp2 r fun
            | .own t2 => tgetK (onceDone p) t2 fun
              | .v (.int .u32 _) => tsetK (onceDone p) t2 (.v (.int .u32 1)) hp2 fun t3 => updK hp2 r (.own t3) fun hp3 => lookK hp3 r fun
                | .own t5 => tgetK (onceState p) t5 fun
                  | .v (.int .i32 s') => s' = 1 ∧ tsetK (onceState p) t5 (.v (.int .i32 0)) hp3 fun t4 => updK hp3 r (.own t4) fun hp4 => k (.tup .nil) hp4 nx2
                  | _ => False
                | _ => False
              | _ => False
            | _ => False
          | _ => False
        | _ => False
      | _ => False
    | false => False
  | _ => False

set_option maxRecDepth 100000 in
set_option maxHeartbeats 3200000 in
theorem slow_ok {g : List T → Hp → Nat → (T → Hp → Nat → Prop) → Prop} (hF : CallOk Tryd.prog 48 g) : CallOk Tryd.prog 54 (gSlow 48 g) := by
  intro w0 F0 G hp nx args vs k hm hv h
  unfold gSlow at h
  split at h
  · next r p f q =>
    split at h
    · next hb0 =>
      obtain rfl := nat_beq_eq hb0
      obtain ⟨c, hc, h1⟩ := lookK_out h
      clear h hb0
      split at h1
      · next t =>
        match vs, hv with
        | [], hv => have := hv.1; simp at this
        | [_], hv => have := hv.1; simp at this
        | v1 :: v2 :: vs, hv =>
        obtain ⟨⟨b, hr, hbn, hv1⟩, hv'⟩ := frOk_cons.1 hv
        obtain ⟨⟨ps, hv2, hps⟩, hv''⟩ := frOk_cons.1 hv'
        have hvs : vs = [] := by have := hv''.1; simp at this; exact List.eq_nil_of_length_eq_zero this.symm
        subst hv1 hv2 hvs
        clear hv hv' hv''
        obtain ⟨x, h2, hx⟩ := ptr_at hm hc hr hbn h1
        clear h1
        split at h2
        · next d =>
          obtain ⟨rfl, h3⟩ := h2
          obtain ⟨u, hu, hvu⟩ := hx _ rfl
          obtain rfl : u = .int .u32 0 := hvu
          obtain ⟨x2, h4, hx2⟩ := ptr_at hm hc hr hbn h3
          split at h4
          · next s =>
            obtain ⟨rfl, h5⟩ := h4
            obtain ⟨u2, hu2, hvu2⟩ := hx2 _ rfl
            obtain rfl : u2 = .int .i32 0 := hvu2
            obtain ⟨hp1, h6, he1, hm1, hz1⟩ := ptr_set hm hc hr hbn (y := .int .i32 1) (u := .int .i32 1) rfl rfl h5
            rw [done_off] at hu
            rw [state_off] at hu2 hz1 he1 hm1
            obtain ⟨p1, ps', rfl, hq, rfl⟩ := hps
            have hcl := hF w0 F0 _ hp1 nx [.v (.ptr q [])] [p1] _ hm1 (frOk_cons.2 ⟨he1.vOk (x := .ptr q []) hq, ⟨rfl, fun i t h => by simp at h⟩⟩) h6
            have hl := run_call_load (P := Tryd.prog) Tryd.func60 (by kernel_rfl) (by kernel_rfl) (by kernel_rfl) .u32 (by kernel_rfl) (w := G.w.setCell ⟨b.blk, poff p + 1, none⟩ (.int .i32 1)) (a := ⟨b.blk, poff p, none⟩) (x := 0) ((World.cell?_setCell_other _ ⟨b.blk, poff p + 1, none⟩ ⟨b.blk, poff p, none⟩ _ (by simp)).trans hu)
            have hnot : ∀ (x : Bool) (w : World), (Op.unary .not (.bool x)).run Tryd.prog w = .ok (.bool (!x)) w := fun _ _ => rfl
            clear h5 h6 hx hx2 h3 hF
            go_enter_defers Tryd.func54, Tryd.ntmps54
            go_wp2_with (first | (go_at_call 53; go_in) | (go_at_call 61; refine (oLock ⟨b.blk, poff p + 1, none⟩ _ hu2 hz1).mono ?_; rintro e w' ⟨rfl, rfl⟩) | (go_at_call 48; refine hcl.mono ?_; rintro e w' ⟨G2, x5, v5, hp2, nx2, rfl, rfl, he2, hm2, hv5, h7⟩))
            have hr2 : G2.rho r = some b := he2.rho r b hr
            obtain ⟨c2, hc2, h8⟩ := lookK_out h7
            clear h7
            split at h8
            · next t2 =>
              obtain ⟨x6, h9, hx6⟩ := ptr_at hm2 hc2 hr2 hbn h8
              split at h9
              · next n =>
                obtain ⟨u3, hu3, hvu3⟩ := hx6 _ rfl
                obtain rfl : u3 = .int .u32 n := hvu3
                obtain ⟨hed, hmd⟩ := hm2.drew
                obtain ⟨hp3, h10, he3, hm3, hz3⟩ := ptr_set hmd hc2 hr2 hbn (y := .int .u32 1) (u := .int .u32 1) rfl rfl h9
                rw [done_off] at hu3 hz3 he3 hm3
                obtain ⟨c4, hc4, h11⟩ := lookK_out h10
                split at h11
                · next t5 =>
                  obtain ⟨x7, h12, hx7⟩ := ptr_at hm3 hc4 hr2 hbn h11
                  split at h12
                  · next s' =>
                    obtain ⟨rfl, h13⟩ := h12
                    obtain ⟨u4, hu4, hvu4⟩ := hx7 _ rfl
                    obtain rfl : u4 = .int .i32 1 := hvu4
                    obtain ⟨hp4, h14, he4, hm4, hz4⟩ := ptr_set hm3 hc4 hr2 hbn (y := .int .i32 0) (u := .int .i32 0) rfl rfl h13
                    rw [state_off] at hu4 hz4 he4 hm4
                    have hz3' : G2.w.frozen? ⟨b.blk, poff p, none⟩ = false := hz3
                    clear h8 h9 h10 h11 h13 hx6 hx7
                    refine leaves_cons (f := 63) (args := #[.pointer (some ⟨b.blk, poff p, none⟩), .bool true]) (by simp) (by simp [go_sem]) ?_
                    refine (oStore ⟨b.blk, poff p, none⟩ (.int .u32 n) .returning _ hu3 hz3').mono ?_
                    rintro e u' w'' ⟨rfl, rfl, rfl⟩
                    refine leaves_cons (f := 62) (args := #[.pointer (some ⟨b.blk, poff p + 1, none⟩)]) (by simp [settle]) (by simp [go_sem]) ?_
                    refine (oUnlock ⟨b.blk, poff p + 1, none⟩ _ _ hu4 hz4).mono ?_
                    rintro e u' w'' ⟨rfl, rfl, rfl⟩
                    simp [Leaves, settle, results, Tryd.results54]
                    exact ⟨_, rfl, he1.trans (he2.trans (hed.trans (he3.trans he4))), .tup .nil, hp4, nx2, hm4, ⟨[], rfl, rfl⟩, h14⟩
                  · exact h12.elim
                · exact h11.elim
              · exact h9.elim
            · exact h8.elim
          · exact h4.elim
        · exact h2.elim
      · exact h1.elim
    · exact h.elim
  · exact h.elim
theorem slow_may {g : List T → Hp → Nat → (T → Hp → Nat → Prop) → Prop} (hF : May Tryd.prog (48, g)) : May Tryd.prog (54, gSlow 48 g) :=
  ⟨⟨Tryd.f54, Tryd.func54, by kernel_rfl, by kernel_rfl⟩, slow_ok hF.2⟩
end Go.J

set_option linter.unusedSimpArgs false
set_option linter.unusedVariables false
set_option linter.unusedSectionVars false
namespace Go.J
open Go.Proofs

/-- (*sync.Once).Do of a function that captures one variable. -/
noncomputable def gDo (F : Nat) (g : List T → Hp → Nat → (T → Hp → Nat → Prop) → Prop) (args : List T) (hp : Hp) (nx : Nat) (k : T → Hp → Nat → Prop) : Prop :=
  match args with
  | [.v (.ptr r p), .v (.fn f cs)] => lookK hp r fun
    | .own t => tgetK (onceDone p) t fun
      | .v (.int .u32 d) => (d = 0 → gSlow F g [.v (.ptr r p), .v (.fn f cs)] hp nx k) ∧ (d ≠ 0 → k (.tup .nil) hp nx)
      | _ => False
    | _ => False
  | _ => False

theorem gSlow_k {F : Nat} {g : List T → Hp → Nat → (T → Hp → Nat → Prop) → Prop} {args : List T} {hp : Hp} {nx : Nat} {k : T → Hp → Nat → Prop} (h : gSlow F g args hp nx k) : gSlow F g args hp nx (fun _ hp nx => k (.tup .nil) hp nx) := by
  unfold gSlow at h ⊢
  exact h
set_option maxRecDepth 100000 in
set_option maxHeartbeats 3200000 in
theorem do_ok {g : List T → Hp → Nat → (T → Hp → Nat → Prop) → Prop} (hF : CallOk Tryd.prog 48 g) : CallOk Tryd.prog 47 (gDo 48 g) := by
  intro w0 F0 G hp nx args vs k hm hv h
  unfold gDo at h
  split at h
  · next r p f cs =>
    obtain ⟨c, hc, h1⟩ := lookK_out h
    clear h
    split at h1
    · next t =>
      match vs, hv with
      | [], hv => have := hv.1; simp at this
      | [_], hv => have := hv.1; simp at this
      | v1 :: v2 :: vs, hv =>
      have hv0 := hv
      obtain ⟨⟨b, hr, hbn, hv1⟩, hv'⟩ := frOk_cons.1 hv
      obtain ⟨hv2, hv''⟩ := frOk_cons.1 hv'
      have hvs : vs = [] := by have := hv''.1; simp at this; exact List.eq_nil_of_length_eq_zero this.symm
      subst hv1 hvs
      obtain ⟨x, h2, hx⟩ := ptr_at hm hc hr hbn h1
      clear h1
      split at h2
      · next d =>
        obtain ⟨h3, h4⟩ := h2
        obtain ⟨u, hu, hvu⟩ := hx _ rfl
        obtain rfl : u = .int .u32 d := hvu
        rw [done_off] at hu
        have hl := run_call_load (P := Tryd.prog) Tryd.func60 (by kernel_rfl) (by kernel_rfl) (by kernel_rfl) .u32 (by kernel_rfl) hu
        have hnot : ∀ (x : Bool) (w : World), (Op.unary .not (.bool x)).run Tryd.prog w = .ok (.bool (!x)) w := fun _ _ => rfl
        by_cases hd : d = 0
        · subst hd
          have hsl := slow_ok hF w0 F0 G hp nx _ _ _ hm hv0 (gSlow_k (h3 rfl))
          clear h3 h4 hx hv hv' hv'' hF hv0
          go_enter Tryd.func47, Tryd.ntmps47
          go_wp2_with (first | (go_at_call 53; go_in) | (go_at_call 54; refine hsl.mono ?_; rintro e w' ⟨G2, x5, v5, hp2, nx2, rfl, rfl, he2, hm2, hv5, h7⟩))
          go_end0
          exact ⟨G2, .tup .nil, _, hp2, nx2, rfl, rfl, he2, hm2, ⟨[], rfl, rfl⟩, h7⟩
        · have hk := h4 hd
          have hd' : (d != 0) = true := by simp [hd]
          clear h3 h4 hx hv hv' hv'' hF hv0
          go_enter Tryd.func47, Tryd.ntmps47
          go_wp2
          go_end0
          exact ⟨G, .tup .nil, _, hp, nx, rfl, rfl, Ext.refl G, hm, ⟨[], rfl, rfl⟩, hk⟩
      · exact h2.elim
    · exact h1.elim
  · exact h.elim
theorem do_may {g : List T → Hp → Nat → (T → Hp → Nat → Prop) → Prop} (hF : May Tryd.prog (48, g)) : May Tryd.prog (47, gDo 48 g) :=
  ⟨⟨Tryd.f47, Tryd.func47, by kernel_rfl, by kernel_rfl⟩, do_ok hF.2⟩
end Go.J

set_option linter.unusedSimpArgs false
set_option linter.unusedVariables false
set_option linter.unusedSectionVars false
namespace Go.J
open Go.Proofs

@[reducible] noncomputable def ready1_c := inl ⟨tys, [(49, words_s.call)]⟩ ⟨[(0, (.take 0 false (.last 1 false [0] (tks 2 2 (.last 4 false [] .done)))))], [], []⟩ Tryd.f48 Tryd.f48.body.get!
theorem ready1_m : May Tryd.prog (48, ready1_c) :=
  may_inl tysOk mixOk ⟨.inl words_m, trivial⟩ (by kernel_rfl) (by kernel_rfl) (by kernel_rfl) (by kernel_rfl)
@[reducible] noncomputable def odo_c := gDo 48 ready1_c
theorem odo_m : May Tryd.prog (47, odo_c) := do_may ready1_m
@[reducible] noncomputable def ready_c := inl ⟨tys, [(47, odo_c)]⟩ ⟨[], [], []⟩ Tryd.f43 Tryd.f43.body.get!
theorem ready_m : May Tryd.prog (43, ready_c) :=
  may_inl tysOk mixOk ⟨.inl odo_m, trivial⟩ (by kernel_rfl) (by kernel_rfl) (by kernel_rfl) (by kernel_rfl)
@[reducible] noncomputable def shaNew_c := inl ⟨tys, [(42, first_s.call)]⟩ ⟨[], [], []⟩ Tryd.f31 Tryd.f31.body.get!
theorem shaNew_m : May Tryd.prog (31, shaNew_c) :=
  may_inl tysOk mixOk ⟨.inl first_m, trivial⟩ (by kernel_rfl) (by kernel_rfl) (by kernel_rfl) (by kernel_rfl)
@[reducible] def onceE : El := .cons .nil (.cons (.cons .nil (.cons u32E .nil)) (.cons (.cons .nil (.cons (.cons (.int .i32) (.cons u32E .nil)) .nil)) .nil))
def onceT (done : Int) : onceE.ty := ((), ((), done, ()), ((), (0, 0, ()), ()), ())
/-- A hash: its bytes are not written. -/
@[reducible] def hashSh : Sh := .cons (.el onceE) (.cons (.el a64) (.cons (.el a8) (.cons (.el (.rd .u8)) (.cons (.el iE) .nil))))
/-- A hash whose bytes are its own. -/
@[reducible] def hashO (q : Nat) : Sh := .cons (.el onceE) (.cons (.el a64) (.cons (.el a8) (.cons (.own q) (.cons (.el iE) .nil))))
/-- Blocks are mixed into a state, as long as there are. -/
def absorb (s : List Int) (xs : List UInt8) : List Int × List UInt8 :=
  if 64 ≤ xs.length then absorb (mixW s kW (xs.take 64)) (xs.drop 64) else (s, xs)
termination_by xs.length
decreasing_by rw [List.length_drop]; omega
theorem absorb_step {s : List Int} {xs : List UInt8} (h : 64 ≤ xs.length) : absorb s xs = absorb (mixW s kW (xs.take 64)) (xs.drop 64) := by
  rw [absorb, if_pos h]
theorem absorb_done {s : List Int} {xs : List UInt8} (h : xs.length < 64) : absorb s xs = (s, xs) := by
  rw [absorb, if_neg (by omega)]

@[reducible] def hwrite_s : Spec where
  n := 2
  cs := [(0, .own (hashO 1)), (1, .row 5 .u8)]
  ar := [.ref 0, .lend .u8]
  pre := fun ((_, (_, done, _), (_, (st, _, _), _), _), k, s, n, ys, xs, _) => (done = 0 ∧ st = 0 ∧ k.length = 64 ∨ done = 1 ∧ k = kW) ∧ s.length = 8 ∧ ys.length ≤ 1000000000 ∧ xs.length ≤ 1000000000 ∧ 0 ≤ n ∧ n ≤ 1000000000000
  n' := 3
  cs' := [(0, .own (hashO 2)), (2, .row 5 .u8)]
  rs := []
  post := .fn fun ((_, (_, done, _), (_, (st, sema, _), _), _), k, s, n, ys, xs, _) => (((), ((), 1, ()), ((), (st, sema, ()), ()), ()), kW, (absorb s (ys ++ xs)).1, n + xs.length, (absorb s (ys ++ xs)).2, ())
@[reducible] def hwrite_a : Ann where
  nx := 2
  cs := [(0, .own hashSh)]
  ss := [(0, .ref 0)]
  inv := fun (o0, k0, s0, xs0, n0, _) (o, k, s, xs, n, _) => o = o0 ∧ k = k0 ∧ n = n0 ∧ s.length = 8 ∧ absorb s xs = absorb s0 xs0 ∧ xs.length ≤ xs0.length
  mu := fun (_, _, _, xs, _, _) => xs.length
theorem cut64 (xs : List UInt8) : List.take ((64 : Int) - 0).toNat (List.drop (Int.toNat 0) xs) = xs.take 64 := rfl
theorem rest64 (xs : List UInt8) : List.take ((xs.length : Int) - 64).toNat (List.drop (Int.toNat 64) xs) = xs.drop 64 := by
  rw [show Int.toNat 64 = 64 from rfl, List.take_of_length_le]
  rw [List.length_drop]
  omega
@[reducible] def hwrite_h : Hints := ⟨[(4, (tks 0 13 (.last 13 false [] (tks 14 2 (.last 16 false [] .done)))))], [(3, hwrite_a)], []⟩
@[reducible] noncomputable def hwrite_e : Env := ⟨tys, [(43, ready_c), (44, mixed_s.call)]⟩
set_option maxHeartbeats 1000000 in
set_option maxRecDepth 100000 in
theorem hwrite_d : denF hwrite_e hwrite_s hwrite_h Tryd.f32 := by
  intro done st sema k s n ys xs
  intro hpre
  dsimp only [hwrite_s] at hpre
  obtain ⟨hd, hs, hy, hx, hn0, hn1⟩ := hpre
  rcases hd with ⟨rfl, rfl, hk⟩ | ⟨rfl, rfl⟩
  all_goals repeat' (first | (conv => whnf); first | done | exact True.intro | refine And.intro ?_ ?_ | refine Is.mk ?_ | (intro h; cases h; done) | (intro _))
  all_goals try dsimp only [maxLen, El.ty, El.dflt, hwrite_a, hwrite_s] at *
  all_goals repeat (with_reducible cases ‹_ ∧ _›)
  all_goals try subst_vars
  all_goals try simp only [cut64, rest64, IntKind.wrap_i64, decide_eq_true_eq, decide_eq_false_iff_not, List.length_append, List.length_drop, List.length_take] at *
  all_goals try first
    | omega
    | (with_reducible rfl)
    | (rw [mixW_len (by assumption)]; done)
    | (rw [← absorb_step (by omega)]; assumption)
  all_goals first
    | exact (rfl : kW.length = 64)
    | (rename absorb _ _ = _ => h; rw [← h, absorb_done (by omega)])
set_option maxRecDepth 100000 in
theorem hwrite_p : (FnIs Tryd.prog 32 ∧ FnOk Tryd.prog 32 hwrite_s) ∧ (idsOk hwrite_s.cs && idsOk hwrite_s.cs' && Nat.ble hwrite_s.n hwrite_s.n') = true :=
  fn_of (l := [(43, ready_c), (44, mixed_s.call)]) (hi := hwrite_h) (S := hwrite_s) (fn := Tryd.f32) (c := Tryd.f32.body.get!) tysOk mixOk ⟨.inl ready_m, .inl mixed_m, trivial⟩ (by kernel_rfl) (by kernel_rfl) (by kernel_rfl) (by kernel_rfl) (by kernel_rfl) hwrite_d
theorem hwrite_m : May Tryd.prog (32, hwrite_s.call) := may_call hwrite_p
theorem hwrite_n : May Tryd.prog (32, hwrite_s.callN) := may_callN hwrite_p
end Go.J

set_option linter.unusedSimpArgs false
set_option linter.unusedVariables false
set_option linter.unusedSectionVars false
namespace Go.J
open Go.Proofs

def padW (xs : List UInt8) : List UInt8 := xs ++ List.replicate ((120 - xs.length % 64) % 64) 0
def byteO (x : Int) (n : Nat) : UInt8 := UInt8.ofNat (IntKind.u8.wrap (x.fdiv (2 ^ min n IntKind.u32.bits))).toNat
def outW (s : List Int) (o : List UInt8) (i : Nat) : List UInt8 :=
  (((o.set (4 * i) (byteO (s.getD i 0) 24)).set (4 * i + 1) (byteO (s.getD i 0) 16)).set (4 * i + 2) (byteO (s.getD i 0) 8)).set (4 * i + 3) (UInt8.ofNat (IntKind.u8.wrap (s.getD i 0)).toNat)
def outs (s : List Int) (n : Nat) : List UInt8 := (List.range n).foldl (outW s) (List.replicate 32 0)
theorem outs_succ (s : List Int) (n : Nat) : outs s (n + 1) = outW s (outs s n) n := by
  unfold outs
  rw [List.range_succ, List.foldl_append, List.foldl_cons, List.foldl_nil]
theorem outs_len (s : List Int) : ∀ n, (outs s n).length = 32
  | 0 => by simp [outs]
  | n + 1 => by rw [outs_succ, outW, List.length_set, List.length_set, List.length_set, List.length_set]; exact outs_len s n
/-- The digest of a state, the bytes that are left, how many there were. -/
def sumF (s : List Int) (ys : List UInt8) (n : Int) : List UInt8 := outs (absorb s (padW (ys ++ [128]) ++ be 8 (n % 18446744073709551616 * 8 % 18446744073709551616))).1 8
theorem sumF_len (s : List Int) (ys : List UInt8) (n : Int) : (sumF s ys n).length = 32 := outs_len _ _

theorem tm64 (n : Nat) : (n : Int).tmod 64 = ((n % 64 : Nat) : Int) := by
  rw [Int.tmod_eq_emod_of_nonneg (Int.natCast_nonneg n)]
  omega
theorem padW_step {xs : List UInt8} (h : ¬ xs.length % 64 = 56) : padW (xs ++ [UInt8.ofNat (Int.toNat 0)]) = padW xs := by
  unfold padW
  rw [List.length_append, List.length_singleton, List.append_assoc]
  congr 1
  have e : (120 - xs.length % 64) % 64 = (120 - (xs.length + 1) % 64) % 64 + 1 := by omega
  rw [e, List.replicate_succ]
  rfl
theorem padW_done {xs : List UInt8} (h : xs.length % 64 = 56) : padW xs = xs := by
  unfold padW
  rw [h]
  simp
theorem pow_8 : ∀ i : Fin 8, (2 : Int) ^ min (IntKind.u64.wrap (8 * (i.1 : Int))).toNat IntKind.u64.bits = 256 ^ i.1 := by decide
theorem byte_at {b i : Int} (h0 : 0 ≤ i) (h1 : i ≤ 7) : UInt8.ofNat (IntKind.u8.wrap (b.fdiv (2 ^ min (IntKind.u64.wrap (8 * i)).toNat IntKind.u64.bits))).toNat = UInt8.ofNat (b / 256 ^ i.toNat % 256).toNat := by
  have h := pow_8 ⟨i.toNat, by omega⟩
  simp only [show ((i.toNat : Nat) : Int) = i by omega] at h
  rw [h, IntKind.wrap_u8, Int.fdiv_eq_ediv_of_nonneg _ (Int.le_of_lt (Int.pow_pos (by decide)))]
theorem byte_in (x : Int) : 0 ≤ IntKind.u8.wrap x ∧ IntKind.u8.wrap x < 256 := by rw [IntKind.wrap_u8]; omega
@[reducible] def hsum_s : Spec where
  n := 2
  cs := [(0, .own (hashO 1)), (1, .row 5 .u8)]
  ar := [.ref 0]
  pre := fun ((_, (_, done, _), _, _), k, s, n, ys, _) => done = 1 ∧ k = kW ∧ s.length = 8 ∧ ys.length ≤ 1000000000 ∧ 0 ≤ n ∧ n ≤ 1000000000000
  n' := 2
  cs' := [(0, .own (hashO 1)), (1, .row 5 .u8)]
  rs := [.el (.ar 32 .u8)]
  post := .fn fun (o, k, s, n, ys, _) => (o, k, s, n, ys, sumF s ys n, ())
@[reducible] def hsumA : Ann where
  nx := 4
  cs := [(0, .own (hashO 1)), (1, .row 5 .u8), (2, .own (.el (.ar 32 .u8))), (3, .row 5 .u8)]
  ss := [(0, .ref 0), (2, .ref 2), (3, .own 3)]
  inv := fun (o0, k0, s0, n0, ys0, r0, xs0, _) (o, k, s, n, ys, r, xs, _) => o = o0 ∧ k = k0 ∧ s = s0 ∧ n = n0 ∧ ys = ys0 ∧ padW xs = padW xs0 ∧ xs.length + (120 - xs.length % 64) % 64 = xs0.length + (120 - xs0.length % 64) % 64
  mu := fun (_, _, _, _, _, _, xs, _) => (120 - xs.length % 64) % 64
@[reducible] def hsumB : Ann where
  nx := 4
  cs := [(0, .own (hashO 1)), (1, .row 5 .u8), (2, .own (.el (.ar 32 .u8))), (3, .row 5 .u8)]
  ss := [(0, .ref 0), (2, .ref 2), (3, .own 3), (4, .el (.int .u64)), (5, .el iE)]
  inv := fun (o0, k0, s0, n0, ys0, r0, xs0, b0, i0, _) (o, k, s, n, ys, r, xs, b, i, _) => o = o0 ∧ k = k0 ∧ s = s0 ∧ n = n0 ∧ ys = ys0 ∧ b = b0 ∧ -1 ≤ i ∧ i ≤ i0 ∧ xs ++ be (i + 1).toNat b = xs0 ++ be (i0 + 1).toNat b0
  mu := fun (_, _, _, _, _, _, _, _, i, _) => (i + 1).toNat
@[reducible] def hsumC : Ann where
  nx := 5
  cs := [(0, .own (hashO 1)), (1, .row 5 .u8), (2, .own (.el (.ar 32 .u8))), (4, .own (.el a8))]
  ss := [(0, .ref 0), (2, .ref 2), (3, .el (.rd .u8)), (6, .ref 4)]
  inv := fun (o0, k0, s0, n0, ys0, r0, t0, xs0, _) (o, k, s, n, ys, r, t, xs, _) => o = o0 ∧ k = k0 ∧ s = s0 ∧ n = n0 ∧ ys = ys0 ∧ t.length = 8 ∧ xs.length % 64 = 0 ∧ absorb t xs = absorb t0 xs0
  mu := fun (_, _, _, _, _, _, _, xs, _) => xs.length
@[reducible] def hsumD : Ann where
  nx := 6
  cs := [(0, .own (hashO 1)), (1, .row 5 .u8), (2, .own (.el (.ar 32 .u8))), (5, .own (.el (.ar 32 .u8)))]
  ss := [(2, .ref 2), (7, .ref 5), (62, .el a8), (63, .el iE)]
  inv := fun (o0, k0, s0, n0, ys0, r0, u0, t0, _, _) (o, k, s, n, ys, r, u, t, i, _) => o = o0 ∧ k = k0 ∧ s = s0 ∧ n = n0 ∧ ys = ys0 ∧ t = t0 ∧ 0 ≤ i ∧ i ≤ 8 ∧ u = outs t0 i.toNat
  mu := fun (_, _, _, _, _, _, _, _, i, _) => (8 - i).toNat
@[reducible] def hsum_h : Hints := ⟨[(14, (tks 0 6 (.last 6 false [] (.last 7 false [] .done))))], [(4, hsumA), (8, hsumB), (12, hsumC), (17, hsumD)], []⟩
@[reducible] noncomputable def hsum_e : Env := ⟨tys, [(43, ready_c), (44, mixed_s.call)]⟩
set_option maxHeartbeats 1000000 in
set_option maxRecDepth 100000 in
theorem hsum_d : denF hsum_e hsum_s hsum_h Tryd.f33 := by
  intro done st sema k s n ys
  intro hpre
  dsimp only [hsum_s] at hpre
  obtain ⟨rfl, rfl, hs, hy, hn0, hn1⟩ := hpre
  all_goals repeat' (first | (conv => whnf); first | done | exact True.intro | refine And.intro ?_ ?_ | refine Is.mk ?_ | (intro h; cases h; done) | (intro _))
  all_goals try dsimp only [maxLen, El.ty, El.dflt, hsumA, hsumB, hsumC, hsumD, hsum_s] at *
  all_goals repeat (with_reducible cases ‹_ ∧ _›)
  all_goals try subst_vars
  all_goals try simp only [cut64, rest64, tm64, IntKind.wrap_i64, Bool.not_eq_true', Bool.not_eq_false', decide_eq_true_eq, decide_eq_false_iff_not, List.length_append, List.length_drop, List.length_take, List.length_cons, List.length_nil] at *
  all_goals try first
    | omega
    | (with_reducible rfl)
    | exact (byte_in _).1
    | exact (byte_in _).2
    | exact (rfl : kW.length = 64)
    | (simp only [List.length_set, outs_len]; omega)
    | (rw [mixW_len (by assumption)]; done)
    | (rw [← absorb_step (by omega)]; assumption)
    | (rw [IntKind.wrap_u64]; omega)
    | (rw [padW_step (by omega)]; assumption)
  all_goals try (rename _ ++ be _ _ = _ => h; have hl := congrArg List.length h; simp only [List.length_append, be_length] at hl; omega)
  · rename Int => i
    rename _ ++ be _ _ = _ => h
    rw [show ((i - 1 + 9223372036854775808) % 18446744073709551616 - 9223372036854775808 + 1).toNat = i.toNat by omega, show (8 * i + 9223372036854775808) % 18446744073709551616 - 9223372036854775808 = 8 * i by omega, byte_at (by omega) (by omega), List.append_assoc, ← h, show (i + 1).toNat = i.toNat + 1 by omega]
    rfl
  · rfl
  · rename Int => i
    rw [show ((4 * i + 9223372036854775808) % 18446744073709551616 - 9223372036854775808).toNat = 4 * i.toNat by omega,
      show (((4 * i + 9223372036854775808) % 18446744073709551616 - 9223372036854775808 + 1 + 9223372036854775808) % 18446744073709551616 - 9223372036854775808).toNat = 4 * i.toNat + 1 by omega,
      show (((4 * i + 9223372036854775808) % 18446744073709551616 - 9223372036854775808 + 2 + 9223372036854775808) % 18446744073709551616 - 9223372036854775808).toNat = 4 * i.toNat + 2 by omega,
      show (((4 * i + 9223372036854775808) % 18446744073709551616 - 9223372036854775808 + 3 + 9223372036854775808) % 18446744073709551616 - 9223372036854775808).toNat = 4 * i.toNat + 3 by omega,
      show ((i + 1 + 9223372036854775808) % 18446744073709551616 - 9223372036854775808).toNat = i.toNat + 1 by omega, outs_succ]
    rfl
  · refine Eq.trans (by assumption) (Eq.trans (by assumption) (Eq.trans (by assumption) (by assumption)))
  · rename absorb _ _ = absorb _ _ => ha
    rename _ ++ be _ _ = _ ++ _ => hb
    rename padW _ = padW _ => hp
    rename Int => i
    have hz : ∀ j : Int, ¬ 0 ≤ j → -1 ≤ j → (j + 1).toNat = 0 := by omega
    rw [hz _ (by assumption) (by assumption), show ∀ b, be 0 b = [] from fun _ => rfl, List.append_nil] at hb
    rw [absorb_done (by omega), hb] at ha
    rw [padW_done (by omega)] at hp
    rw [hp, IntKind.wrap_u64, IntKind.wrap_u64] at ha
    have ht := congrArg Prod.fst ha
    dsimp only at ht
    rw [ht, show i.toNat = 8 by omega]
    rfl
set_option maxRecDepth 100000 in
theorem hsum_p : (FnIs Tryd.prog 33 ∧ FnOk Tryd.prog 33 hsum_s) ∧ (idsOk hsum_s.cs && idsOk hsum_s.cs' && Nat.ble hsum_s.n hsum_s.n') = true :=
  fn_of (l := [(43, ready_c), (44, mixed_s.call)]) (hi := hsum_h) (S := hsum_s) (fn := Tryd.f33) (c := Tryd.f33.body.get!) tysOk mixOk ⟨.inl ready_m, .inl mixed_m, trivial⟩ (by kernel_rfl) (by kernel_rfl) (by kernel_rfl) (by kernel_rfl) (by kernel_rfl) hsum_d
theorem hsum_m : May Tryd.prog (33, hsum_s.call) := may_call hsum_p
theorem hsum_n : May Tryd.prog (33, hsum_s.callN) := may_callN hsum_p
end Go.J

set_option linter.unusedSimpArgs false
set_option linter.unusedVariables false
set_option linter.unusedSectionVars false
namespace Go.J
open Go.Proofs

def w4 (n : Int) : Bool := decide (0 ≤ n) && decide (n ≤ 1073741824)
def w1 (lo hi n : Int) : Bool := decide (lo ≤ n) && decide (n ≤ hi)
/-- All are nought. -/
def zs : List Int → Bool
  | [] => true
  | n :: l => decide (n = 0) && zs l
def zt (tag : List UInt8) : Bool := decide (tag = List.replicate 32 0)
/-- May a command be? -/
def rightF (k seq tr inst id side ord pr q sh st wh a b : Int) (tag : List UInt8) : Bool :=
  if k = 1 then w1 0 31 tr && (zs [seq, inst, id, side, ord, pr, q, sh, st, wh, a, b] && zt tag)
  else if k = 2 then zs [seq, tr, inst, id, side, ord, pr, q, sh, st, wh, a, b]
  else if k = 3 then w4 seq && (w1 0 7 inst && (w4 id && (w1 0 255 side && (w1 0 255 ord && (w4 pr && (w4 q && (w4 sh && (w4 st && (zs [tr, wh, a, b] && zt tag)))))))))
  else if k = 4 then w4 seq && (w1 0 7 inst && (w4 id && (w1 0 31 tr && (zs [side, ord, pr, q, sh, st, wh, a, b] && zt tag))))
  else if k = 5 then w4 seq && (w1 0 7 inst && (w4 id && (w4 pr && (w4 q && (zs [tr, side, ord, sh, st, wh, a, b] && zt tag)))))
  else if k = 6 then w4 seq && (w1 0 8 inst && (w1 1 3 wh && (zs [tr, id, side, ord, pr, q, sh, st, a, b] && zt tag)))
  else if k = 7 then zs [seq, tr, inst, id, side, ord, pr, q, sh, st, wh, a, b] && zt tag
  else if k = 8 then zs [seq, tr, inst, id, side, ord, pr, q, sh, st, wh, a, b] && zt tag
  else if k = 9 then w4 seq && (w1 1 9 wh && (w1 0 255 a && (w1 0 255 b && (zs [tr, inst, id, side, ord, pr, q, sh, st] && zt tag))))
  else false

@[reducible] def right_s : Spec where
  n := 0
  cs := []
  ar := [.el cmdE]
  pre := fun ((_, _, _, _, _, _, _, _, _, _, _, _, _, _, tag, _), _) => tag.length = 32
  n' := 0
  cs' := []
  rs := [.el .bool]
  post := .fn fun ((k, seq, tr, inst, id, side, ord, pr, q, sh, st, wh, a, b, tag, _), _) => (rightF k seq tr inst id side ord pr q sh st wh a b tag, ())
theorem kinds (k : Int) : k = 1 ∨ k = 2 ∨ k = 3 ∨ k = 4 ∨ k = 5 ∨ k = 6 ∨ k = 7 ∨ k = 8 ∨ k = 9 ∨ (k ≠ 1 ∧ k ≠ 2 ∧ k ≠ 3 ∧ k ≠ 4 ∧ k ≠ 5 ∧ k ≠ 6 ∧ k ≠ 7 ∧ k ≠ 8 ∧ k ≠ 9) := by omega
theorem absd {p : Prop} [Decidable p] (h : ¬ p) (k : decide p = true) : False := h (of_decide_eq_true k)
theorem zt_eq (tag : List UInt8) [i : Decidable (tag = List.replicate 32 El.u8.dflt)] : decide (tag = List.replicate 32 El.u8.dflt) = zt tag := by
  unfold zt
  congr

end Go.J

set_option linter.unusedSimpArgs false
set_option linter.unusedVariables false
set_option linter.unusedSectionVars false
namespace Go.J
open Go.Proofs

@[reducible] def mnum_s : Spec where
  n := 0
  cs := []
  ar := [.lend .u8, .el (.int .i64), .el (.int .i64)]
  pre := fun (xs, n, _) => xs.length ≤ 1000000000000 ∧ -9223372036854775808 ≤ n ∧ n ≤ 9223372036854775807
  n' := 1
  cs' := [(0, .row 5 .u8)]
  rs := [.own 0]
  post := .fn fun (xs, n, size, _) => (xs ++ (if size = 1 then be 1 (n % 18446744073709551616) else be 4 (n % 4294967296)), ())
@[reducible] def mnum_h : Hints := ⟨[], [], []⟩
@[reducible] noncomputable def mnum_e : Env := ⟨tys, [(22, u8_s.call), (39, u32_s.call)]⟩
set_option maxHeartbeats 1000000 in
set_option maxRecDepth 100000 in
theorem mnum_d : denF mnum_e mnum_s mnum_h Tryd.f23 := by
  intro xs n size
  repeat' (first | (conv => whnf); first | refine And.intro ?_ ?_ | refine Is.mk ?_ | (intro h; cases h; done) | (intro _))
  all_goals try dsimp only [maxLen, El.ty] at *
  all_goals try trivial
  all_goals repeat (with_reducible cases ‹_ ∧ _›)
  all_goals try subst_eqs
  all_goals try simp only [IntKind.wrap_i64, IntKind.wrap_u64, IntKind.wrap_u32, IntKind.wrap_u8, decide_eq_true_eq, decide_eq_false_iff_not, Bool.not_eq_true', Bool.not_eq_false', Bool.not_not, Bool.not_true, Bool.not_false, List.length_cons, List.length_nil, Int.toNat_natCast, UInt8.ofNat_toNat] at *
  all_goals try first | omega | (with_reducible rfl) | (with_reducible exact u8lt _)
  all_goals simp only [*, if_true, if_false]
set_option maxRecDepth 100000 in
theorem mnum_p : (FnIs Tryd.prog 23 ∧ FnOk Tryd.prog 23 mnum_s) ∧ (idsOk mnum_s.cs && idsOk mnum_s.cs' && Nat.ble mnum_s.n mnum_s.n') = true :=
  fn_of (l := [(22, u8_s.call), (39, u32_s.call)]) (hi := mnum_h) (S := mnum_s) (fn := Tryd.f23) (c := Tryd.f23.body.get!) tysOk mixOk ⟨.inl u8_m, .inl u32_m, trivial⟩ (by kernel_rfl) (by kernel_rfl) (by kernel_rfl) (by kernel_rfl) (by kernel_rfl) mnum_d
theorem mnum_m : May Tryd.prog (23, mnum_s.call) := may_call mnum_p
theorem mnum_n : May Tryd.prog (23, mnum_s.callN) := may_callN mnum_p

/-- What a command's kind names, as bytes. -/
def restF (k seq tr inst id side ord pr q sh st wh a b : Int) (tag : List UInt8) : List UInt8 :=
  if k = 1 then be 1 tr
  else if k = 2 then tag
  else if k = 3 then be 4 seq ++ be 1 inst ++ be 4 id ++ be 1 side ++ be 1 ord ++ be 4 pr ++ be 4 q ++ be 4 sh ++ be 4 st
  else if k = 4 then be 4 seq ++ be 1 inst ++ be 4 id ++ be 1 tr
  else if k = 5 then be 4 seq ++ be 1 inst ++ be 4 id ++ be 4 pr ++ be 4 q
  else if k = 6 then be 4 seq ++ be 1 inst ++ be 1 wh
  else if k = 9 then be 4 seq ++ be 1 wh ++ be 1 a ++ be 1 b
  else []
def bytesF (k seq tr inst id side ord pr q sh st wh a b : Int) (tag : List UInt8) : List UInt8 := be 1 k ++ restF k seq tr inst id side ord pr q sh st wh a b tag
def putF (k seq tr inst id side ord pr q sh st wh a b : Int) (tag : List UInt8) : List UInt8 :=
  if rightF k seq tr inst id side ord pr q sh st wh a b tag = true then bytesF k seq tr inst id side ord pr q sh st wh a b tag else []

theorem be1_mod (n : Int) : be 1 (n % 18446744073709551616) = be 1 n := by
  simp only [be]
  rw [show n % 18446744073709551616 / 256 ^ 0 % 256 = n / 256 ^ 0 % 256 by omega]
theorem be1_mod4 (n : Int) : be 1 (n % 4294967296) = be 1 n := by
  simp only [be]
  rw [show n % 4294967296 / 256 ^ 0 % 256 = n / 256 ^ 0 % 256 by omega]
theorem be4_mod (n : Int) : be 4 (n % 4294967296) = be 4 n := by
  simp only [be]
  rw [show n % 4294967296 / 256 ^ 0 % 256 = n / 256 ^ 0 % 256 by omega, show n % 4294967296 / 256 ^ 1 % 256 = n / 256 ^ 1 % 256 by omega, show n % 4294967296 / 256 ^ 2 % 256 = n / 256 ^ 2 % 256 by omega, show n % 4294967296 / 256 ^ 3 % 256 = n / 256 ^ 3 % 256 by omega]
theorem take32 {tag : List UInt8} (h : tag.length = 32) : List.take (((32 : Nat) : Int) - 0).toNat (List.drop (Int.toNat 0) tag) = tag := by
  rw [show Int.toNat 0 = 0 from rfl, List.drop_zero, show (((32 : Nat) : Int) - 0).toNat = 32 from rfl, List.take_of_length_le (by omega)]

@[reducible] def cmdFit : cmdE.ty → Prop := fun (k, seq, tr, inst, id, side, ord, pr, q, sh, st, wh, a, b, tag, _) => tag.length = 32 ∧
  (-9223372036854775808 ≤ k ∧ k ≤ 9223372036854775807) ∧ (-9223372036854775808 ≤ seq ∧ seq ≤ 9223372036854775807) ∧ (-9223372036854775808 ≤ tr ∧ tr ≤ 9223372036854775807) ∧ (-9223372036854775808 ≤ inst ∧ inst ≤ 9223372036854775807) ∧
  (-9223372036854775808 ≤ id ∧ id ≤ 9223372036854775807) ∧ (-9223372036854775808 ≤ side ∧ side ≤ 9223372036854775807) ∧ (-9223372036854775808 ≤ ord ∧ ord ≤ 9223372036854775807) ∧ (-9223372036854775808 ≤ pr ∧ pr ≤ 9223372036854775807) ∧
  (-9223372036854775808 ≤ q ∧ q ≤ 9223372036854775807) ∧ (-9223372036854775808 ≤ sh ∧ sh ≤ 9223372036854775807) ∧ (-9223372036854775808 ≤ st ∧ st ≤ 9223372036854775807) ∧ (-9223372036854775808 ≤ wh ∧ wh ≤ 9223372036854775807) ∧
  (-9223372036854775808 ≤ a ∧ a ≤ 9223372036854775807) ∧ (-9223372036854775808 ≤ b ∧ b ≤ 9223372036854775807)

@[reducible] def put_s : Spec where
  n := 0
  cs := []
  ar := [.el cmdE]
  pre := fun (c, _) => cmdFit c
  n' := 1
  cs' := [(0, .row 5 .u8)]
  rs := [.own 0]
  post := .fn fun ((k, seq, tr, inst, id, side, ord, pr, q, sh, st, wh, a, b, tag, _), _) => (putF k seq tr inst id side ord pr q sh st wh a b tag, ())

end Go.J

set_option linter.unusedSimpArgs false
set_option linter.unusedVariables false
set_option linter.unusedSectionVars false
namespace Go.J
open Go.Proofs

theorem absorb_len : ∀ (n : Nat) (s : List Int) (xs : List UInt8), xs.length ≤ n → s.length = 8 → (absorb s xs).1.length = 8 ∧ (absorb s xs).2.length < 64 := by
  intro n
  induction n with
  | zero =>
    intro s xs h hs
    rw [absorb_done (by omega)]
    exact ⟨hs, by show xs.length < 64; omega⟩
  | succ n ih =>
    intro s xs h hs
    by_cases hl : 64 ≤ xs.length
    · rw [absorb_step hl]
      exact ih _ _ (by rw [List.length_drop]; omega) (mixW_len hs)
    · rw [absorb_done (by omega)]
      exact ⟨hs, by show xs.length < 64; omega⟩
theorem first_len : firstW.length = 8 := rfl
theorem sum_len0 (xs : List UInt8) : (absorb firstW ([] ++ xs)).1.length = 8 := (absorb_len _ _ _ (Nat.le_refl _) first_len).1
theorem rest_len0 (xs : List UInt8) : (absorb firstW ([] ++ xs)).2.length ≤ 1000000000 := by
  have := (absorb_len _ firstW ([] ++ xs) (Nat.le_refl _) first_len).2
  omega
/-- The digest of bytes. -/
def shaF (xs : List UInt8) : List UInt8 := sumF (absorb firstW xs).1 (absorb firstW xs).2 xs.length
theorem shaF_len (xs : List UInt8) : (shaF xs).length = 32 := sumF_len _ _ _
@[reducible] def sha_s : Spec where
  n := 0
  cs := []
  ar := [.lend .u8]
  pre := fun (xs, _) => xs.length ≤ 1000000000
  n' := 0
  cs' := []
  rs := [.el (.ar 32 .u8)]
  post := .fn fun (xs, _) => (shaF xs, ())
@[reducible] def sha_h : Hints := ⟨[], [], []⟩
@[reducible] noncomputable def sha_e : Env := ⟨tys, [(31, shaNew_c), (32, hwrite_s.call), (33, hsum_s.call)]⟩
set_option maxHeartbeats 1000000 in
set_option maxRecDepth 100000 in
theorem sha_d : denF sha_e sha_s sha_h Tryd.f18 := by
  intro xs
  intro hpre
  dsimp only [sha_s] at hpre
  repeat' (first | (conv => whnf); first | done | exact True.intro | refine And.intro ?_ ?_ | refine Is.mk ?_ | (intro h; cases h; done) | (intro _))
  all_goals try dsimp only [maxLen, El.ty, El.dflt] at *
  all_goals first
    | omega
    | (with_reducible exact first_len)
    | (with_reducible exact sum_len0 _)
    | (with_reducible exact rest_len0 _)
    | (with_reducible refine Or.inl ⟨rfl, rfl, ?_⟩; simp)
    | (simp only [List.length_nil]; omega)
    | (rw [Int.zero_add, List.nil_append]; rfl)
set_option maxRecDepth 100000 in
theorem sha_p : (FnIs Tryd.prog 18 ∧ FnOk Tryd.prog 18 sha_s) ∧ (idsOk sha_s.cs && idsOk sha_s.cs' && Nat.ble sha_s.n sha_s.n') = true :=
  fn_of (l := [(31, shaNew_c), (32, hwrite_s.call), (33, hsum_s.call)]) (hi := sha_h) (S := sha_s) (fn := Tryd.f18) (c := Tryd.f18.body.get!) tysOk mixOk ⟨.inl shaNew_m, .inl hwrite_m, .inl hsum_m, trivial⟩ (by kernel_rfl) (by kernel_rfl) (by kernel_rfl) (by kernel_rfl) (by kernel_rfl) sha_d
theorem sha_m : May Tryd.prog (18, sha_s.call) := may_call sha_p
theorem sha_n : May Tryd.prog (18, sha_s.callN) := may_callN sha_p

end Go.J

set_option linter.unusedSimpArgs false
set_option linter.unusedVariables false
set_option linter.unusedSectionVars false
namespace Go.J
open Go.Proofs

@[reducible] def stepE : El := .cons (.int .i64) (.cons (.int .i64) (.cons (.int .i64) (.cons (.ar 32 .u8) (.cons (.rd .u8) .nil))))
def nought : List UInt8 := List.replicate 32 0
/-- The step that stands first, and how many bytes it takes. -/
def stepF (a n m : UInt8) (xs : List UInt8) : stepE.ty × Nat :=
  if a.toNat % 4 = 0 then ((1, ((n.toNat % 16 : Nat) : Int), 0, shaF [m], [], ()), 0)
  else if a.toNat % 4 = 1 then ((2, ((n.toNat % 16 : Nat) : Int), 0, nought, xs.take (min (m.toNat % 64) xs.length), ()), min (m.toNat % 64) xs.length)
  else if a.toNat % 4 = 3 then ((4, 0, (n.toNat : Int) + 1, nought, [], ()), 0)
  else ((3, ((n.toNat % 16 : Nat) : Int), 0, nought, [], ()), 0)
def decodeG : Nat → List UInt8 → List stepE.ty
  | 0, _ => []
  | k + 1, xs => if 3 ≤ xs.length then (stepF (xs.getD 0 0) (xs.getD 1 0) (xs.getD 2 0) (xs.drop 3)).1 :: decodeG k ((xs.drop 3).drop (stepF (xs.getD 0 0) (xs.getD 1 0) (xs.getD 2 0) (xs.drop 3)).2) else []
/-- The steps of bytes. -/
def decodeF (xs : List UInt8) : List stepE.ty := decodeG xs.length xs
theorem decodeG_eq : ∀ (k j : Nat) (xs : List UInt8), xs.length ≤ k → xs.length ≤ j → decodeG k xs = decodeG j xs := by
  intro k
  induction k with
  | zero =>
    intro j xs h _
    cases j with
    | zero => rfl
    | succ j => rw [decodeG, decodeG, if_neg (by omega)]
  | succ k ih =>
    intro j xs h1 h2
    cases j with
    | zero => rw [decodeG, decodeG, if_neg (by omega)]
    | succ j =>
      rw [decodeG, decodeG]
      by_cases h : 3 ≤ xs.length
      · rw [if_pos h, if_pos h, ih j _ (by rw [List.length_drop, List.length_drop]; omega) (by rw [List.length_drop, List.length_drop]; omega)]
      · rw [if_neg h, if_neg h]
theorem decode_step {xs : List UInt8} (h : 3 ≤ xs.length) : decodeF xs = (stepF (xs.getD 0 0) (xs.getD 1 0) (xs.getD 2 0) (xs.drop 3)).1 :: decodeF ((xs.drop 3).drop (stepF (xs.getD 0 0) (xs.getD 1 0) (xs.getD 2 0) (xs.drop 3)).2) := by
  unfold decodeF
  obtain ⟨n, hn⟩ : ∃ n, xs.length = n + 1 := ⟨xs.length - 1, by omega⟩
  rw [hn, decodeG, if_pos h]
  congr 1
  exact decodeG_eq _ _ _ (by rw [List.length_drop, List.length_drop]; omega) (Nat.le_refl _)
theorem decode_end {xs : List UInt8} (h : xs.length < 3) : decodeF xs = [] := by
  unfold decodeF
  cases hn : xs.length with
  | zero => rfl
  | succ n => rw [decodeG, if_neg (by omega)]
theorem wu (c : UInt8) : IntKind.i64.wrap ((c.toNat : Nat) : Int) = ((c.toNat : Nat) : Int) := by
  have := UInt8.toNat_lt c
  rw [IntKind.wrap_i64]; omega
theorem tm4 (n : Nat) : ((n : Nat) : Int).tmod 4 = ((n % 4 : Nat) : Int) := by rw [Int.tmod_eq_emod_of_nonneg (Int.natCast_nonneg n)]; omega
theorem tm16 (n : Nat) : ((n : Nat) : Int).tmod 16 = ((n % 16 : Nat) : Int) := by rw [Int.tmod_eq_emod_of_nonneg (Int.natCast_nonneg n)]; omega
theorem tm64' (n : Nat) : ((n : Nat) : Int).tmod 64 = ((n % 64 : Nat) : Int) := by rw [Int.tmod_eq_emod_of_nonneg (Int.natCast_nonneg n)]; omega
theorem w14 (n : Nat) : IntKind.i64.wrap (1 + ((n % 4 : Nat) : Int)) = 1 + ((n % 4 : Nat) : Int) := by rw [IntKind.wrap_i64]; omega
theorem wn1 (c : UInt8) : IntKind.i64.wrap (((c.toNat : Nat) : Int) + 1) = ((c.toNat : Nat) : Int) + 1 := by
  have := UInt8.toNat_lt c
  rw [IntKind.wrap_i64]; omega
theorem dr3 (xs : List UInt8) : List.take ((xs.length : Int) - 3).toNat (List.drop (Int.toNat 3) xs) = xs.drop 3 := by
  rw [show Int.toNat 3 = 3 from rfl, List.take_of_length_le (by rw [List.length_drop]; omega)]
theorem ifmin (a b : Nat) : (if ((b : Nat) : Int) < ((a : Nat) : Int) then ((b : Nat) : Int) else ((a : Nat) : Int)) = ((min a b : Nat) : Int) := by
  split <;> omega
theorem tk0 (k : Nat) (R : List UInt8) : List.take (((k : Nat) : Int) - 0).toNat (List.drop (Int.toNat 0) R) = R.take k := by
  rw [show (((k : Nat) : Int) - 0).toNat = k by omega]; rfl
theorem dk0 (k : Nat) (R : List UInt8) : List.take (((R.length : Nat) : Int) - ((k : Nat) : Int)).toNat (List.drop k R) = R.drop k := by
  rw [List.take_of_length_le (by rw [List.length_drop]; omega)]
theorem dec_any {xs : List UInt8} {out Z : List stepE.ty} {st : stepE.ty} {k : Nat} (hP : out ++ decodeF xs = Z) (h3 : 3 ≤ (xs.length : Int)) (e : stepF (xs.getD 0 0) (xs.getD 1 0) (xs.getD 2 0) (xs.drop 3) = (st, k)) : (out ++ [st]) ++ decodeF ((xs.drop 3).drop k) = Z := by
  rw [← hP, decode_step (xs := xs) (by omega), e, List.append_assoc]
  rfl
theorem sf1 {a n m : UInt8} {R : List UInt8} (h : 1 + ((a.toNat % 4 : Nat) : Int) = 1) : stepF a n m R = ((1 + ((a.toNat % 4 : Nat) : Int), ((n.toNat % 16 : Nat) : Int), 0, shaF [m], [], ()), 0) := by
  unfold stepF
  rw [if_pos (by omega), h]
theorem sf2 {a n m : UInt8} {R : List UInt8} (h : 1 + ((a.toNat % 4 : Nat) : Int) = 2) : stepF a n m R = ((1 + ((a.toNat % 4 : Nat) : Int), ((n.toNat % 16 : Nat) : Int), 0, List.replicate 32 0, R.take (min (m.toNat % 64) R.length), ()), min (m.toNat % 64) R.length) := by
  unfold stepF
  rw [if_neg (by omega), if_pos (by omega), h]
  rfl
theorem sf2' {a n m : UInt8} {xs : List UInt8} (h : 1 + ((a.toNat % 4 : Nat) : Int) = 2) : stepF a n m (xs.drop 3) = ((1 + ((a.toNat % 4 : Nat) : Int), ((n.toNat % 16 : Nat) : Int), 0, List.replicate 32 0, (xs.drop 3).take (min (m.toNat % 64) (xs.length - 3)), ()), min (m.toNat % 64) (xs.length - 3)) := by
  rw [sf2 h, List.length_drop]
theorem sf4 {a n m : UInt8} {R : List UInt8} (h : 1 + ((a.toNat % 4 : Nat) : Int) = 4) : stepF a n m R = ((1 + ((a.toNat % 4 : Nat) : Int), 0, ((n.toNat : Nat) : Int) + 1, List.replicate 32 0, [], ()), 0) := by
  unfold stepF
  rw [if_neg (by omega), if_neg (by omega), if_pos (by omega), h]
  rfl
theorem sf3 {a n m : UInt8} {R : List UInt8} (h1 : ¬ 1 + ((a.toNat % 4 : Nat) : Int) = 1) (h2 : ¬ 1 + ((a.toNat % 4 : Nat) : Int) = 2) (h4 : ¬ 1 + ((a.toNat % 4 : Nat) : Int) = 4) : stepF a n m R = ((1 + ((a.toNat % 4 : Nat) : Int), ((n.toNat % 16 : Nat) : Int), 0, List.replicate 32 0, [], ()), 0) := by
  have h := Nat.mod_lt a.toNat (show 4 > 0 by decide)
  unfold stepF
  rw [if_neg (by omega), if_neg (by omega), if_neg (by omega), show 1 + ((a.toNat % 4 : Nat) : Int) = 3 by omega]
  rfl
attribute [local irreducible] shaF decodeF List.getD stepF
@[reducible] def decode_s : Spec where
  n := 0
  cs := []
  ar := [.el (.rd .u8)]
  pre := fun (xs, _) => xs.length ≤ 100000000
  n' := 1
  cs' := [(0, .row 29 stepE)]
  rs := [.own 0]
  post := .fn fun (xs, _) => (decodeF xs, ())
@[reducible] def decode_a : Ann where
  nx := 1
  cs := [(0, .row 29 stepE)]
  ss := [(0, .el (.rd .u8)), (3, .own 0)]
  inv := fun (out0, xs0, _) (out, xs, _) => xs.length ≤ xs0.length ∧ out.length + xs.length ≤ out0.length + xs0.length ∧ out ++ decodeF xs = out0 ++ decodeF xs0
  mu := fun (_, xs, _) => xs.length
@[reducible] def decode_h : Hints := ⟨[(3, (tks 0 7 (.last 7 false [5, 6] (.last 8 false [] .done)))), (11, (tks 0 3 (tks 4 3 (.last 3 false [6] (.take 7 false (.last 8 false [6] (.last 9 false [] .done)))))))], [(2, decode_a)], []⟩
@[reducible] noncomputable def decode_e : Env := ⟨tys, [(18, sha_s.call), (19, clone_s.call)]⟩
set_option maxHeartbeats 1000000 in
set_option maxRecDepth 100000 in
theorem decode_d : denF decode_e decode_s decode_h Tryd.f8 := by
  intro xs
  intro hpre
  dsimp only [decode_s] at hpre
  repeat' (first | (conv => whnf); first | done | exact True.intro | refine And.intro ?_ ?_ | refine Is.mk ?_ | (intro h; cases h; done) | (intro _))
  all_goals try dsimp only [maxLen, El.ty, El.dflt, decode_a] at *
  all_goals repeat (with_reducible cases ‹_ ∧ _›)
  all_goals try simp only [wu, tm4, tm16, tm64', w14, wn1, dr3, ifmin, tk0, dk0, Int.toNat_natCast, UInt8.ofNat_toNat, List.nil_append, List.length_nil, decide_eq_true_eq, decide_eq_false_iff_not] at *
  all_goals try (with_reducible rfl)
  all_goals try (with_reducible exact u8lt _)
  all_goals try simp only [List.length_append, List.length_cons, List.length_nil, List.length_drop, List.length_take]
  all_goals try omega
  all_goals try exact dec_any (by assumption) (by assumption) (sf1 (by assumption))
  all_goals try exact dec_any (by assumption) (by assumption) (sf2' (by assumption))
  all_goals try exact dec_any (by assumption) (by assumption) (sf4 (by assumption))
  all_goals try exact dec_any (by assumption) (by assumption) (sf3 (by assumption) (by assumption) (by assumption))
  all_goals try (rename _ ++ decodeF _ = _ => hP; rw [← hP, decode_end (by omega), List.append_nil])
set_option maxRecDepth 100000 in
theorem decode_p : (FnIs Tryd.prog 8 ∧ FnOk Tryd.prog 8 decode_s) ∧ (idsOk decode_s.cs && idsOk decode_s.cs' && Nat.ble decode_s.n decode_s.n') = true :=
  fn_of (l := [(18, sha_s.call), (19, clone_s.call)]) (hi := decode_h) (S := decode_s) (fn := Tryd.f8) (c := Tryd.f8.body.get!) tysOk mixOk ⟨.inl sha_m, .inl clone_m, trivial⟩ (by kernel_rfl) (by kernel_rfl) (by kernel_rfl) (by kernel_rfl) (by kernel_rfl) decode_d
theorem decode_m : May Tryd.prog (8, decode_s.call) := may_call decode_p
theorem decode_n : May Tryd.prog (8, decode_s.callN) := may_callN decode_p
end Go.J

set_option linter.unusedSimpArgs false
set_option linter.unusedVariables false
set_option linter.unusedSectionVars false
namespace Go.J
open Go.Proofs

noncomputable def stepsF (xs ys : List stepE.ty) : Bool := @decide (xs = ys) (Classical.propDecidable _)
theorem steps_iff {xs ys : List stepE.ty} : stepsF xs ys = true ↔ xs = ys := @decide_eq_true_iff _ (Classical.propDecidable _)
theorem steps_no {xs ys : List stepE.ty} (h : xs ≠ ys) : false = stepsF xs ys := (@decide_eq_false _ (Classical.propDecidable _) h).symm
theorem steps_yes {xs ys : List stepE.ty} (h : xs = ys) : true = stepsF xs ys := (steps_iff.2 h).symm
theorem take_next3 {α : Type} {xs ys : List α} {i : Int} {d : α} (h0 : 0 ≤ i) (h : xs.take i.toNat = ys.take i.toNat) (hx : i < (xs.length : Int)) (hl : xs.length = ys.length) (e : xs.getD i.toNat d = ys.getD i.toNat d) : xs.take (i.toNat + 1) = ys.take (i.toNat + 1) := by
  rw [List.take_add_one, List.take_add_one, h]
  rw [List.getD_eq_getElem?_getD, List.getD_eq_getElem?_getD] at e
  rw [List.getElem?_eq_getElem (by omega), List.getElem?_eq_getElem (by omega)] at e ⊢
  simp only [Option.getD_some] at e
  rw [e]
theorem step_eq {a b : stepE.ty} (h1 : decide (a.1 = b.1) = true) (h2 : decide (a.2.1 = b.2.1) = true) (h3 : decide (a.2.2.1 = b.2.2.1) = true) (h4 : decide (a.2.2.2.1 = b.2.2.2.1) = true) (h5 : decide (a.2.2.2.2.1 = b.2.2.2.2.1) = true) : a = b :=
  Prod.ext (of_decide_eq_true h1) (Prod.ext (of_decide_eq_true h2) (Prod.ext (of_decide_eq_true h3) (Prod.ext (of_decide_eq_true h4) (Prod.ext (of_decide_eq_true h5) rfl))))
attribute [local irreducible] stepsF List.getD
@[reducible] noncomputable def steps_s : Spec where
  n := 0
  cs := []
  ar := [.lend stepE, .lend stepE]
  pre := fun _ => True
  n' := 0
  cs' := []
  rs := [.el .bool]
  post := .fn fun (xs, ys, _) => (stepsF xs ys, ())
@[reducible] def steps_a : Ann where
  nx := 0
  cs := []
  ss := [(0, .lend stepE), (1, .lend stepE), (12, .el iE), (13, .el iE)]
  inv := fun (x0, y0, ln0, _, _) (x, y, ln, i, _) => x = x0 ∧ y = y0 ∧ ln = ln0 ∧ 0 ≤ i ∧ i ≤ x.length ∧ x.length = y.length ∧ x.take i.toNat = y.take i.toNat
  mu := fun (x, _, _, i, _) => x.length - i.toNat
@[reducible] def steps_h : Hints := ⟨[(6, (tks 0 11 (.take 11 true (tks 12 12 (.take 24 true (tks 25 12 (.take 37 true (tks 38 12 (.take 50 true (tks 51 10 (.last 61 false [] (tks 62 2 .done))))))))))))], [(4, steps_a)], []⟩
@[reducible] noncomputable def steps_e : Env := ⟨tys, [(17, same_s.call)]⟩
set_option maxHeartbeats 1000000 in
set_option maxRecDepth 100000 in
theorem steps_d : denF steps_e steps_s steps_h Tryd.f9 := by
  intro xs ys
  intro hpre
  repeat' (first | (conv => whnf); first | done | exact True.intro | refine And.intro ?_ ?_ | refine Is.mk ?_ | (intro h; cases h; done) | (intro _))
  all_goals try dsimp only [maxLen, El.ty, El.dflt, steps_a] at *
  all_goals repeat (with_reducible cases ‹_ ∧ _›)
  all_goals try subst_vars
  all_goals try simp only [decide_eq_true_eq, decide_eq_false_iff_not, IntKind.wrap_i64, Bool.not_eq_true', Bool.not_eq_false'] at *
  all_goals try (with_reducible assumption)
  all_goals try omega
  all_goals try (refine steps_no (fun e => ?_); subst e; first | exact absurd rfl (of_decide_eq_false (by assumption)) | omega)
  all_goals try (with_reducible rfl)
  all_goals first
    | (refine steps_yes ?_; rename List.take _ _ = _ => ht; rw [List.take_of_length_le (by omega), List.take_of_length_le (by omega)] at ht; exact ht)
    | skip
  · rfl
  · rename Int => i
    rw [show ((i + 1 + 9223372036854775808) % 18446744073709551616 - 9223372036854775808).toNat = i.toNat + 1 by omega]
    exact take_next3 (d := (0, 0, 0, List.replicate 32 0, [], ())) (by assumption) (by assumption) (by assumption) (by assumption) (step_eq (by assumption) (by assumption) (by assumption) (by assumption) (by assumption))
set_option maxRecDepth 100000 in
theorem steps_p : (FnIs Tryd.prog 9 ∧ FnOk Tryd.prog 9 steps_s) ∧ (idsOk steps_s.cs && idsOk steps_s.cs' && Nat.ble steps_s.n steps_s.n') = true :=
  fn_of (l := [(17, same_s.call)]) (hi := steps_h) (S := steps_s) (fn := Tryd.f9) (c := Tryd.f9.body.get!) tysOk mixOk ⟨.inl same_m, trivial⟩ (by kernel_rfl) (by kernel_rfl) (by kernel_rfl) (by kernel_rfl) (by kernel_rfl) steps_d
theorem steps_m : May Tryd.prog (9, steps_s.call) := may_call steps_p
theorem steps_n : May Tryd.prog (9, steps_s.callN) := may_callN steps_p
end Go.J

set_option linter.unusedSimpArgs false
set_option linter.unusedVariables false
set_option linter.unusedSectionVars false
namespace Go.J
open Go.Proofs

section
attribute [local irreducible] mixW
theorem absorb_pad : ∀ (n : Nat) (s : List Int) (xs L : List UInt8), xs.length ≤ n → absorb s (padW (xs ++ [128]) ++ L) = absorb (absorb s xs).1 (padW ((absorb s xs).2 ++ [128]) ++ L) := by
  intro n
  induction n with
  | zero =>
    intro s xs L h
    rw [absorb_done (xs := xs) (by omega)]
  | succ n ih =>
    intro s xs L h
    by_cases hl : 64 ≤ xs.length
    · have e : padW (xs ++ [128]) ++ L = xs.take 64 ++ (padW (xs.drop 64 ++ [128]) ++ L) := by
        unfold padW
        simp only [List.length_append, List.length_singleton, List.length_drop]
        rw [show (120 - (xs.length - 64 + 1) % 64) % 64 = (120 - (xs.length + 1) % 64) % 64 by omega]
        simp only [← List.append_assoc, List.take_append_drop]
      have hlen : (xs.take 64).length = 64 := by rw [List.length_take]; omega
      rw [e, absorb_step (by rw [List.length_append]; omega), List.take_left' hlen, List.drop_left' hlen, absorb_step hl]
      exact ih _ _ _ (by rw [List.length_drop]; omega)
    · rw [absorb_done (xs := xs) (by omega)]
end
section
attribute [local irreducible] mixW outs
theorem sha_eq (xs : List UInt8) : shaF xs = outs (absorb firstW (padW (xs ++ [128]) ++ be 8 ((xs.length : Int) % 18446744073709551616 * 8 % 18446744073709551616))).1 8 := by
  unfold shaF sumF
  rw [absorb_pad _ firstW xs _ (Nat.le_refl _)]
end
theorem or_comm' (a b : Int) : orW a b = orW b a := by
  unfold orW
  simp [bits, Nat.or_comm]
@[reducible] def fturn_s : Spec := { sright_s with }
@[reducible] def fturn_h : Hints := ⟨[(1, (tks 0 8 (.last 8 false [] .done)))], [], []⟩
@[reducible] noncomputable def fturn_e : Env := ⟨tys, []⟩
set_option maxHeartbeats 1000000 in
set_option maxRecDepth 100000 in
theorem fturn_d : denF fturn_e fturn_s fturn_h Tryd.f37 := by
  intro x n
  repeat' (first | (conv => whnf); first | refine And.intro ?_ ?_ | refine Is.mk ?_ | (intro h; cases h; done) | (intro _))
  all_goals try dsimp only [maxLen, El.ty] at *
  all_goals try trivial
  all_goals repeat (with_reducible cases ‹_ ∧ _›)
  all_goals try subst_eqs
  all_goals try simp only [IntKind.wrap_i64, IntKind.wrap_u64, IntKind.wrap_u32, IntKind.wrap_u8, decide_eq_true_eq, decide_eq_false_iff_not, Bool.not_eq_true', Bool.not_eq_false', Bool.not_not, Bool.not_true, Bool.not_false, List.length_cons, List.length_nil, Int.toNat_natCast, UInt8.ofNat_toNat] at *
  all_goals try first | omega | (with_reducible rfl) | (with_reducible exact u8lt _)
  all_goals try omega
  have e1 : min n.toNat IntKind.u32.bits = n.toNat := by show min n.toNat 32 = _; omega
  have e2 : min (32 - n).toNat IntKind.u32.bits = 32 - n.toNat := by show min (32 - n).toNat 32 = _; omega
  have e3 : ((32 - n + 9223372036854775808) % 18446744073709551616 - 9223372036854775808) = 32 - n := by omega
  rw [e3, e1, e2]
  exact or_comm' _ _
set_option maxRecDepth 100000 in
theorem fturn_p : (FnIs Tryd.prog 37 ∧ FnOk Tryd.prog 37 fturn_s) ∧ (idsOk fturn_s.cs && idsOk fturn_s.cs' && Nat.ble fturn_s.n fturn_s.n') = true :=
  fn_of (l := []) (hi := fturn_h) (S := fturn_s) (fn := Tryd.f37) (c := Tryd.f37.body.get!) tysOk mixOk trivial (by kernel_rfl) (by kernel_rfl) (by kernel_rfl) (by kernel_rfl) (by kernel_rfl) fturn_d
theorem fturn_m : May Tryd.prog (37, fturn_s.call) := may_call fturn_p
theorem fturn_n : May Tryd.prog (37, fturn_s.callN) := may_callN fturn_p
@[reducible] def fwords_s : Spec := { words_s with }
@[reducible] def fwords_h : Hints := ⟨[], [], []⟩
@[reducible] noncomputable def fwords_e : Env := ⟨tys, []⟩
set_option maxHeartbeats 1000000 in
set_option maxRecDepth 100000 in
theorem fwords_d : denF fwords_e fwords_s fwords_h Tryd.f36 := by
  repeat' (first | (conv => whnf); first | refine And.intro ?_ ?_ | refine Is.mk ?_ | (intro h; cases h; done) | (intro _))
  all_goals try dsimp only [maxLen, El.ty] at *
  all_goals try trivial
  all_goals repeat (with_reducible cases ‹_ ∧ _›)
  all_goals try subst_eqs
  all_goals try simp only [IntKind.wrap_i64, IntKind.wrap_u64, IntKind.wrap_u32, IntKind.wrap_u8, decide_eq_true_eq, decide_eq_false_iff_not, Bool.not_eq_true', Bool.not_eq_false', Bool.not_not, Bool.not_true, Bool.not_false, List.length_cons, List.length_nil, Int.toNat_natCast, UInt8.ofNat_toNat] at *
  all_goals try first | omega | (with_reducible rfl) | (with_reducible exact u8lt _)
set_option maxRecDepth 100000 in
theorem fwords_p : (FnIs Tryd.prog 36 ∧ FnOk Tryd.prog 36 fwords_s) ∧ (idsOk fwords_s.cs && idsOk fwords_s.cs' && Nat.ble fwords_s.n fwords_s.n') = true :=
  fn_of (l := []) (hi := fwords_h) (S := fwords_s) (fn := Tryd.f36) (c := Tryd.f36.body.get!) tysOk mixOk trivial (by kernel_rfl) (by kernel_rfl) (by kernel_rfl) (by kernel_rfl) (by kernel_rfl) fwords_d
theorem fwords_m : May Tryd.prog (36, fwords_s.call) := may_call fwords_p
theorem fwords_n : May Tryd.prog (36, fwords_s.callN) := may_callN fwords_p
section
attribute [local irreducible] spread0 spread1 nextW wordW
def spreadN (xs : List UInt8) (n : Nat) : List Int := if n ≤ 16 then spread0 xs n else spread1 (spread0 xs 16) (n - 16)
theorem spreadN_len (xs : List UInt8) (n : Nat) : (spreadN xs n).length = 64 := by
  unfold spreadN
  split
  · exact spread0_len _ _
  · rw [spread1_len, spread0_len]
theorem spreadN_lo (xs : List UInt8) {n : Nat} (h : n < 16) : spreadN xs (n + 1) = wordW xs (spreadN xs n) n := by
  unfold spreadN
  rw [if_pos (by omega), if_pos (by omega), spread0_succ]
theorem spreadN_hi (xs : List UInt8) {n : Nat} (h : ¬ n < 16) : spreadN xs (n + 1) = nextW (spreadN xs n) n := by
  unfold spreadN
  rw [if_neg (by omega)]
  by_cases e : n = 16
  · subst e
    rw [if_pos (by omega)]
    have e := spread1_succ (spread0 xs 16) 0
    rw [show spread1 (spread0 xs 16) 0 = spread0 xs 16 from by unfold spread1; rfl] at e
    exact e
  · rw [if_neg (by omega), show n + 1 - 16 = (n - 16) + 1 by omega, spread1_succ, show 16 + (n - 16) = n by omega]
theorem spreadN_64 (xs : List UInt8) : spreadN xs 64 = spreadW xs := by
  unfold spreadN spreadW
  rw [if_neg (by omega)]
end
@[reducible] def w64 (x : Int) : Int := (x + 9223372036854775808) % 18446744073709551616 - 9223372036854775808
theorem spreadN_0 (xs : List UInt8) : List.replicate 64 0 = spreadN xs (Int.toNat 0) := by
  unfold spreadN
  rw [if_pos (by decide)]
  rfl
theorem outs_0 (s : List Int) : List.replicate 32 0 = outs s (Int.toNat 0) := rfl
theorem sums_0 (t s : List Int) : s = sums t s (Int.toNat 0) := rfl
theorem rounds_0 (k w t : List Int) : t = rounds k w t (Int.toNat 0) := rfl
theorem getD_cut {M : List UInt8} {a j : Nat} {d : UInt8} (h : j < 64) : (List.take 64 (List.drop a M)).getD j d = M.getD (a + j) d := by
  rw [List.getD_eq_getElem?_getD, List.getD_eq_getElem?_getD, List.getElem?_take, if_pos h, List.getElem?_drop]
theorem add_swap (a b c d : Int) : addW (addW (addW a b) c) d = addW (addW (addW a c) b) d := by
  unfold addW
  simp only [IntKind.wrap_u32]
  omega
theorem sha_lo {M : List UInt8} {a i : Int} (h64 : a % 64 = 0) (hM : M.length % 64 = 0) (a0 : 0 ≤ a) (ha : a < (M.length : Int)) (hl : M.length ≤ 2 ^ 63 - 1) (i0 : 0 ≤ i) (i1 : i < 16) :
    (spreadN (List.take 64 (List.drop a.toNat M)) i.toNat).set i.toNat (orW (orW (orW (byteL (M.getD (w64 (a + w64 (4 * i))).toNat 0) 24) (byteL (M.getD (w64 (w64 (a + w64 (4 * i)) + 1)).toNat 0) 16)) (byteL (M.getD (w64 (w64 (a + w64 (4 * i)) + 2)).toNat 0) 8)) (byteW (M.getD (w64 (w64 (a + w64 (4 * i)) + 3)).toNat 0))) =
    spreadN (List.take 64 (List.drop a.toNat M)) (w64 (i + 1)).toNat := by
  have e : w64 (a + w64 (4 * i)) = a + 4 * i := by unfold w64; omega
  rw [e, show (w64 (i + 1)).toNat = i.toNat + 1 by unfold w64; omega, spreadN_lo _ (by omega)]
  unfold wordW word4
  rw [getD_cut (by omega), getD_cut (by omega), getD_cut (by omega), getD_cut (by omega)]
  rw [show (a + 4 * i).toNat = a.toNat + 4 * i.toNat by omega, show (w64 (a + 4 * i + 1)).toNat = a.toNat + (4 * i.toNat + 1) by unfold w64; omega, show (w64 (a + 4 * i + 2)).toNat = a.toNat + (4 * i.toNat + 2) by unfold w64; omega, show (w64 (a + 4 * i + 3)).toNat = a.toNat + (4 * i.toNat + 3) by unfold w64; omega]
theorem sha_hi {X : List UInt8} {i : Int} (i0 : 0 ≤ i) (i1 : ¬ i < 16) (i2 : i < 64) :
    (spreadN X i.toNat).set i.toNat (addW (addW (addW ((spreadN X i.toNat).getD (w64 (i - 16)).toNat 0) ((spreadN X i.toNat).getD (w64 (i - 7)).toNat 0)) (xorW (xorW (rotW ((spreadN X i.toNat).getD (w64 (i - 15)).toNat 0) 7) (rotW ((spreadN X i.toNat).getD (w64 (i - 15)).toNat 0) 18)) (shrW ((spreadN X i.toNat).getD (w64 (i - 15)).toNat 0) 3))) (xorW (xorW (rotW ((spreadN X i.toNat).getD (w64 (i - 2)).toNat 0) 17) (rotW ((spreadN X i.toNat).getD (w64 (i - 2)).toNat 0) 19)) (shrW ((spreadN X i.toNat).getD (w64 (i - 2)).toNat 0) 10))) =
    spreadN X (w64 (i + 1)).toNat := by
  rw [show (w64 (i + 1)).toNat = i.toNat + 1 by unfold w64; omega, spreadN_hi _ (by omega)]
  unfold nextW
  rw [show (w64 (i - 16)).toNat = i.toNat - 16 by unfold w64; omega, show (w64 (i - 7)).toNat = i.toNat - 7 by unfold w64; omega, show (w64 (i - 15)).toNat = i.toNat - 15 by unfold w64; omega, show (w64 (i - 2)).toNat = i.toNat - 2 by unfold w64; omega, add_swap]
theorem sha_rnd (k w t : List Int) {i : Int} (i0 : 0 ≤ i) (i1 : i < 64) : roundW k w (rounds k w t i.toNat) i.toNat = rounds k w t (w64 (i + 1)).toNat := by
  rw [show (w64 (i + 1)).toNat = i.toNat + 1 by unfold w64; omega, rounds_succ]
theorem sha_sum (t s : List Int) {i : Int} (i0 : 0 ≤ i) (i1 : i < 8) : (sums t s i.toNat).set i.toNat (addW ((sums t s i.toNat).getD i.toNat 0) (t.getD i.toNat 0)) = sums t s (w64 (i + 1)).toNat := by
  rw [show (w64 (i + 1)).toNat = i.toNat + 1 by unfold w64; omega, sums_succ]
  rfl
theorem sha_out (s : List Int) {i : Int} (i0 : 0 ≤ i) (i1 : i < 8) :
    ((((outs s i.toNat).set (w64 (4 * i)).toNat (byteO (s.getD i.toNat 0) 24)).set (w64 (w64 (4 * i) + 1)).toNat (byteO (s.getD i.toNat 0) 16)).set (w64 (w64 (4 * i) + 2)).toNat (byteO (s.getD i.toNat 0) 8)).set (w64 (w64 (4 * i) + 3)).toNat (UInt8.ofNat (IntKind.u8.wrap (s.getD i.toNat 0)).toNat) = outs s (w64 (i + 1)).toNat := by
  have e : w64 (4 * i) = 4 * i := by unfold w64; omega
  rw [e, show (w64 (i + 1)).toNat = i.toNat + 1 by unfold w64; omega, outs_succ]
  unfold outW
  rw [show (4 * i).toNat = 4 * i.toNat by omega, show (w64 (4 * i + 1)).toNat = 4 * i.toNat + 1 by unfold w64; omega, show (w64 (4 * i + 2)).toNat = 4 * i.toNat + 2 by unfold w64; omega, show (w64 (4 * i + 3)).toNat = 4 * i.toNat + 3 by unfold w64; omega]
section
attribute [local irreducible] mixW spreadW rounds sums spreadN
theorem sha_step {M : List UInt8} {h F : List Int} {a i j l : Int} (h64 : a % 64 = 0) (hM : M.length % 64 = 0) (a0 : 0 ≤ a) (ha : a < (M.length : Int)) (hl : M.length ≤ 2 ^ 63 - 1) (hi : ¬ i < 64) (hi2 : i ≤ 64) (hj : ¬ j < 64) (hj2 : j ≤ 64) (hn : ¬ l < 8) (hn2 : l ≤ 8) {z : List UInt8} (hr : absorb h (List.drop a.toNat M) = absorb F z) :
    absorb (sums (rounds kW (spreadN (List.take 64 (List.drop a.toNat M)) i.toNat) h j.toNat) h l.toNat) (List.drop (w64 (a + 64)).toNat M) = absorb F z := by
  rw [← hr, absorb_step (s := h) (by rw [List.length_drop]; omega), List.drop_drop, show (w64 (a + 64)).toNat = a.toNat + 64 by unfold w64; omega]
  rw [show i.toNat = 64 by omega, show j.toNat = 64 by omega, show l.toNat = 8 by omega, spreadN_64]
  unfold mixW
  rfl
end
section
attribute [local irreducible] mixW outs padW
theorem sha_fin {xs m : List UInt8} {h : List Int} {a i : Int} (hx : xs.length ≤ 1000000000) (hp : padW m = padW ([] ++ xs ++ [UInt8.ofNat (Int.toNat 128)])) (hm : ((m.length % 64 : Nat) : Int) = 56) (a0 : 0 ≤ a)
    (ha : ¬ a < ((m ++ be 8 (IntKind.u64.wrap (8 * IntKind.u64.wrap (xs.length : Int)))).length : Int)) (hr : absorb h (List.drop a.toNat (m ++ be 8 (IntKind.u64.wrap (8 * IntKind.u64.wrap (xs.length : Int))))) = absorb firstW (List.drop (Int.toNat 0) (m ++ be 8 (IntKind.u64.wrap (8 * IntKind.u64.wrap (xs.length : Int)))))) (hi : ¬ i < 8) (hi2 : i ≤ 8) :
    outs h i.toNat = shaF xs := by
  rw [sha_eq, show i.toNat = 8 by omega]
  rw [padW_done (by omega)] at hp
  have e : IntKind.u64.wrap (8 * IntKind.u64.wrap (xs.length : Int)) = (xs.length : Int) % 18446744073709551616 * 8 % 18446744073709551616 := by
    rw [IntKind.wrap_u64, IntKind.wrap_u64]; omega
  rw [e] at hr ha
  have hd : List.drop a.toNat (m ++ be 8 ((xs.length : Int) % 18446744073709551616 * 8 % 18446744073709551616)) = [] := List.drop_of_length_le (by omega)
  have h0 : List.drop (Int.toNat 0) (m ++ be 8 ((xs.length : Int) % 18446744073709551616 * 8 % 18446744073709551616)) = m ++ be 8 ((xs.length : Int) % 18446744073709551616 * 8 % 18446744073709551616) := rfl
  rw [hd, h0, absorb_done (by decide), hp] at hr
  exact congrArg (fun p => outs p.1 8) hr
end
@[reducible] def fsha_s : Spec := { sha_s with }
@[reducible] def fshaA : Ann where
  nx := 2
  cs := [(0, .own (.el (.ar 32 .u8))), (1, .row 5 .u8)]
  ss := [(0, .lend .u8), (2, .ref 0), (3, .own 1)]
  inv := fun (_, m0, xs0, _) (_, m, xs, _) => xs = xs0 ∧ padW m = padW m0 ∧ m.length + (120 - m.length % 64) % 64 = m0.length + (120 - m0.length % 64) % 64
  mu := fun (_, m, _) => (120 - m.length % 64) % 64
@[reducible] def fshaB : Ann where
  nx := 4
  cs := [(0, .own (.el (.ar 32 .u8))), (1, .row 5 .u8), (2, .own (.el a8)), (3, .own (.el a64))]
  ss := [(2, .ref 0), (3, .own 1), (4, .ref 2), (5, .ref 3), (6, .el iE)]
  inv := fun (_, m0, h0, k0, a0, _) (_, m, h, k, a, _) => m = m0 ∧ k = k0 ∧ h.length = 8 ∧ m.length % 64 = 0 ∧ 0 ≤ a ∧ a ≤ m.length ∧ a % 64 = 0 ∧ absorb h (m.drop a.toNat) = absorb h0 (m0.drop a0.toNat)
  mu := fun (_, m, _, _, a, _) => m.length - a.toNat
@[reducible] def fshaC : Ann where
  nx := 5
  cs := [(0, .own (.el (.ar 32 .u8))), (1, .row 5 .u8), (2, .own (.el a8)), (3, .own (.el a64)), (4, .own (.el a64))]
  ss := [(2, .ref 0), (3, .own 1), (4, .ref 2), (5, .ref 3), (6, .el iE), (7, .ref 4), (8, .el iE)]
  inv := fun (_, m0, h0, k0, w0, a0, i0, _) (_, m, h, k, w, a, i, _) => m = m0 ∧ h = h0 ∧ k = k0 ∧ a = a0 ∧ 0 ≤ i ∧ i ≤ 64 ∧ w = spreadN ((m.drop a.toNat).take 64) i.toNat
  mu := fun (_, _, _, _, _, _, i, _) => (64 - i).toNat
@[reducible] def fshaD : Ann where
  nx := 6
  cs := [(0, .own (.el (.ar 32 .u8))), (1, .row 5 .u8), (2, .own (.el a8)), (3, .own (.el a64)), (4, .own (.el a64)), (5, .own (.el a8))]
  ss := [(2, .ref 0), (3, .own 1), (4, .ref 2), (5, .ref 3), (6, .el iE), (7, .ref 4), (11, .ref 5), (12, .el iE)]
  inv := fun (_, m0, h0, k0, w0, v0, a0, i0, _) (_, m, h, k, w, v, a, i, _) => m = m0 ∧ h = h0 ∧ k = k0 ∧ w = w0 ∧ a = a0 ∧ 0 ≤ i ∧ i ≤ 64 ∧ v = rounds k0 w0 v0 i.toNat
  mu := fun (_, _, _, _, _, _, _, i, _) => (64 - i).toNat
@[reducible] def fshaE : Ann where
  nx := 6
  cs := [(0, .own (.el (.ar 32 .u8))), (1, .row 5 .u8), (2, .own (.el a8)), (3, .own (.el a64)), (5, .own (.el a8))]
  ss := [(2, .ref 0), (3, .own 1), (4, .ref 2), (5, .ref 3), (6, .el iE), (11, .ref 5), (220, .el iE)]
  inv := fun (_, m0, h0, k0, v0, a0, i0, _) (_, m, h, k, v, a, i, _) => m = m0 ∧ k = k0 ∧ v = v0 ∧ a = a0 ∧ 0 ≤ i ∧ i ≤ 8 ∧ h = sums v0 h0 i.toNat
  mu := fun (_, _, _, _, _, _, i, _) => (8 - i).toNat
@[reducible] def fshaF : Ann where
  nx := 7
  cs := [(0, .own (.el (.ar 32 .u8))), (6, .own (.el (.ar 32 .u8)))]
  ss := [(2, .ref 0), (16, .ref 6), (233, .el a8), (234, .el iE)]
  inv := fun (_, _, t0, _, _) (_, o, t, i, _) => t = t0 ∧ 0 ≤ i ∧ i ≤ 8 ∧ o = outs t0 i.toNat
  mu := fun (_, _, _, i, _) => (8 - i).toNat
attribute [local irreducible] spreadN rounds sums outs padW mixW shaF
@[reducible] def fsha_h : Hints := ⟨[(15, (tks 0 43 (.last 43 false [] .done))), (16, (tks 0 8 (.last 8 false [6, 7] (.last 9 false [] .done)))), (17, (tks 0 11 (.take 12 false (tks 15 2 (.take 19 false (.take 21 false (tks 24 2 (.last 11 false [3, 4, 7, 8] (.last 13 false [3, 4, 7, 8] (.take 14 false (tks 17 2 (.last 20 false [3, 4, 7, 8] (.last 22 false [3, 4, 7, 8] (.take 23 false (tks 26 3 (.last 29 false [] .done)))))))))))))))), (22, (tks 0 4 (tks 5 2 (tks 9 2 (tks 14 12 (tks 27 3 (tks 31 3 (.last 4 false [0, 1, 5, 6, 9, 10, 14, 15, 16, 17, 19, 20, 22, 23, 28, 29, 32, 33] (.last 7 false [0, 1, 9, 10, 14, 15, 16, 17, 19, 20, 22, 23, 28, 29, 32, 33] (.take 8 false (.last 11 false [0, 1, 14, 15, 16, 17, 19, 20, 22, 23, 28, 29, 32, 33] (tks 12 2 (.take 26 false (.take 30 false (.take 34 false (.last 35 false [] .done)))))))))))))))), (23, (tks 0 2 (tks 3 2 (tks 7 2 (tks 11 17 (.last 2 false [3, 4, 7, 8, 11, 12, 13, 14, 16, 17, 18, 19, 22, 23, 24, 25] (.last 5 false [7, 8, 11, 12, 13, 14, 16, 17, 18, 19, 22, 23, 24, 25] (.take 6 false (.last 9 false [11, 12, 13, 14, 16, 17, 18, 19, 22, 23, 24, 25] (.take 10 false (.take 28 false (.last 29 false [] .done)))))))))))), (28, (tks 0 9 (.last 9 false [] .done)))], [(2, fshaA), (8, fshaB), (12, fshaC), (20, fshaD), (26, fshaE), (32, fshaF)], []⟩
@[reducible] noncomputable def fsha_e : Env := ⟨tys, [(35, fu64_s.call), (36, fwords_s.call), (37, fturn_s.call)]⟩
set_option maxHeartbeats 8000000 in
set_option maxRecDepth 100000 in
theorem fsha_d : denF fsha_e fsha_s fsha_h Tryd.f21 := by
  intro xs
  intro hpre
  dsimp only [fsha_s] at hpre
  repeat' (first | (conv => whnf); first | done | exact True.intro | refine And.intro ?_ ?_ | refine Is.mk ?_ | (intro h; cases h; done) | (intro _))
  all_goals try dsimp only [maxLen, El.ty, El.dflt, fshaA, fshaB, fshaC, fshaD, fshaE, fshaF] at *
  all_goals try (with_reducible rfl)
  all_goals try (with_reducible decide)
  all_goals repeat (with_reducible cases ‹_ ∧ _›)
  all_goals try subst_vars
  all_goals try (with_reducible rfl)
  all_goals try (with_reducible assumption)
  all_goals try simp only [tm64, spreadN_len, sums_len, IntKind.wrap_i64, decide_eq_true_eq, decide_eq_false_iff_not, Bool.not_eq_true', Bool.not_eq_false'] at *
  all_goals try omega
  all_goals try (rw [rounds_len _ _ _ (by assumption)]; first | omega | decide)
  all_goals try with_reducible exact (byte_in _).1
  all_goals try with_reducible exact (byte_in _).2
  all_goals try (rw [show kW.length = 64 from rfl]; omega)
  all_goals try (rw [padW_step (by omega)]; assumption)
  all_goals try with_reducible exact spreadN_0 _
  all_goals try with_reducible exact outs_0 _
  all_goals try with_reducible exact sums_0 _ _
  all_goals try with_reducible exact rounds_0 _ _ _
  all_goals try (refine Eq.trans ?_ (sha_rnd _ _ _ (by assumption) (by assumption)); generalize rounds _ _ _ _ = t; rfl)
  all_goals try exact sha_sum _ _ (by assumption) (by assumption)
  all_goals try exact sha_out _ (by assumption) (by assumption)
  all_goals try exact sha_lo (by assumption) (by assumption) (by assumption) (by assumption) (by assumption) (by assumption) (by assumption)
  all_goals try exact sha_hi (by assumption) (by assumption) (by assumption)
  all_goals try exact sha_step (by assumption) (by assumption) (by assumption) (by assumption) (by assumption) (by assumption) (by assumption) (by assumption) (by assumption) (by assumption) (by assumption) (by assumption)
  all_goals try exact sha_fin (by assumption) (by assumption) (by assumption) (by assumption) (by assumption) (by assumption) (by assumption) (by assumption)
  all_goals try (simp only [List.length_append, be_length, List.length_cons, List.length_nil, List.length_set, outs_len] at *; omega)
  all_goals (rw [IntKind.wrap_u64]; omega)
set_option maxRecDepth 100000 in
theorem fsha_p : (FnIs Tryd.prog 21 ∧ FnOk Tryd.prog 21 fsha_s) ∧ (idsOk fsha_s.cs && idsOk fsha_s.cs' && Nat.ble fsha_s.n fsha_s.n') = true :=
  fn_of (l := [(35, fu64_s.call), (36, fwords_s.call), (37, fturn_s.call)]) (hi := fsha_h) (S := fsha_s) (fn := Tryd.f21) (c := Tryd.f21.body.get!) tysOk mixOk ⟨.inl fu64_m, .inl fwords_m, .inl fturn_m, trivial⟩ (by kernel_rfl) (by kernel_rfl) (by kernel_rfl) (by kernel_rfl) (by kernel_rfl) fsha_d
theorem fsha_m : May Tryd.prog (21, fsha_s.call) := may_call fsha_p
theorem fsha_n : May Tryd.prog (21, fsha_s.callN) := may_callN fsha_p
end Go.J

set_option linter.unusedSimpArgs false
set_option linter.unusedVariables false
set_option linter.unusedSectionVars false
namespace Go.J
open Go.Proofs

theorem gd_drop {xs : List UInt8} {a : Int} {j : Nat} (h : 0 ≤ a) : (List.drop a.toNat xs).getD j 0 = xs.getD (a.toNat + j) 0 := by
  rw [List.getD_eq_getElem?_getD, List.getD_eq_getElem?_getD, List.getElem?_drop]
theorem fdec_any {xs : List UInt8} {out Z : List stepE.ty} {st : stepE.ty} {k : Nat} {a : Int} (hP : out ++ decodeF (xs.drop a.toNat) = Z) (h0 : 0 ≤ a) (h3 : a + 2 < (xs.length : Int)) (e : stepF (xs.getD a.toNat 0) (xs.getD (a + 1).toNat 0) (xs.getD (a + 2).toNat 0) (xs.drop (a + 3).toNat) = (st, k)) : (out ++ [st]) ++ decodeF (xs.drop ((a + 3).toNat + k)) = Z := by
  have h := dec_any (xs := xs.drop a.toNat) (st := st) (k := k) hP (by rw [List.length_drop]; omega) (by
    rw [gd_drop h0, gd_drop h0, gd_drop h0, List.drop_drop, Nat.add_zero, show a.toNat + 1 = (a + 1).toNat by omega, show a.toNat + 2 = (a + 2).toNat by omega, show a.toNat + 3 = (a + 3).toNat by omega]
    exact e)
  rw [List.drop_drop, List.drop_drop, show a.toNat + (3 + k) = (a + 3).toNat + k by omega] at h
  exact h
theorem wi3 {x : Int} (h0 : 0 ≤ x) (h1 : x ≤ 9000000000000000000) : IntKind.i64.wrap x = x := by rw [IntKind.wrap_i64]; omega
theorem fd_k {L m : Nat} {i : Int} (h0 : 0 ≤ i) (h : i + 2 < (L : Int)) (hL : L ≤ 100000000) : IntKind.i64.wrap (i + 3 + if IntKind.i64.wrap ((L : Int) - (i + 3)) < ((m % 64 : Nat) : Int) then IntKind.i64.wrap ((L : Int) - (i + 3)) else ((m % 64 : Nat) : Int)) = i + 3 + ((min (m % 64) (L - (i + 3).toNat) : Nat) : Int) := by
  rw [wi3 (x := (L : Int) - (i + 3)) (by omega) (by omega)]
  have e : (if ((L : Int) - (i + 3)) < ((m % 64 : Nat) : Int) then ((L : Int) - (i + 3)) else ((m % 64 : Nat) : Int)) = ((min (m % 64) (L - (i + 3).toNat) : Nat) : Int) := by split <;> omega
  rw [e]
  exact wi3 (by omega) (by omega)
theorem sf2d {a n m : UInt8} {xs : List UInt8} {d : Nat} (h : 1 + ((a.toNat % 4 : Nat) : Int) = 2) : stepF a n m (xs.drop d) = ((1 + ((a.toNat % 4 : Nat) : Int), ((n.toNat % 16 : Nat) : Int), 0, List.replicate 32 0, (xs.drop d).take (min (m.toNat % 64) (xs.length - d)), ()), min (m.toNat % 64) (xs.length - d)) := by
  rw [sf2 h, List.length_drop]
theorem fd_1 (i : Int) (k : Nat) : (i + 3 + (k : Int) - (i + 3)).toNat = k := by omega
theorem fd_2 {i : Int} (h : 0 ≤ i) (k : Nat) : (i + 3 + (k : Int)).toNat = (i + 3).toNat + k := by omega
theorem fd_0 (xs : List UInt8) : decodeF (List.drop (Int.toNat 0) xs) = decodeF xs := rfl
theorem u8w (c : UInt8) : UInt8.ofNat (IntKind.u8.wrap ((c.toNat : Nat) : Int)).toNat = c := by
  have h := UInt8.toNat_lt c
  rw [IntKind.wrap_u8, show ((c.toNat : Nat) : Int) % 256 = ((c.toNat : Nat) : Int) by omega, Int.toNat_natCast, UInt8.ofNat_toNat]
theorem wn1' (c : UInt8) : IntKind.i64.wrap (1 + ((c.toNat : Nat) : Int)) = ((c.toNat : Nat) : Int) + 1 := by
  have := UInt8.toNat_lt c
  rw [IntKind.wrap_i64]; omega
attribute [local irreducible] shaF decodeF List.getD stepF
@[reducible] def fdecode_s : Spec := { decode_s with }
@[reducible] def fdecode_a : Ann where
  nx := 1
  cs := [(0, .row 29 stepE)]
  ss := [(0, .el (.rd .u8)), (3, .own 0), (4, .el iE)]
  inv := fun (out0, xs0, a0, _) (out, xs, a, _) => xs = xs0 ∧ 0 ≤ a ∧ a ≤ xs.length ∧ out.length ≤ a ∧ out ++ decodeF (xs.drop a.toNat) = out0 ++ decodeF (xs0.drop a0.toNat)
  mu := fun (_, xs, a, _) => xs.length - a.toNat
@[reducible] def fdecode_h : Hints := ⟨[(4, (tks 0 17 (.last 17 false [8, 9, 10, 14, 15, 16] (.last 18 false [14, 15, 16] (.last 19 false [] .done)))))], [(3, fdecode_a)], []⟩
@[reducible] noncomputable def fdecode_e : Env := ⟨tys, [(21, fsha_s.call)]⟩
set_option maxHeartbeats 1000000 in
set_option maxRecDepth 100000 in
theorem fdecode_d : denF fdecode_e fdecode_s fdecode_h Tryd.f12 := by
  intro xs
  intro hpre
  dsimp only [fdecode_s] at hpre
  repeat' (first | (conv => whnf); first | done | exact True.intro | refine And.intro ?_ ?_ | refine Is.mk ?_ | (intro h; cases h; done) | (intro _))
  all_goals try dsimp only [maxLen, El.ty, El.dflt, fdecode_a] at *
  all_goals repeat (with_reducible cases ‹_ ∧ _›)
  all_goals try subst_vars
  all_goals try (rename Int => i)
  all_goals first
    | have w1 := wi3 (x := i + 1) (by omega) (by omega)
    | skip
  all_goals first
    | have w2 := wi3 (x := i + 2) (by omega) (by omega)
    | skip
  all_goals first
    | have w3 := wi3 (x := i + 3) (by omega) (by omega)
    | skip
  all_goals try simp only [w1, w2, w3, wu, u8w, tm4, tm16, tm64', w14, wn1', List.nil_append, List.length_nil, decide_eq_true_eq, decide_eq_false_iff_not] at *
  all_goals try (with_reducible rfl)
  all_goals try (with_reducible exact (byte_in _).1)
  all_goals try (with_reducible exact (byte_in _).2)
  all_goals try exact fdec_any (by assumption) (by assumption) (by assumption) (sf1 (by assumption))
  all_goals try exact fdec_any (by assumption) (by assumption) (by assumption) (sf4 (by assumption))
  all_goals try exact fdec_any (by assumption) (by assumption) (by assumption) (sf3 (by assumption) (by assumption) (by omega))
  all_goals try simp only [List.length_append, List.length_cons, List.length_nil, List.length_drop, List.length_take]
  all_goals try omega
  all_goals try simp only [fd_0] at *
  all_goals try (rename _ ++ decodeF _ = _ => hP; rw [← hP, decode_end (by rw [List.length_drop]; omega), List.append_nil]; done)
  all_goals (rename i + 2 < _ => h3)
  all_goals have eK := fun m : Nat => fd_k (m := m) (i := i) (by assumption) h3 hpre
  all_goals simp only [eK]
  all_goals try omega
  all_goals simp only [fd_1, fd_2 (i := i) (by assumption)]
  all_goals exact fdec_any (by assumption) (by assumption) (by assumption) (sf2d (by assumption))
set_option maxRecDepth 100000 in
theorem fdecode_p : (FnIs Tryd.prog 12 ∧ FnOk Tryd.prog 12 fdecode_s) ∧ (idsOk fdecode_s.cs && idsOk fdecode_s.cs' && Nat.ble fdecode_s.n fdecode_s.n') = true :=
  fn_of (l := [(21, fsha_s.call)]) (hi := fdecode_h) (S := fdecode_s) (fn := Tryd.f12) (c := Tryd.f12.body.get!) tysOk mixOk ⟨.inl fsha_m, trivial⟩ (by kernel_rfl) (by kernel_rfl) (by kernel_rfl) (by kernel_rfl) (by kernel_rfl) fdecode_d
theorem fdecode_m : May Tryd.prog (12, fdecode_s.call) := may_call fdecode_p
theorem fdecode_n : May Tryd.prog (12, fdecode_s.callN) := may_callN fdecode_p
end Go.J

set_option linter.unusedSimpArgs false
set_option linter.unusedVariables false
set_option linter.unusedSectionVars false
namespace Go.J
open Go.Proofs

@[reducible] noncomputable def psmall_c := inl ⟨tys, []⟩ ⟨[], [], []⟩ Tryd.f56 Tryd.f56.body.get!
theorem psmall_m : May Tryd.prog (56, psmall_c) :=
  may_inl tysOk mixOk trivial (by kernel_rfl) (by kernel_rfl) (by kernel_rfl) (by kernel_rfl)
@[reducible] noncomputable def pfmt_c := inl ⟨tys, [(56, psmall_c)]⟩ ⟨[], [], []⟩ Tryd.f52 Tryd.f52.body.get!
theorem pfmt_m : May Tryd.prog (52, pfmt_c) :=
  may_inl tysOk mixOk ⟨.inl psmall_m, trivial⟩ (by kernel_rfl) (by kernel_rfl) (by kernel_rfl) (by kernel_rfl)
@[reducible] noncomputable def pitoa0_c := inl ⟨tys, [(52, pfmt_c)]⟩ ⟨[], [], []⟩ Tryd.f45 Tryd.f45.body.get!
theorem pitoa0_m : May Tryd.prog (45, pitoa0_c) :=
  may_inl tysOk mixOk ⟨.inl pfmt_m, trivial⟩ (by kernel_rfl) (by kernel_rfl) (by kernel_rfl) (by kernel_rfl)
@[reducible] noncomputable def pitoa_c := inl ⟨tys, [(45, pitoa0_c)]⟩ ⟨[], [], []⟩ Tryd.f34 Tryd.f34.body.get!
theorem pitoa_m : May Tryd.prog (34, pitoa_c) :=
  may_inl tysOk mixOk ⟨.inl pitoa0_m, trivial⟩ (by kernel_rfl) (by kernel_rfl) (by kernel_rfl) (by kernel_rfl)
@[reducible] noncomputable def pjoin_c := inl ⟨tys, [(34, pitoa_c)]⟩ ⟨[], [], [(2, 2)]⟩ Tryd.f20 Tryd.f20.body.get!
theorem pjoin_m : May Tryd.prog (20, pjoin_c) :=
  may_inl tysOk mixOk ⟨.inl pitoa_m, trivial⟩ (by kernel_rfl) (by kernel_rfl) (by kernel_rfl) (by kernel_rfl)
@[reducible] noncomputable def pline_c := inl ⟨tys, [(20, pjoin_c)]⟩ ⟨[], [], []⟩ Tryd.f10 Tryd.f10.body.get!
theorem pline_m : May Tryd.prog (10, pline_c) :=
  may_inl tysOk mixOk ⟨.inl pjoin_m, trivial⟩ (by kernel_rfl) (by kernel_rfl) (by kernel_rfl) (by kernel_rfl)
theorem runs_steps : decodeF [3, 4, 0, 1, 2, 2, 97, 98, 9] = [(4, 0, 5, List.replicate 32 0, [], ()), (2, 2, 0, List.replicate 32 0, [97, 98], ())] := by kernel_rfl
attribute [local irreducible] decodeF stepsF
@[reducible] def scriptRuns_s : Spec where
  n := 0
  cs := []
  ar := []
  pre := fun _ => True
  n' := 0
  cs' := []
  rs := [.el .bool]
  post := .fn fun _ => (true, ())
@[reducible] def scriptRuns_h : Hints := ⟨[], [], []⟩
@[reducible] noncomputable def scriptRuns_e : Env := ⟨tys, [(8, decode_s.call), (9, steps_s.call), (10, pline_c)]⟩
set_option maxHeartbeats 1000000 in
set_option maxRecDepth 100000 in
theorem scriptRuns_d : denF scriptRuns_e scriptRuns_s scriptRuns_h Tryd.f3 := by
  intro _
  repeat' (first | (conv => whnf); first | done | exact True.intro | refine And.intro ?_ ?_ | refine Is.mk ?_ | (intro h; cases h; done) | (intro _))
  all_goals try dsimp only [maxLen, El.ty] at *
  all_goals try decide
  exfalso
  rename stepsF _ _ = false => h
  have e : stepsF (decodeF [3, 4, 0, 1, 2, 2, 97, 98, 9]) [(4, 0, 5, List.replicate 32 0, [], ()), (2, 2, 0, List.replicate 32 0, [97, 98], ())] = false := h
  rw [steps_iff.2 runs_steps] at e
  cases e
set_option maxRecDepth 100000 in
theorem scriptRuns_p : (FnIs Tryd.prog 3 ∧ FnOk Tryd.prog 3 scriptRuns_s) ∧ (idsOk scriptRuns_s.cs && idsOk scriptRuns_s.cs' && Nat.ble scriptRuns_s.n scriptRuns_s.n') = true :=
  fn_of (l := [(8, decode_s.call), (9, steps_s.call), (10, pline_c)]) (hi := scriptRuns_h) (S := scriptRuns_s) (fn := Tryd.f3) (c := Tryd.f3.body.get!) tysOk mixOk ⟨.inl decode_m, .inl steps_m, .inl pline_m, trivial⟩ (by kernel_rfl) (by kernel_rfl) (by kernel_rfl) (by kernel_rfl) (by kernel_rfl) scriptRuns_d
theorem scriptRuns_m : May Tryd.prog (3, scriptRuns_s.call) := may_call scriptRuns_p
theorem scriptRuns_n : May Tryd.prog (3, scriptRuns_s.callN) := may_callN scriptRuns_p
end Go.J

set_option linter.unusedSimpArgs false
set_option linter.unusedVariables false
set_option linter.unusedSectionVars false

namespace Go.J
open Go.RowKit

/-- The world as a call finds it: nothing that is there is written. -/
def cxOf (w : World) : Cx := ⟨fun _ => none, fun b => b < w.heap.size, w⟩
theorem mdl_start (w : World) (n : Nat) : Mdl w ⟨fun _ => False, fun b => b < w.heap.size⟩ (cxOf w) [] n :=
  ⟨rfl, rfl, rfl, Nat.le_refl _, fun _ _ _ => rfl, fun _ h => h, fun _ _ => rfl, fun _ _ h => (nomatch h), (by simp), fun _ _ _ _ _ _ h => (nomatch h), fun _ _ _ h => (nomatch h), fun _ h => .inl h⟩
theorem Mdl.below {w : World} {im : Nat → Prop} {G : Cx} {hp : Hp} {nx : Nat} (h : Mdl w ⟨fun _ => False, im⟩ G hp nx) : RowKit.Below w.heap.size w G.w :=
  ⟨h.os, h.tape, h.output, h.size, fun k hk => h.keep k hk (fun hf => hf)⟩

/-- A law's walk. -/
theorem law_walk {P : Program} {f : FuncId} {g : List T → Hp → Nat → (T → Hp → Nat → Prop) → Prop} (h : CallOk P f g) (w : World) (args : List T) (vs : List Value) (n : Nat) (hv : frOk (cxOf w) args ⟨vs⟩)
    (hg : ∀ k : T → Hp → Nat → Prop, (∀ hp nx, k (.v (.bool true)) hp nx) → g args [] n k) : Calls P f ⟨vs⟩ w fun e w' => e = .returned (.bool true) ∧ RowKit.Below w.heap.size w w' := by
  refine Calls.mono (h w _ (cxOf w) [] n args vs (fun x _ _ => x = .v (.bool true)) (mdl_start w n) hv (hg _ fun _ _ => rfl)) ?_
  rintro e w' ⟨G', x, v, hp', nx', rfl, rfl, _, hm, hv, rfl⟩
  have hv : v = .bool true := hv
  subst hv
  exact ⟨rfl, hm.below⟩

end Go.J

set_option linter.unusedSimpArgs false
set_option linter.unusedVariables false
namespace Go.J
open Go.RowKit Go.ChangeShapes Go.WideShapes

theorem wf_int {k : IntKind} {n : Int} (h : (Lit.int k n).wf = true) : k.min ≤ n ∧ n ≤ k.max := by simpa [Lit.wf] using h

/-- How great a value that comes in may be. -/
def El.fits : (e : El) → e.ty → Prop
  | .u8, _ => True
  | .int k, n => k.min ≤ n ∧ n ≤ k.max
  | .bool, _ => True
  | .str, s => s.length ≤ maxLen
  | .rd e, xs => xs.length ≤ maxLen ∧ ∀ x ∈ xs, e.fits x
  | .nil, _ => True
  | .cons e es, x => e.fits x.1 ∧ es.fits x.2
  | .ar n e, xs => xs.length = n ∧ ∀ x ∈ xs, e.fits x

/-- Is a type's value told so? -/
def elTys (f : TypeId → El → Bool) : List (TypeId × Nat) → Nat → El → Bool
  | [], _, .nil => true
  | (t, d) :: fs, d', .cons e es => Nat.beq d d' && f t e && elTys f fs (d' + e.sz) es
  | _, _, _ => false
def elTy (l : List (Nat × TyI)) : Nat → TypeId → El → Bool
  | 0, _, _ => false
  | n + 1, t, e => match lookTy l t with
    | none => false
    | some y => Nat.beq y.size e.sz && (match y.k, e with
      | .int k, .int k' => k == k'
      | .int k, .u8 => k == .u8
      | .bool, .bool => true
      | .str, .str => true
      | .sl et, .rd e => Nat.blt 0 e.sz && elTy l n et e
      | .st fs, e => elTys (elTy l n) fs 0 e
      | .ar m et, .ar m' e => Nat.beq m m' && elTy l n et e
      | _, _ => false)

section
variable {H : Type} {enc : TypeId × Value → H} {P : Program} {l : List (Nat × TyI)} {w : World}

theorem cellsOf_size {t : TypeId} {y : TyI} (h : TyOk P t y) : P.cellsOf t = y.size := by
  have := ty_size h
  unfold Program.cellsOf
  rw [this]
  rfl
theorem elTy_size (hty : ∀ t i, (t, i) ∈ l → TyOk P t i) {n : Nat} {t : TypeId} {e : El} (h : elTy l n t e = true) : P.cellsOf t = e.sz := by
  cases n with
  | zero => simp [elTy] at h
  | succ n =>
    unfold elTy at h
    split at h
    · cases h
    · next y hy =>
      simp only [Bool.and_eq_true] at h
      rw [cellsOf_size (hty t y (lookTy_out hy)), nat_beq_eq h.1]

theorem addr_add_add (a : Addr) (m n : Nat) : (a.add m).add n = a.add (m + n) := by
  unfold Addr.add
  by_cases h1 : m = 0 <;> by_cases h2 : n = 0 <;> simp [h1, h2, Nat.add_assoc]

theorem rows_of {α : Type} {R : α → List Value → Prop} {F : α → Prop} {a : Addr} {sz : Nat} : ∀ (len : Nat), (∀ i, i < len → ∃ x css, w.cells? 0 (a.add (i * sz)) sz = some css ∧ R x css ∧ F x) →
    ∃ xs css, xs.length = len ∧ css.length = len * sz ∧ listOf R xs css ∧ (∀ j v, css[j]? = some v → w.cell? (a.add j) = some v) ∧ ∀ x ∈ xs, F x
  | 0, _ => ⟨[], [], rfl, by simp, rfl, fun j v h => by simp at h, fun x h => by cases h⟩
  | len + 1, h => by
    obtain ⟨xs, css, h1, h2, h3, h4, h5⟩ := rows_of len fun i hi => h i (by omega)
    obtain ⟨x, c, k1, k2, k3⟩ := h len (by omega)
    obtain ⟨_, m1, m2⟩ := World.cells?_some k1
    refine ⟨xs ++ [x], css ++ c, by simp [h1], by rw [List.length_append, h2, m1, Nat.add_mul, Nat.one_mul], listOf_append h3 ⟨c, [], by simp, k2, rfl⟩, fun j v hj => ?_, fun y hy => ?_⟩
    · by_cases hlt : j < css.length
      · rw [List.getElem?_append_left hlt] at hj
        exact h4 j v hj
      · rw [List.getElem?_append_right (by omega)] at hj
        have hlt2 : j - css.length < c.length := (List.getElem?_eq_some_iff.1 hj).1
        have := m2 (j - css.length) (by omega)
        rw [addr_add_add, h2, show len * sz + (j - len * sz) = j by omega] at this
        rw [this, ← h2]
        exact hj
    · rcases List.mem_append.1 hy with hy | hy
      · exact h5 y hy
      · simp at hy; subst hy; exact k3

theorem trod_el (hty : ∀ t i, (t, i) ∈ l → TyOk P t i) : ∀ (n fuel : Nat) (t : TypeId) (e : El) (cs : List Value) (r : DataW H × List MemPlace), elTy l n t e = true → DataW.trod enc P w 0 (fun _ => true) true fuel t cs = some r →
    ∃ x : e.ty, cellsOf (fun b => b < w.heap.size) w e x cs ∧ e.fits x := by
  intro n
  induction n with
  | zero => intro fuel t e cs r he; simp [elTy] at he
  | succ n ih =>
    intro fuel t e cs r he h
    have hsz : P.cellsOf t = e.sz := elTy_size hty he
    unfold elTy at he
    split at he
    · cases he
    · next y hy =>
      have hT := hty t y (lookTy_out hy)
      have und := hT.und
      rw [Bool.and_eq_true] at he
      obtain ⟨hsz0, he⟩ := he
      clear hsz0
      revert he
      generalize hyk : y.k = yk
      rw [hyk] at und
      intro he
      split at he
      · next k k' =>
        obtain rfl := eq_of_beq he
        obtain ⟨m, rfl, _, hw⟩ := DataW.trod_int und h
        exact ⟨m, rfl, wf_int hw⟩
      · next k =>
        obtain rfl := eq_of_beq he
        obtain ⟨m, rfl, _, hw⟩ := DataW.trod_int und h
        have hb := wf_int hw
        have e1 : IntKind.u8.min = 0 := by decide
        have e2 : IntKind.u8.max = 255 := by decide
        refine ⟨UInt8.ofNat m.toNat, ?_, trivial⟩
        show [Value.int .u8 m] = [.int .u8 ((UInt8.ofNat m.toNat).toNat : Int)]
        rw [UInt8.toNat_ofNat_of_lt' (by show m.toNat < 256; omega), Int.toNat_of_nonneg (by omega)]
      · obtain ⟨b, rfl, _⟩ := DataW.trod_bool und h
        exact ⟨b, rfl, trivial⟩
      · obtain ⟨s, rfl, _, hs⟩ := DataW.trod_string und h
        exact ⟨s.data.toList, rfl, by show s.data.toList.length ≤ maxLen; simpa using hs⟩
      · next et e' =>
        simp only [Bool.and_eq_true] at he
        obtain ⟨he0, he⟩ := he
        have he0 : 0 < e'.sz := by simpa [Nat.blt_eq] using he0
        have hsz' := elTy_size hty he
        rcases DataW.trod_slice und h with ⟨rfl, _⟩ | ⟨a, len, cap, elems, rest, m, _, rfl, _, _, hl, hm, hlen, hel, _, _⟩
        · exact ⟨[], ⟨none, 0, rfl, Nat.le_refl _, Nat.zero_le _, fun hp => absurd hp (by simp)⟩, by simp [El.fits]⟩
        · obtain ⟨xs, css, h1, h2, h3, h4, h5⟩ := rows_of (w := w) (a := a) (sz := e'.sz) (R := cellsOf (fun b => b < w.heap.size) w e') (F := e'.fits) len fun i hi => by
            have := hel i hi
            rw [List.getElem?_eq_getElem (by omega), Option.bind_eq_some_iff, hsz'] at this
            obtain ⟨c, hc, ht⟩ := this
            obtain ⟨x, k1, k2⟩ := ih m et e' c _ he ht
            exact ⟨x, c, hc, k1, k2⟩
          refine ⟨xs, ⟨some a, cap, by rw [h1], by omega, hm, fun hp => ?_⟩, by omega, h5⟩
          have hc0 : 0 < css.length := by rw [h2]; exact Nat.mul_pos (by omega) he0
          have hv := h4 0 css[0] (List.getElem?_eq_getElem hc0)
          have ha0 : a.add 0 = a := by simp [Addr.add]
          rw [ha0] at hv
          obtain ⟨b, o, sp⟩ := a
          have hsp : sp = none := World.cell?_spot hv
          subst hsp
          refine ⟨b, o, css, rfl, ?_, ?_, fun j v hj => ?_, h3⟩
          · exact World.block_lt_of_cell? w _ hv
          · exact World.block_lt_of_cell? w _ hv
          · have := h4 j v hj
            rwa [show (⟨b, o, none⟩ : Addr).add j = ⟨b, o + j, none⟩ by unfold Addr.add; split <;> simp_all] at this
      · next fs =>
        obtain ⟨fields, hu, hfs, _⟩ := und
        obtain ⟨xs, m, _, _, hcl, hxl, hf⟩ := DataW.trod_struct hu h
        have walk : ∀ (fs' : List (TypeId × Nat)) (i d' : Nat) (e' : El), (fields.toList.drop i).map (fun f => (f.type, f.offset)) = fs' → elTys (elTy l n) fs' d' e' = true → d' + e'.sz = cs.length →
            ∃ x : e'.ty, cellsOf (fun b => b < w.heap.size) w e' x (cs.drop d') ∧ e'.fits x := by
          intro fs'
          induction fs' with
          | nil =>
            intro i d' e' _ h2 h3
            cases e' <;> simp [elTys] at h2
            exact ⟨(), by simp only [El.sz] at h3; simp [cellsOf]; omega, trivial⟩
          | cons p fs' ih2 =>
            intro i d' e' h1 h2 h3
            obtain ⟨t', d⟩ := p
            cases e' <;> simp [elTys] at h2
            next e1 es =>
              obtain ⟨⟨hd, ht⟩, hr⟩ := h2
              subst hd
              cases hfi : fields.toList.drop i with
              | nil => rw [hfi] at h1; simp at h1
              | cons f rest =>
                rw [hfi, List.map_cons] at h1
                injection h1 with h11 h12
                injection h11 with h13 h14
                have hget : fields[i]? = some f := by
                  have : (fields.toList.drop i)[0]? = some f := by rw [hfi]; rfl
                  rw [List.getElem?_drop] at this
                  simpa using this
                have hlt : i < fields.size := (Array.getElem?_eq_some_iff.1 hget).1
                have := hf i f hget
                rw [List.getElem?_eq_getElem (by omega), h13, h14, elTy_size hty ht] at this
                obtain ⟨x1, k1, k2⟩ := ih m t' e1 _ _ ht this
                simp only [El.sz] at h3
                obtain ⟨x2, k3, k4⟩ := ih2 (i + 1) (d + e1.sz) es (by rw [← h12, ← List.drop_drop, hfi]; rfl) hr (by omega)
                exact ⟨(x1, x2), ⟨_, _, by rw [← List.drop_drop]; exact (List.take_append_drop e1.sz (cs.drop d)).symm, k1, k3⟩, k2, k4⟩
        have := walk fs 0 0 e (by simpa using hfs) he (by rw [hcl, hsz]; omega)
        simpa using this
      · next m et m' e' =>
        simp only [Bool.and_eq_true] at he
        obtain ⟨hm, he⟩ := he
        obtain rfl := nat_beq_eq hm
        have hsz' := elTy_size hty he
        obtain ⟨xs, q, _, _, hcl, hxl, hf⟩ := DataW.trod_array und h
        have walk : ∀ k, k ≤ m → ∃ ys : List e'.ty, ys.length = k ∧ listOf (cellsOf (fun b => b < w.heap.size) w e') ys (cs.take (k * e'.sz)) ∧ ∀ y ∈ ys, e'.fits y := by
          intro k
          induction k with
          | zero => intro _; exact ⟨[], rfl, by simp [listOf], fun y hy => by cases hy⟩
          | succ k ihk =>
            intro hk
            obtain ⟨ys, g1, g2, g3⟩ := ihk (by omega)
            have := hf k (by omega)
            rw [List.getElem?_eq_getElem (by omega), hsz'] at this
            obtain ⟨x, k1, k2⟩ := ih q et e' _ _ he this
            refine ⟨ys ++ [x], by simp [g1], ?_, fun y hy => ?_⟩
            · rw [Nat.add_mul, Nat.one_mul, List.take_add]
              exact listOf_append g2 ⟨_, [], by simp, k1, rfl⟩
            · rcases List.mem_append.1 hy with hy | hy
              · exact g3 y hy
              · simp at hy; subst hy; exact k2
        obtain ⟨ys, g1, g2, g3⟩ := walk m (Nat.le_refl _)
        have hlen : cs.length = m * e'.sz := by rw [hcl, hsz]; rfl
        rw [← hlen, List.take_length] at g2
        exact ⟨ys, ⟨g1, g2⟩, g1, g3⟩
      · cases he

/-- An argument, told by its content. -/
theorem arg_el {n : Nat} {t : TypeId} {e : El} {v : Value} {d : DataW H} {p : List MemPlace} (h1 : tysB P l = true) (he : elTy l n t e = true) (hv : Value.okWide P w .any 0 t v) (h : DataW.Trod enc P w 0 (fun _ => true) true t v d p) :
    ∃ x : e.ty, tVal (cxOf w) (e.enc x) v ∧ e.fits x := by
  have hty := tysB_out h1
  obtain ⟨fuel, hf⟩ := h
  obtain ⟨x, hc, hx⟩ := trod_el hty n fuel t e _ _ he hf
  refine ⟨x, ?_, hx⟩
  have hcells : tCells (cxOf w) (e.enc x) v.cells.toList := (tCells_enc (G := cxOf w) e x _).2 hc
  have one : ∀ y : V, (∃ u : Value, v = u ∧ u.cells = #[u]) → e.enc x = .v y → tVal (cxOf w) (e.enc x) v := by
    rintro y ⟨u, rfl, hu⟩ hy
    rw [hy] at hcells ⊢
    obtain ⟨c, e1, _, e3⟩ := hcells
    rw [hu] at e1
    simp at e1
    subst e1
    exact e3
  cases n with
  | zero => simp [elTy] at he
  | succ n =>
    unfold elTy at he
    split at he
    · cases he
    · next y hy =>
      have und := (hty t y (lookTy_out hy)).und
      rw [Bool.and_eq_true] at he
      obtain ⟨hsz0, he⟩ := he
      clear hsz0
      revert he
      generalize hyk : y.k = yk
      rw [hyk] at und
      intro he
      split at he
      · next k k' =>
        obtain ⟨m, rfl⟩ := okWide_int und hv
        exact one _ ⟨_, rfl, rfl⟩ rfl
      · next k =>
        obtain ⟨m, rfl⟩ := okWide_int und hv
        exact one _ ⟨_, rfl, rfl⟩ rfl
      · obtain ⟨m, rfl⟩ := okWide_bool und hv
        exact one _ ⟨_, rfl, rfl⟩ rfl
      · obtain ⟨m, rfl⟩ := okWide_string und hv
        exact one _ ⟨_, rfl, rfl⟩ rfl
      · next et e' =>
        obtain ⟨a, len, cap, rfl⟩ := okWide_slice und hv
        exact one _ ⟨_, rfl, rfl⟩ rfl
      · next fs =>
        obtain ⟨fields, hu, hfs, _⟩ := und
        obtain ⟨cs, rfl, _⟩ := okWide_struct hu hv
        cases e <;> first | exact ⟨cs.toList, by simp, hcells⟩ | (cases fs <;> simp [elTys] at he)
      · next m et m' e' =>
        have : ∃ cs, v = .agg cs := by
          unfold Value.okWide at hv
          rw [und] at hv
          obtain ⟨cs, h, _⟩ := hv
          exact ⟨cs, h⟩
        obtain ⟨cs, rfl⟩ := this
        exact ⟨cs.toList, by simp, hcells⟩
      · cases he
end
end Go.J

set_option linter.unusedSimpArgs false
set_option linter.unusedVariables false
set_option linter.unusedSectionVars false
namespace Go.J
open Go.Proofs

attribute [local irreducible] decodeF stepsF
@[reducible] def scriptTells_s : Spec where
  n := 0
  cs := []
  ar := [.el (.rd .u8)]
  pre := fun _ => True
  n' := 0
  cs' := []
  rs := [.el .bool]
  post := .fn fun _ => (true, ())
@[reducible] def scriptTells_h : Hints := ⟨[], [], []⟩
@[reducible] noncomputable def scriptTells_e : Env := ⟨tys, [(11, roomy_s.call), (8, decode_s.call), (12, fdecode_s.call), (9, steps_s.call), (13, intact_s.call), (3, scriptRuns_s.call)]⟩
set_option maxHeartbeats 1000000 in
set_option maxRecDepth 100000 in
theorem scriptTells_d : denF scriptTells_e scriptTells_s scriptTells_h Tryd.f4 := by
  intro b
  intro _
  repeat' (first | (conv => whnf); first | done | exact True.intro | refine And.intro ?_ ?_ | refine Is.mk ?_ | (intro h; cases h; done) | (intro _))
  all_goals try dsimp only [maxLen, El.ty] at *
  all_goals obtain ⟨t, ht, hl⟩ : ∃ t, List.take ((if 400 < (b.length : Int) then 400 else (b.length : Int)) - 0).toNat (List.drop (Int.toNat 0) b) = t ∧ t.length ≤ 400 := ⟨_, rfl, by rw [List.length_take]; split <;> omega⟩
  all_goals have e2 : List.take ((t.length : Int) - 0).toNat (List.drop (Int.toNat 0) (t ++ List.replicate 80 (UInt8.ofNat (Int.toNat 7)))) = t := by
              rw [show ((t.length : Int) - 0).toNat = t.length by omega, show Int.toNat 0 = 0 from rfl, List.drop_zero, List.take_left]
  all_goals try simp only [ht, e2, steps_iff.2 rfl, decide_true, List.length_append, List.length_replicate, reduceCtorEq] at *
  all_goals try (split <;> omega)
  all_goals try omega
set_option maxRecDepth 100000 in
theorem scriptTells_p : (FnIs Tryd.prog 4 ∧ FnOk Tryd.prog 4 scriptTells_s) ∧ (idsOk scriptTells_s.cs && idsOk scriptTells_s.cs' && Nat.ble scriptTells_s.n scriptTells_s.n') = true :=
  fn_of (l := [(11, roomy_s.call), (8, decode_s.call), (12, fdecode_s.call), (9, steps_s.call), (13, intact_s.call), (3, scriptRuns_s.call)]) (hi := scriptTells_h) (S := scriptTells_s) (fn := Tryd.f4) (c := Tryd.f4.body.get!) tysOk mixOk ⟨.inl roomy_m, .inl decode_m, .inl fdecode_m, .inl steps_m, .inl intact_m, .inl scriptRuns_m, trivial⟩ (by kernel_rfl) (by kernel_rfl) (by kernel_rfl) (by kernel_rfl) (by kernel_rfl) scriptTells_d
theorem scriptTells_m : May Tryd.prog (4, scriptTells_s.call) := may_call scriptTells_p
theorem scriptTells_n : May Tryd.prog (4, scriptTells_s.callN) := may_callN scriptTells_p
theorem scriptTells_pre {b : List UInt8} (_ : El.fits (.rd .u8) b) : scriptTells_s.pre (b, ()) := trivial
end Go.J

set_option linter.unusedSimpArgs false
set_option linter.unusedVariables false
set_option linter.unusedSectionVars false
namespace Go.J
open Go.Proofs

def StepOk (s : stepE.ty) : Prop := 1 ≤ s.1 ∧ s.1 ≤ 4 ∧ 0 ≤ s.2.1 ∧ s.2.1 < 16 ∧ s.2.2.2.2.1.length ≤ 63 ∧ (s.1 = 4 → 1 ≤ s.2.2.1 ∧ s.2.2.1 ≤ 256)
theorem stepOk_mk {k c n : Int} {N B : List UInt8} (h1 : 1 ≤ k) (h2 : k ≤ 4) (h3 : 0 ≤ c) (h4 : c < 16) (h5 : B.length ≤ 63) (h6 : k = 4 → 1 ≤ n ∧ n ≤ 256) : StepOk (k, c, n, N, B, ()) := ⟨h1, h2, h3, h4, h5, h6⟩
theorem stepF_ok (a n m : UInt8) (xs : List UInt8) : StepOk (stepF a n m xs).1 := by
  have hn := UInt8.toNat_lt n
  unfold stepF
  split
  · exact stepOk_mk (by omega) (by omega) (by omega) (by omega) (by simp) (by omega)
  · split
    · exact stepOk_mk (by omega) (by omega) (by omega) (by omega) (by rw [List.length_take]; omega) (by omega)
    · split
      · exact stepOk_mk (by omega) (by omega) (by omega) (by omega) (by simp) (by omega)
      · exact stepOk_mk (by omega) (by omega) (by omega) (by omega) (by simp) (by omega)
theorem decode_ok : ∀ (k : Nat) (xs : List UInt8), xs.length ≤ k → ∀ s ∈ decodeF xs, StepOk s := by
  intro k
  induction k with
  | zero =>
    intro xs h s hs
    rw [decode_end (by omega)] at hs
    cases hs
  | succ k ih =>
    intro xs h s hs
    by_cases h3 : 3 ≤ xs.length
    · rw [decode_step h3] at hs
      rcases List.mem_cons.1 hs with rfl | hs
      · exact stepF_ok _ _ _ _
      · exact ih _ (by rw [List.length_drop, List.length_drop]; omega) s hs
    · rw [decode_end (by omega)] at hs
      cases hs
theorem decode_at {xs : List UInt8} {i : Int} {d : stepE.ty} (h0 : 0 ≤ i) (h : i < ((decodeF xs).length : Int)) : StepOk ((decodeF xs).getD i.toNat d) := by
  rw [List.getD_eq_getElem?_getD, List.getElem?_eq_getElem (by omega), Option.getD_some]
  exact decode_ok _ xs (Nat.le_refl _) _ (List.getElem_mem _)
theorem decode_tick {k : Nat} (hk : k < 256) (b : List UInt8) : decodeF (3 :: UInt8.ofNat k :: 0 :: b) = (4, 0, 1 + (k : Int), List.replicate 32 0, [], ()) :: decodeF b := by
  rw [decode_step (by simp)]
  have e : stepF ((3 :: UInt8.ofNat k :: 0 :: b).getD 0 0) ((3 :: UInt8.ofNat k :: 0 :: b).getD 1 0) ((3 :: UInt8.ofNat k :: 0 :: b).getD 2 0) ((3 :: UInt8.ofNat k :: 0 :: b).drop 3) = ((4, 0, 1 + (k : Int), List.replicate 32 0, [], ()), 0) := by
    show stepF 3 (UInt8.ofNat k) 0 b = _
    unfold stepF
    rw [if_neg (by decide), if_neg (by decide), if_pos (by decide), show (UInt8.ofNat k).toNat = k from by rw [UInt8.toNat_ofNat']; exact Nat.mod_eq_of_lt hk, Int.add_comm]
    rfl
  rw [e]
  rfl
theorem decode_nil : decodeF [] = [] := decode_end (by simp)
theorem decode_tick' (n : Int) (b : List UInt8) : decodeF ([UInt8.ofNat (Int.toNat 3), UInt8.ofNat (IntKind.u8.wrap (0 + n % (255 - 0 + 1))).toNat, UInt8.ofNat (Int.toNat 0)] ++ b) = (4, 0, IntKind.i64.wrap (1 + (0 + n % (255 - 0 + 1))), List.replicate 32 0, [], ()) :: decodeF b := by
  have h1 : IntKind.u8.wrap (0 + n % (255 - 0 + 1)) = ((n % 256).toNat : Int) := by rw [IntKind.wrap_u8]; omega
  have h2 : IntKind.i64.wrap (1 + (0 + n % (255 - 0 + 1))) = 1 + ((n % 256).toNat : Int) := by rw [IntKind.wrap_i64]; omega
  rw [h1, h2, Int.toNat_natCast]
  exact decode_tick (by omega) b
theorem tick_steps {x : stepE.ty} {l : List stepE.ty} : stepsF (List.take (Int.toNat (1 - 0)) (List.drop (Int.toNat 0) (x :: l))) [x] = true := steps_iff.2 rfl
theorem rest_steps {x : stepE.ty} {l : List stepE.ty} : stepsF (List.take (((x :: l).length : Int) - 1).toNat (List.drop (Int.toNat 1) (x :: l))) l = true := steps_iff.2 (by
  show List.take (((l.length + 1 : Nat) : Int) - 1).toNat l = l
  rw [List.take_of_length_le (by omega)])
theorem decode_len0 : ((decodeF ([] : List UInt8)).length : Int) = 0 := by rw [decode_nil]; rfl
theorem no1 {s : stepE.ty} (hs : StepOk s) (h : decide ((s.1 : Int) < 1) = true) : False := Int.not_lt.2 hs.1 (of_decide_eq_true h)
theorem no2 {s : stepE.ty} (hs : StepOk s) (h : decide (4 < (s.1 : Int)) = true) : False := Int.not_lt.2 hs.2.1 (of_decide_eq_true h)
theorem no3 {s : stepE.ty} (hs : StepOk s) (h : decide ((s.2.1 : Int) < 0) = true) : False := Int.not_lt.2 hs.2.2.1 (of_decide_eq_true h)
theorem no4 {s : stepE.ty} (hs : StepOk s) (h : decide (16 ≤ (s.2.1 : Int)) = true) : False := Int.not_lt.2 (of_decide_eq_true h) hs.2.2.2.1
theorem no5 {s : stepE.ty} (hs : StepOk s) (h : decide (63 < ((s.2.2.2.2.1 : List UInt8).length : Int)) = true) : False := by
  have h1 := of_decide_eq_true h
  have h2 := hs.2.2.2.2.1
  omega
theorem no8 {x : stepE.ty} {l : List stepE.ty} (h : stepsF (List.take (Int.toNat (1 - 0)) (List.drop (Int.toNat 0) (x :: l))) [x] = false) : False := Bool.noConfusion (tick_steps.symm.trans h)
theorem no9 {x : stepE.ty} {l : List stepE.ty} (h : stepsF (List.take (((l.length + 1 : Nat) : Int) - 1).toNat (List.drop (Int.toNat 1) (x :: l))) l = false) : False := Bool.noConfusion (rest_steps.symm.trans h)
theorem no6 {s : stepE.ty} (hs : StepOk s) (h4 : decide ((s.1 : Int) = 4) = true) (h : decide ((s.2.2.1 : Int) < 1) = true) : False := Int.not_lt.2 (hs.2.2.2.2.2 (of_decide_eq_true h4)).1 (of_decide_eq_true h)
theorem no7 {s : stepE.ty} (hs : StepOk s) (h4 : decide ((s.1 : Int) = 4) = true) (h : decide (256 < (s.2.2.1 : Int)) = true) : False := Int.not_lt.2 (hs.2.2.2.2.2 (of_decide_eq_true h4)).2 (of_decide_eq_true h)
attribute [local irreducible] decodeF stepsF List.getD
@[reducible] def scriptParts_s : Spec where
  n := 0
  cs := []
  ar := [.el (.rd .u8), .el (.rd .u8), .el (.int .i64)]
  pre := fun (a, b, n, _) => -9223372036854775808 ≤ n ∧ n ≤ 9223372036854775807
  n' := 0
  cs' := []
  rs := [.el .bool]
  post := .fn fun _ => (true, ())
@[reducible] def scriptParts_a : Ann where
  nx := 0
  cs := []
  ss := [(1, .el (.rd .u8)), (2, .el iE), (25, .el (.rd stepE)), (26, .el iE), (27, .el iE)]
  inv := fun (b0, n0, x0, l0, _, _) (b, n, x, l, i, _) => b = b0 ∧ n = n0 ∧ x = x0 ∧ l = l0 ∧ 0 ≤ i ∧ i ≤ l ∧ l = x.length
  mu := fun (_, _, _, l, i, _) => (l - i).toNat
@[reducible] def scriptParts_h : Hints := ⟨[(1, (tks 0 10 (.last 10 false [7, 8, 9] (.last 11 false [] .done)))), (12, (tks 0 3 (.take 3 true (tks 4 5 (.last 9 false [5] (.last 10 false [] (.take 11 false (.take 12 true (tks 13 3 (.last 16 false [14] (.last 17 false [] (.take 18 false (.take 19 true (.last 20 false [] (tks 21 3 (.take 24 true (.last 25 false [] (.take 26 false (.last 27 false [] .done)))))))))))))))))))], [(4, scriptParts_a)], []⟩
@[reducible] noncomputable def scriptParts_e : Env := ⟨tys, [(8, decode_s.call), (14, within_s.call), (9, steps_s.call), (3, scriptRuns_s.call)]⟩
set_option maxHeartbeats 1000000 in
set_option maxRecDepth 100000 in
theorem scriptParts_d : denF scriptParts_e scriptParts_s scriptParts_h Tryd.f5 := by
  intro a b n
  intro hpre
  repeat' (first | (conv => whnf); first | done | exact True.intro | refine And.intro ?_ ?_ | refine Is.mk ?_ | (intro h; cases h; done) | (intro _))
  all_goals try dsimp only [maxLen, El.ty, El.dflt, scriptParts_a] at *
  all_goals obtain ⟨ta, hta, hla⟩ : ∃ t, List.take ((if 120 < (a.length : Int) then 120 else (a.length : Int)) - 0).toNat (List.drop (Int.toNat 0) a) = t ∧ t.length ≤ 120 := ⟨_, rfl, by rw [List.length_take]; split <;> omega⟩
  all_goals obtain ⟨tb, htb, hlb⟩ : ∃ t, List.take ((if 120 < (b.length : Int) then 120 else (b.length : Int)) - 0).toNat (List.drop (Int.toNat 0) b) = t ∧ t.length ≤ 120 := ⟨_, rfl, by rw [List.length_take]; split <;> omega⟩
  all_goals try simp only [hta, htb] at *
  all_goals repeat (with_reducible cases ‹_ ∧ _›)
  all_goals try subst_vars
  all_goals try simp only [decode_tick', decode_len0, tick_steps, rest_steps, List.length_cons, List.length_append, List.length_nil, decide_eq_true_eq, decide_eq_false_iff_not, reduceCtorEq] at *
  all_goals try (with_reducible assumption)
  all_goals try omega
  all_goals try (split <;> omega)
  all_goals try (rw [IntKind.wrap_i64]; omega)
  all_goals try (rw [IntKind.wrap_u8]; omega)
  all_goals try have hs := decode_at (d := (0, 0, 0, List.replicate 32 0, [], ())) (by assumption) (by assumption)
  all_goals first
    | exact no1 hs (by assumption)
    | exact no2 hs (by assumption)
    | exact no3 hs (by assumption)
    | exact no4 hs (by assumption)
    | exact no5 hs (by assumption)
    | exact no6 hs (by assumption) (by assumption)
    | exact no7 hs (by assumption) (by assumption)
    | exact absurd decode_len0 (by assumption)
    | exact no8 (by assumption)
    | exact no9 (by assumption)
    | skip
set_option maxRecDepth 100000 in
theorem scriptParts_p : (FnIs Tryd.prog 5 ∧ FnOk Tryd.prog 5 scriptParts_s) ∧ (idsOk scriptParts_s.cs && idsOk scriptParts_s.cs' && Nat.ble scriptParts_s.n scriptParts_s.n') = true :=
  fn_of (l := [(8, decode_s.call), (14, within_s.call), (9, steps_s.call), (3, scriptRuns_s.call)]) (hi := scriptParts_h) (S := scriptParts_s) (fn := Tryd.f5) (c := Tryd.f5.body.get!) tysOk mixOk ⟨.inl decode_m, .inl within_m, .inl steps_m, .inl scriptRuns_m, trivial⟩ (by kernel_rfl) (by kernel_rfl) (by kernel_rfl) (by kernel_rfl) (by kernel_rfl) scriptParts_d
theorem scriptParts_m : May Tryd.prog (5, scriptParts_s.call) := may_call scriptParts_p
theorem scriptParts_n : May Tryd.prog (5, scriptParts_s.callN) := may_callN scriptParts_p
theorem scriptParts_pre {a b : List UInt8} {n : Int} (_ : El.fits (.rd .u8) a) (_ : El.fits (.rd .u8) b) (h : -9223372036854775808 ≤ n ∧ n ≤ 9223372036854775807) : scriptParts_s.pre (a, b, n, ()) := h
end Go.J

