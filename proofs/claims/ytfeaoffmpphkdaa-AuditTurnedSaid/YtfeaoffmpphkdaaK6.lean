/-
  JOBBER: the engine and the functions of this claim, part 6.
-/
import Derived.Test.YtfeaoffmpphkdaaK5
import Derived.KernelRfl
import Derived.Tactics
import Derived.Tactics2
import Derived.Defers
import Derived.Laws.Pointers
import Derived.Laws.LoneSync
import Derived.RegionTactic
import Derived.RegionCalls
import Derived.ChangeAlike
import Derived.WalkKit
import Derived.Lib.Walk
import Derived.Lib.SliceRun
import Derived.Lib.AppendZerosOnto
import Derived.Below
import Derived.ProofKit
import Derived.OpenShut
import Derived.ShutString
import Derived.ChangeOld
import Derived.DataReads
import Derived.ChangeArms
set_option linter.unusedSimpArgs false
set_option linter.unusedVariables false
set_option linter.unusedSectionVars false
namespace Go.J
open Go.Proofs

theorem oDisable (w : World) : (callFunc 79 #[]).run Try.prog w = .ok (.value (.tuple #[])) w := run_call_mark0 Try.func79 (by kernel_rfl) (by kernel_rfl) (by kernel_rfl) .disable (by kernel_rfl) w
theorem oEnable (w : World) : (callFunc 81 #[]).run Try.prog w = .ok (.value (.tuple #[])) w := run_call_mark0 Try.func81 (by kernel_rfl) (by kernel_rfl) (by kernel_rfl) .enable (by kernel_rfl) w
theorem oAcquire (a : Addr) (w : World) : (callFunc 82 #[.pointer (some a)]).run Try.prog w = .ok (.value (.tuple #[])) w := run_call_marked Try.func82 (by kernel_rfl) (by kernel_rfl) (by kernel_rfl) .acquire (by kernel_rfl) a w
theorem oReleaseMerge (a : Addr) (w : World) : (callFunc 84 #[.pointer (some a)]).run Try.prog w = .ok (.value (.tuple #[])) w := run_call_marked Try.func84 (by kernel_rfl) (by kernel_rfl) (by kernel_rfl) .releaseMerge (by kernel_rfl) a w

set_option maxRecDepth 100000 in
set_option maxHeartbeats 1600000 in
theorem oStore (a : Addr) (x : Value) (u : FrameMode) (w : World) (hc : w.cell? a = some x) (hz : w.frozen? a = false) :
    CallsD Try.prog 74 #[.pointer (some a), .bool true] u w fun e u' w' => u' = u ∧ (e = .returned (.tuple #[]) ∧ w' = w.drew.setCell a (.int .u32 1)) := by
  have hc' : w.drew.cell? a = some x := by go_simp
  have hz' : w.drew.frozen? a = false := by go_simp
  have hst := run_call_store (P := Try.prog) Try.func77 (by kernel_rfl) (by kernel_rfl) (by kernel_rfl) (by kernel_rfl) (k := .u32) (y := 1) hc' hz'
  go_enter_d Try.func74, Try.ntmps74
  go_wp2
  go_region_calls
  all_goals (go_end0; exact ⟨rfl, rfl⟩)

set_option maxRecDepth 100000 in
set_option maxHeartbeats 1600000 in
theorem oUnlock (a : Addr) (u : FrameMode) (w : World) (hc : w.cell? a = some (.int .i32 1)) (hz : w.frozen? a = false) :
    CallsD Try.prog 73 #[.pointer (some a)] u w fun e u' w' => u' = u ∧ (e = .returned (.tuple #[]) ∧ w' = w.setCell a (.int .i32 0)) := by
  have hd := oDisable
  have he := oEnable
  have hr := oReleaseMerge
  have hadd := run_call_add (P := Try.prog) Try.func85 (by kernel_rfl) (by kernel_rfl) (by kernel_rfl) .i32 (by kernel_rfl) (y := -1) (s := 0) hc hz (by simp [go_sem]; rfl)
  have hcv := run_convert_to_unsafe (P := Try.prog) (src := 137) (dst := 141) Try.underlying137 Try.underlying141 (by kernel_rfl) hc
  go_enter_d Try.func73, Try.ntmps73
  go_wp2
  go_end0
  go_wp2
  go_end0
  exact ⟨rfl, rfl⟩

set_option maxRecDepth 100000 in
set_option maxHeartbeats 1600000 in
theorem oLock (a : Addr) (w : World) (hc : w.cell? a = some (.int .i32 0)) (hz : w.frozen? a = false) :
    Calls Try.prog 72 #[.pointer (some a)] w fun e w' => e = .returned (.tuple #[]) ∧ w' = w.setCell a (.int .i32 1) := by
  have hd := oDisable
  have he := oEnable
  have ha := oAcquire
  have hcas := run_call_cas_hit (P := Try.prog) Try.func80 (by kernel_rfl) (by kernel_rfl) (by kernel_rfl) .i32 (by kernel_rfl) (y := 1) hc hz
  have hc' : (w.setCell a (.int .i32 1)).cell? a = some (.int .i32 1) := World.cell?_setCell_same w a _ hc
  have hcv := run_convert_to_unsafe (P := Try.prog) (src := 137) (dst := 141) Try.underlying137 Try.underlying141 (by kernel_rfl) hc'
  go_enter Try.func72, Try.ntmps72
  go_wp2
  first | go_end0 | (simp only [Exit.inBlock, Exit.then]; refine bodyPost_ret (results_none rfl _ _ _) rfl ?_) | refine bodyPost_ret (results_none rfl _ _ _) rfl ?_
  go_wp2
  go_end0
  exact ⟨rfl, rfl⟩
end Go.J

set_option linter.unusedSimpArgs false
set_option linter.unusedVariables false
set_option linter.unusedSectionVars false
namespace Go.J
open Go.Proofs

def onceDone (p : List Stp) : List Stp := appPath (appPath p (.f 1 0)) (.f 1 0)
def onceState (p : List Stp) : List Stp := appPath (appPath (appPath p (.f 2 1)) (.f 1 0)) (.f 0 0)
theorem poff_appPath : ∀ (p : List Stp) (s : Stp), poff (appPath p s) = poff p + poff [s]
  | [], s => by simp [appPath, poff]
  | .f i o :: p, s => by simp only [appPath, poff]; rw [poff_appPath p s]; omega
  | .x i sz :: p, s => by simp only [appPath, poff]; rw [poff_appPath p s]; omega
theorem done_off (p : List Stp) : poff (onceDone p) = poff p := by unfold onceDone; rw [poff_appPath, poff_appPath]; rfl
theorem state_off (p : List Stp) : poff (onceState p) = poff p + 1 := by unfold onceState; rw [poff_appPath, poff_appPath, poff_appPath]; rfl
/-- (*sync.Once).doSlow: not yet done, the lock free, a function that captures one variable. -/
noncomputable def gSlow (F : Nat) (g : List T → Hp → Nat → (T → Hp → Nat → Prop) → Prop) (args : List T) (hp : Hp) (nx : Nat) (k : T → Hp → Nat → Prop) : Prop :=
  match args with
  | [.v (.ptr r p), .v (.fn f [q])] => match Nat.beq f F with
    | true => lookK hp r fun
      | .own t => tgetK (onceDone p) t fun
        | .v (.int .u32 d) => d = 0 ∧ tgetK (onceState p) t fun
          | .v (.int .i32 s) => s = 0 ∧ tsetK (onceState p) t (.v (.int .i32 1)) hp fun t1 => updK hp r (.own t1) fun hp1 => g [.v (.ptr q [])] hp1 nx fun _ hp2 nx2 => lookK hp2 r fun
            | .own t2 => tgetK (onceDone p) t2 fun
              | .v (.int .u32 _) => tsetK (onceDone p) t2 (.v (.int .u32 1)) hp2 fun t3 => updK hp2 r (.own t3) fun hp3 => lookK hp3 r fun
                | .own t5 => tgetK (onceState p) t5 fun
                  | .v (.int .i32 s') => s' = 1 ∧ tsetK (onceState p) t5 (.v (.int .i32 0)) hp3 fun t4 => updK hp3 r (.own t4) fun hp4 => k (.tup .nil) hp4 nx2
                  | _ => False
                | _ => False
              | _ => False
            | _ => False
          | _ => False
        | _ => False
      | _ => False
    | false => False
  | _ => False

set_option maxRecDepth 100000 in
set_option maxHeartbeats 3200000 in
theorem slow_ok {g : List T → Hp → Nat → (T → Hp → Nat → Prop) → Prop} (hF : CallOk Try.prog 64 g) : CallOk Try.prog 69 (gSlow 64 g) := by
  intro w0 F0 G hp nx args vs k hm hv h
  unfold gSlow at h
  split at h
  · next r p f q =>
    split at h
    · next hb0 =>
      obtain rfl := nat_beq_eq hb0
      obtain ⟨c, hc, h1⟩ := lookK_out h
      clear h hb0
      split at h1
      · next t =>
        match vs, hv with
        | [], hv => have := hv.1; simp at this
        | [_], hv => have := hv.1; simp at this
        | v1 :: v2 :: vs, hv =>
        obtain ⟨⟨b, hr, hbn, hv1⟩, hv'⟩ := frOk_cons.1 hv
        obtain ⟨⟨ps, hv2, hps⟩, hv''⟩ := frOk_cons.1 hv'
        have hvs : vs = [] := by have := hv''.1; simp at this; exact List.eq_nil_of_length_eq_zero this.symm
        subst hv1 hv2 hvs
        clear hv hv' hv''
        obtain ⟨x, h2, hx⟩ := ptr_at hm hc hr hbn h1
        clear h1
        split at h2
        · next d =>
          obtain ⟨rfl, h3⟩ := h2
          obtain ⟨u, hu, hvu⟩ := hx _ rfl
          obtain rfl : u = .int .u32 0 := hvu
          obtain ⟨x2, h4, hx2⟩ := ptr_at hm hc hr hbn h3
          split at h4
          · next s =>
            obtain ⟨rfl, h5⟩ := h4
            obtain ⟨u2, hu2, hvu2⟩ := hx2 _ rfl
            obtain rfl : u2 = .int .i32 0 := hvu2
            obtain ⟨hp1, h6, he1, hm1, hz1⟩ := ptr_set hm hc hr hbn (y := .int .i32 1) (u := .int .i32 1) rfl rfl h5
            rw [done_off] at hu
            rw [state_off] at hu2 hz1 he1 hm1
            obtain ⟨p1, ps', rfl, hq, rfl⟩ := hps
            have hcl := hF w0 F0 _ hp1 nx [.v (.ptr q [])] [p1] _ hm1 (frOk_cons.2 ⟨he1.vOk (x := .ptr q []) hq, ⟨rfl, fun i t h => by simp at h⟩⟩) h6
            have hl := run_call_load (P := Try.prog) Try.func71 (by kernel_rfl) (by kernel_rfl) (by kernel_rfl) .u32 (by kernel_rfl) (w := G.w.setCell ⟨b.blk, poff p + 1, none⟩ (.int .i32 1)) (a := ⟨b.blk, poff p, none⟩) (x := 0) ((World.cell?_setCell_other _ ⟨b.blk, poff p + 1, none⟩ ⟨b.blk, poff p, none⟩ _ (by simp)).trans hu)
            have hnot : ∀ (x : Bool) (w : World), (Op.unary .not (.bool x)).run Try.prog w = .ok (.bool (!x)) w := fun _ _ => rfl
            clear h5 h6 hx hx2 h3 hF
            go_enter_defers Try.func69, Try.ntmps69
            go_wp2_with (first | (go_at_call 68; go_in) | (go_at_call 72; refine (oLock ⟨b.blk, poff p + 1, none⟩ _ hu2 hz1).mono ?_; rintro e w' ⟨rfl, rfl⟩) | (go_at_call 64; refine hcl.mono ?_; rintro e w' ⟨G2, x5, v5, hp2, nx2, rfl, rfl, he2, hm2, hv5, h7⟩))
            have hr2 : G2.rho r = some b := he2.rho r b hr
            obtain ⟨c2, hc2, h8⟩ := lookK_out h7
            clear h7
            split at h8
            · next t2 =>
              obtain ⟨x6, h9, hx6⟩ := ptr_at hm2 hc2 hr2 hbn h8
              split at h9
              · next n =>
                obtain ⟨u3, hu3, hvu3⟩ := hx6 _ rfl
                obtain rfl : u3 = .int .u32 n := hvu3
                obtain ⟨hed, hmd⟩ := hm2.drew
                obtain ⟨hp3, h10, he3, hm3, hz3⟩ := ptr_set hmd hc2 hr2 hbn (y := .int .u32 1) (u := .int .u32 1) rfl rfl h9
                rw [done_off] at hu3 hz3 he3 hm3
                obtain ⟨c4, hc4, h11⟩ := lookK_out h10
                split at h11
                · next t5 =>
                  obtain ⟨x7, h12, hx7⟩ := ptr_at hm3 hc4 hr2 hbn h11
                  split at h12
                  · next s' =>
                    obtain ⟨rfl, h13⟩ := h12
                    obtain ⟨u4, hu4, hvu4⟩ := hx7 _ rfl
                    obtain rfl : u4 = .int .i32 1 := hvu4
                    obtain ⟨hp4, h14, he4, hm4, hz4⟩ := ptr_set hm3 hc4 hr2 hbn (y := .int .i32 0) (u := .int .i32 0) rfl rfl h13
                    rw [state_off] at hu4 hz4 he4 hm4
                    have hz3' : G2.w.frozen? ⟨b.blk, poff p, none⟩ = false := hz3
                    clear h8 h9 h10 h11 h13 hx6 hx7
                    refine leaves_cons (f := 74) (args := #[.pointer (some ⟨b.blk, poff p, none⟩), .bool true]) (by simp) (by simp [go_sem]) ?_
                    refine (oStore ⟨b.blk, poff p, none⟩ (.int .u32 n) .returning _ hu3 hz3').mono ?_
                    rintro e u' w'' ⟨rfl, rfl, rfl⟩
                    refine leaves_cons (f := 73) (args := #[.pointer (some ⟨b.blk, poff p + 1, none⟩)]) (by simp [settle]) (by simp [go_sem]) ?_
                    refine (oUnlock ⟨b.blk, poff p + 1, none⟩ _ _ hu4 hz4).mono ?_
                    rintro e u' w'' ⟨rfl, rfl, rfl⟩
                    simp [Leaves, settle, results, Try.results69]
                    exact ⟨_, rfl, he1.trans (he2.trans (hed.trans (he3.trans he4))), .tup .nil, hp4, nx2, hm4, ⟨[], rfl, rfl⟩, h14⟩
                  · exact h12.elim
                · exact h11.elim
              · exact h9.elim
            · exact h8.elim
          · exact h4.elim
        · exact h2.elim
      · exact h1.elim
    · exact h.elim
  · exact h.elim
theorem slow_may {g : List T → Hp → Nat → (T → Hp → Nat → Prop) → Prop} (hF : May Try.prog (64, g)) : May Try.prog (69, gSlow 64 g) :=
  ⟨⟨Try.f69, Try.func69, by kernel_rfl, by kernel_rfl⟩, slow_ok hF.2⟩
end Go.J

set_option linter.unusedSimpArgs false
set_option linter.unusedVariables false
set_option linter.unusedSectionVars false
namespace Go.J
open Go.Proofs

/-- (*sync.Once).Do of a function that captures one variable. -/
noncomputable def gDo (F : Nat) (g : List T → Hp → Nat → (T → Hp → Nat → Prop) → Prop) (args : List T) (hp : Hp) (nx : Nat) (k : T → Hp → Nat → Prop) : Prop :=
  match args with
  | [.v (.ptr r p), .v (.fn f cs)] => lookK hp r fun
    | .own t => tgetK (onceDone p) t fun
      | .v (.int .u32 d) => (d = 0 → gSlow F g [.v (.ptr r p), .v (.fn f cs)] hp nx k) ∧ (d ≠ 0 → k (.tup .nil) hp nx)
      | _ => False
    | _ => False
  | _ => False

theorem gSlow_k {F : Nat} {g : List T → Hp → Nat → (T → Hp → Nat → Prop) → Prop} {args : List T} {hp : Hp} {nx : Nat} {k : T → Hp → Nat → Prop} (h : gSlow F g args hp nx k) : gSlow F g args hp nx (fun _ hp nx => k (.tup .nil) hp nx) := by
  unfold gSlow at h ⊢
  exact h
set_option maxRecDepth 100000 in
set_option maxHeartbeats 3200000 in
theorem do_ok {g : List T → Hp → Nat → (T → Hp → Nat → Prop) → Prop} (hF : CallOk Try.prog 64 g) : CallOk Try.prog 63 (gDo 64 g) := by
  intro w0 F0 G hp nx args vs k hm hv h
  unfold gDo at h
  split at h
  · next r p f cs =>
    obtain ⟨c, hc, h1⟩ := lookK_out h
    clear h
    split at h1
    · next t =>
      match vs, hv with
      | [], hv => have := hv.1; simp at this
      | [_], hv => have := hv.1; simp at this
      | v1 :: v2 :: vs, hv =>
      have hv0 := hv
      obtain ⟨⟨b, hr, hbn, hv1⟩, hv'⟩ := frOk_cons.1 hv
      obtain ⟨hv2, hv''⟩ := frOk_cons.1 hv'
      have hvs : vs = [] := by have := hv''.1; simp at this; exact List.eq_nil_of_length_eq_zero this.symm
      subst hv1 hvs
      obtain ⟨x, h2, hx⟩ := ptr_at hm hc hr hbn h1
      clear h1
      split at h2
      · next d =>
        obtain ⟨h3, h4⟩ := h2
        obtain ⟨u, hu, hvu⟩ := hx _ rfl
        obtain rfl : u = .int .u32 d := hvu
        rw [done_off] at hu
        have hl := run_call_load (P := Try.prog) Try.func71 (by kernel_rfl) (by kernel_rfl) (by kernel_rfl) .u32 (by kernel_rfl) hu
        have hnot : ∀ (x : Bool) (w : World), (Op.unary .not (.bool x)).run Try.prog w = .ok (.bool (!x)) w := fun _ _ => rfl
        by_cases hd : d = 0
        · subst hd
          have hsl := slow_ok hF w0 F0 G hp nx _ _ _ hm hv0 (gSlow_k (h3 rfl))
          clear h3 h4 hx hv hv' hv'' hF hv0
          go_enter Try.func63, Try.ntmps63
          go_wp2_with (first | (go_at_call 68; go_in) | (go_at_call 69; refine hsl.mono ?_; rintro e w' ⟨G2, x5, v5, hp2, nx2, rfl, rfl, he2, hm2, hv5, h7⟩))
          go_end0
          exact ⟨G2, .tup .nil, _, hp2, nx2, rfl, rfl, he2, hm2, ⟨[], rfl, rfl⟩, h7⟩
        · have hk := h4 hd
          have hd' : (d != 0) = true := by simp [hd]
          clear h3 h4 hx hv hv' hv'' hF hv0
          go_enter Try.func63, Try.ntmps63
          go_wp2
          go_end0
          exact ⟨G, .tup .nil, _, hp, nx, rfl, rfl, Ext.refl G, hm, ⟨[], rfl, rfl⟩, hk⟩
      · exact h2.elim
    · exact h1.elim
  · exact h.elim
theorem do_may {g : List T → Hp → Nat → (T → Hp → Nat → Prop) → Prop} (hF : May Try.prog (64, g)) : May Try.prog (63, gDo 64 g) :=
  ⟨⟨Try.f63, Try.func63, by kernel_rfl, by kernel_rfl⟩, do_ok hF.2⟩
end Go.J

set_option linter.unusedSimpArgs false
set_option linter.unusedVariables false
set_option linter.unusedSectionVars false
namespace Go.J
open Go.Proofs

@[reducible] noncomputable def ready1_c := inl ⟨tys, [(65, words_s.call)]⟩ ⟨[(0, (.take 0 false (.last 1 false [0] (tks 2 2 (.last 4 false [] .done)))))], [], []⟩ Try.f64 Try.f64.body.get!
theorem ready1_m : May Try.prog (64, ready1_c) :=
  may_inl tysOk mixOk ⟨.inl words_m, trivial⟩ (by kernel_rfl) (by kernel_rfl) (by kernel_rfl) (by kernel_rfl)
@[reducible] noncomputable def odo_c := gDo 64 ready1_c
theorem odo_m : May Try.prog (63, odo_c) := do_may ready1_m
@[reducible] noncomputable def ready_c := inl ⟨tys, [(63, odo_c)]⟩ ⟨[], [], []⟩ Try.f61 Try.f61.body.get!
theorem ready_m : May Try.prog (61, ready_c) :=
  may_inl tysOk mixOk ⟨.inl odo_m, trivial⟩ (by kernel_rfl) (by kernel_rfl) (by kernel_rfl) (by kernel_rfl)
@[reducible] noncomputable def shaNew_c := inl ⟨tys, [(60, first_s.call)]⟩ ⟨[], [], []⟩ Try.f53 Try.f53.body.get!
theorem shaNew_m : May Try.prog (53, shaNew_c) :=
  may_inl tysOk mixOk ⟨.inl first_m, trivial⟩ (by kernel_rfl) (by kernel_rfl) (by kernel_rfl) (by kernel_rfl)
@[reducible] def onceE : El := .cons .nil (.cons (.cons .nil (.cons u32E .nil)) (.cons (.cons .nil (.cons (.cons (.int .i32) (.cons u32E .nil)) .nil)) .nil))
def onceT (done : Int) : onceE.ty := ((), ((), done, ()), ((), (0, 0, ()), ()), ())
/-- A hash: its bytes are not written. -/
@[reducible] def hashSh : Sh := .cons (.el onceE) (.cons (.el a64) (.cons (.el a8) (.cons (.el (.rd .u8)) (.cons (.el iE) .nil))))
/-- A hash whose bytes are its own. -/
@[reducible] def hashO (q : Nat) : Sh := .cons (.el onceE) (.cons (.el a64) (.cons (.el a8) (.cons (.own q) (.cons (.el iE) .nil))))
/-- Blocks are mixed into a state, as long as there are. -/
def absorb (s : List Int) (xs : List UInt8) : List Int × List UInt8 :=
  if 64 ≤ xs.length then absorb (mixW s kW (xs.take 64)) (xs.drop 64) else (s, xs)
termination_by xs.length
decreasing_by rw [List.length_drop]; omega
theorem absorb_step {s : List Int} {xs : List UInt8} (h : 64 ≤ xs.length) : absorb s xs = absorb (mixW s kW (xs.take 64)) (xs.drop 64) := by
  rw [absorb, if_pos h]
theorem absorb_done {s : List Int} {xs : List UInt8} (h : xs.length < 64) : absorb s xs = (s, xs) := by
  rw [absorb, if_neg (by omega)]

@[reducible] def hwrite_s : Spec where
  n := 2
  cs := [(0, .own (hashO 1)), (1, .row 5 .u8)]
  ar := [.ref 0, .lend .u8]
  pre := fun ((_, (_, done, _), (_, (st, _, _), _), _), k, s, n, ys, xs, _) => (done = 0 ∧ st = 0 ∧ k.length = 64 ∨ done = 1 ∧ k = kW) ∧ s.length = 8 ∧ ys.length ≤ 1000000000 ∧ xs.length ≤ 1000000000 ∧ 0 ≤ n ∧ n ≤ 1000000000000
  n' := 3
  cs' := [(0, .own (hashO 2)), (2, .row 5 .u8)]
  rs := []
  post := .fn fun ((_, (_, done, _), (_, (st, sema, _), _), _), k, s, n, ys, xs, _) => (((), ((), 1, ()), ((), (st, sema, ()), ()), ()), kW, (absorb s (ys ++ xs)).1, n + xs.length, (absorb s (ys ++ xs)).2, ())
@[reducible] def hwrite_a : Ann where
  nx := 2
  cs := [(0, .own hashSh)]
  ss := [(0, .ref 0)]
  inv := fun (o0, k0, s0, xs0, n0, _) (o, k, s, xs, n, _) => o = o0 ∧ k = k0 ∧ n = n0 ∧ s.length = 8 ∧ absorb s xs = absorb s0 xs0 ∧ xs.length ≤ xs0.length
  mu := fun (_, _, _, xs, _, _) => xs.length
theorem cut64 (xs : List UInt8) : List.take ((64 : Int) - 0).toNat (List.drop (Int.toNat 0) xs) = xs.take 64 := rfl
theorem rest64 (xs : List UInt8) : List.take ((xs.length : Int) - 64).toNat (List.drop (Int.toNat 64) xs) = xs.drop 64 := by
  rw [show Int.toNat 64 = 64 from rfl, List.take_of_length_le]
  rw [List.length_drop]
  omega
@[reducible] def hwrite_h : Hints := ⟨[(4, (tks 0 13 (.last 13 false [] (tks 14 2 (.last 16 false [] .done)))))], [(3, hwrite_a)], []⟩
@[reducible] noncomputable def hwrite_e : Env := ⟨tys, [(61, ready_c), (62, mixed_s.call)]⟩
set_option maxHeartbeats 1000000 in
set_option maxRecDepth 100000 in
theorem hwrite_d : denF hwrite_e hwrite_s hwrite_h Try.f54 := by
  intro done st sema k s n ys xs
  intro hpre
  dsimp only [hwrite_s] at hpre
  obtain ⟨hd, hs, hy, hx, hn0, hn1⟩ := hpre
  rcases hd with ⟨rfl, rfl, hk⟩ | ⟨rfl, rfl⟩
  all_goals repeat' (first | (conv => whnf); first | done | exact True.intro | refine And.intro ?_ ?_ | refine Is.mk ?_ | (intro h; cases h; done) | (intro _))
  all_goals try dsimp only [maxLen, El.ty, El.dflt, hwrite_a, hwrite_s] at *
  all_goals repeat (with_reducible cases ‹_ ∧ _›)
  all_goals try subst_vars
  all_goals try simp only [cut64, rest64, IntKind.wrap_i64, decide_eq_true_eq, decide_eq_false_iff_not, List.length_append, List.length_drop, List.length_take] at *
  all_goals try first
    | omega
    | (with_reducible rfl)
    | (rw [mixW_len (by assumption)]; done)
    | (rw [← absorb_step (by omega)]; assumption)
  all_goals first
    | exact (rfl : kW.length = 64)
    | (rename absorb _ _ = _ => h; rw [← h, absorb_done (by omega)])
set_option maxRecDepth 100000 in
theorem hwrite_p : (FnIs Try.prog 54 ∧ FnOk Try.prog 54 hwrite_s) ∧ (idsOk hwrite_s.cs && idsOk hwrite_s.cs' && Nat.ble hwrite_s.n hwrite_s.n') = true :=
  fn_of (l := [(61, ready_c), (62, mixed_s.call)]) (hi := hwrite_h) (S := hwrite_s) (fn := Try.f54) (c := Try.f54.body.get!) tysOk mixOk ⟨.inl ready_m, .inl mixed_m, trivial⟩ (by kernel_rfl) (by kernel_rfl) (by kernel_rfl) (by kernel_rfl) (by kernel_rfl) hwrite_d
theorem hwrite_m : May Try.prog (54, hwrite_s.call) := may_call hwrite_p
theorem hwrite_n : May Try.prog (54, hwrite_s.callN) := may_callN hwrite_p
end Go.J

set_option linter.unusedSimpArgs false
set_option linter.unusedVariables false
set_option linter.unusedSectionVars false
namespace Go.J
open Go.Proofs

def padW (xs : List UInt8) : List UInt8 := xs ++ List.replicate ((120 - xs.length % 64) % 64) 0
def byteO (x : Int) (n : Nat) : UInt8 := UInt8.ofNat (IntKind.u8.wrap (x.fdiv (2 ^ min n IntKind.u32.bits))).toNat
def outW (s : List Int) (o : List UInt8) (i : Nat) : List UInt8 :=
  (((o.set (4 * i) (byteO (s.getD i 0) 24)).set (4 * i + 1) (byteO (s.getD i 0) 16)).set (4 * i + 2) (byteO (s.getD i 0) 8)).set (4 * i + 3) (UInt8.ofNat (IntKind.u8.wrap (s.getD i 0)).toNat)
def outs (s : List Int) (n : Nat) : List UInt8 := (List.range n).foldl (outW s) (List.replicate 32 0)
theorem outs_succ (s : List Int) (n : Nat) : outs s (n + 1) = outW s (outs s n) n := by
  unfold outs
  rw [List.range_succ, List.foldl_append, List.foldl_cons, List.foldl_nil]
theorem outs_len (s : List Int) : ∀ n, (outs s n).length = 32
  | 0 => by simp [outs]
  | n + 1 => by rw [outs_succ, outW, List.length_set, List.length_set, List.length_set, List.length_set]; exact outs_len s n
/-- The digest of a state, the bytes that are left, how many there were. -/
def sumF (s : List Int) (ys : List UInt8) (n : Int) : List UInt8 := outs (absorb s (padW (ys ++ [128]) ++ be 8 (n % 18446744073709551616 * 8 % 18446744073709551616))).1 8
theorem sumF_len (s : List Int) (ys : List UInt8) (n : Int) : (sumF s ys n).length = 32 := outs_len _ _

theorem tm64 (n : Nat) : (n : Int).tmod 64 = ((n % 64 : Nat) : Int) := by
  rw [Int.tmod_eq_emod_of_nonneg (Int.natCast_nonneg n)]
  omega
theorem padW_step {xs : List UInt8} (h : ¬ xs.length % 64 = 56) : padW (xs ++ [UInt8.ofNat (Int.toNat 0)]) = padW xs := by
  unfold padW
  rw [List.length_append, List.length_singleton, List.append_assoc]
  congr 1
  have e : (120 - xs.length % 64) % 64 = (120 - (xs.length + 1) % 64) % 64 + 1 := by omega
  rw [e, List.replicate_succ]
  rfl
theorem padW_done {xs : List UInt8} (h : xs.length % 64 = 56) : padW xs = xs := by
  unfold padW
  rw [h]
  simp
theorem pow_8 : ∀ i : Fin 8, (2 : Int) ^ min (IntKind.u64.wrap (8 * (i.1 : Int))).toNat IntKind.u64.bits = 256 ^ i.1 := by decide
theorem byte_at {b i : Int} (h0 : 0 ≤ i) (h1 : i ≤ 7) : UInt8.ofNat (IntKind.u8.wrap (b.fdiv (2 ^ min (IntKind.u64.wrap (8 * i)).toNat IntKind.u64.bits))).toNat = UInt8.ofNat (b / 256 ^ i.toNat % 256).toNat := by
  have h := pow_8 ⟨i.toNat, by omega⟩
  simp only [show ((i.toNat : Nat) : Int) = i by omega] at h
  rw [h, IntKind.wrap_u8, Int.fdiv_eq_ediv_of_nonneg _ (Int.le_of_lt (Int.pow_pos (by decide)))]
theorem byte_in (x : Int) : 0 ≤ IntKind.u8.wrap x ∧ IntKind.u8.wrap x < 256 := by rw [IntKind.wrap_u8]; omega
@[reducible] def hsum_s : Spec where
  n := 2
  cs := [(0, .own (hashO 1)), (1, .row 5 .u8)]
  ar := [.ref 0]
  pre := fun ((_, (_, done, _), _, _), k, s, n, ys, _) => done = 1 ∧ k = kW ∧ s.length = 8 ∧ ys.length ≤ 1000000000 ∧ 0 ≤ n ∧ n ≤ 1000000000000
  n' := 2
  cs' := [(0, .own (hashO 1)), (1, .row 5 .u8)]
  rs := [.el (.ar 32 .u8)]
  post := .fn fun (o, k, s, n, ys, _) => (o, k, s, n, ys, sumF s ys n, ())
@[reducible] def hsumA : Ann where
  nx := 4
  cs := [(0, .own (hashO 1)), (1, .row 5 .u8), (2, .own (.el (.ar 32 .u8))), (3, .row 5 .u8)]
  ss := [(0, .ref 0), (2, .ref 2), (3, .own 3)]
  inv := fun (o0, k0, s0, n0, ys0, r0, xs0, _) (o, k, s, n, ys, r, xs, _) => o = o0 ∧ k = k0 ∧ s = s0 ∧ n = n0 ∧ ys = ys0 ∧ padW xs = padW xs0 ∧ xs.length + (120 - xs.length % 64) % 64 = xs0.length + (120 - xs0.length % 64) % 64
  mu := fun (_, _, _, _, _, _, xs, _) => (120 - xs.length % 64) % 64
@[reducible] def hsumB : Ann where
  nx := 4
  cs := [(0, .own (hashO 1)), (1, .row 5 .u8), (2, .own (.el (.ar 32 .u8))), (3, .row 5 .u8)]
  ss := [(0, .ref 0), (2, .ref 2), (3, .own 3), (4, .el (.int .u64)), (5, .el iE)]
  inv := fun (o0, k0, s0, n0, ys0, r0, xs0, b0, i0, _) (o, k, s, n, ys, r, xs, b, i, _) => o = o0 ∧ k = k0 ∧ s = s0 ∧ n = n0 ∧ ys = ys0 ∧ b = b0 ∧ -1 ≤ i ∧ i ≤ i0 ∧ xs ++ be (i + 1).toNat b = xs0 ++ be (i0 + 1).toNat b0
  mu := fun (_, _, _, _, _, _, _, _, i, _) => (i + 1).toNat
@[reducible] def hsumC : Ann where
  nx := 5
  cs := [(0, .own (hashO 1)), (1, .row 5 .u8), (2, .own (.el (.ar 32 .u8))), (4, .own (.el a8))]
  ss := [(0, .ref 0), (2, .ref 2), (3, .el (.rd .u8)), (6, .ref 4)]
  inv := fun (o0, k0, s0, n0, ys0, r0, t0, xs0, _) (o, k, s, n, ys, r, t, xs, _) => o = o0 ∧ k = k0 ∧ s = s0 ∧ n = n0 ∧ ys = ys0 ∧ t.length = 8 ∧ xs.length % 64 = 0 ∧ absorb t xs = absorb t0 xs0
  mu := fun (_, _, _, _, _, _, _, xs, _) => xs.length
@[reducible] def hsumD : Ann where
  nx := 6
  cs := [(0, .own (hashO 1)), (1, .row 5 .u8), (2, .own (.el (.ar 32 .u8))), (5, .own (.el (.ar 32 .u8)))]
  ss := [(2, .ref 2), (7, .ref 5), (62, .el a8), (63, .el iE)]
  inv := fun (o0, k0, s0, n0, ys0, r0, u0, t0, _, _) (o, k, s, n, ys, r, u, t, i, _) => o = o0 ∧ k = k0 ∧ s = s0 ∧ n = n0 ∧ ys = ys0 ∧ t = t0 ∧ 0 ≤ i ∧ i ≤ 8 ∧ u = outs t0 i.toNat
  mu := fun (_, _, _, _, _, _, _, _, i, _) => (8 - i).toNat
@[reducible] def hsum_h : Hints := ⟨[(14, (tks 0 6 (.last 6 false [] (.last 7 false [] .done))))], [(4, hsumA), (8, hsumB), (12, hsumC), (17, hsumD)], []⟩
@[reducible] noncomputable def hsum_e : Env := ⟨tys, [(61, ready_c), (62, mixed_s.call)]⟩
set_option maxHeartbeats 1000000 in
set_option maxRecDepth 100000 in
theorem hsum_d : denF hsum_e hsum_s hsum_h Try.f55 := by
  intro done st sema k s n ys
  intro hpre
  dsimp only [hsum_s] at hpre
  obtain ⟨rfl, rfl, hs, hy, hn0, hn1⟩ := hpre
  all_goals repeat' (first | (conv => whnf); first | done | exact True.intro | refine And.intro ?_ ?_ | refine Is.mk ?_ | (intro h; cases h; done) | (intro _))
  all_goals try dsimp only [maxLen, El.ty, El.dflt, hsumA, hsumB, hsumC, hsumD, hsum_s] at *
  all_goals repeat (with_reducible cases ‹_ ∧ _›)
  all_goals try subst_vars
  all_goals try simp only [cut64, rest64, tm64, IntKind.wrap_i64, Bool.not_eq_true', Bool.not_eq_false', decide_eq_true_eq, decide_eq_false_iff_not, List.length_append, List.length_drop, List.length_take, List.length_cons, List.length_nil] at *
  all_goals try first
    | omega
    | (with_reducible rfl)
    | exact (byte_in _).1
    | exact (byte_in _).2
    | exact (rfl : kW.length = 64)
    | (simp only [List.length_set, outs_len]; omega)
    | (rw [mixW_len (by assumption)]; done)
    | (rw [← absorb_step (by omega)]; assumption)
    | (rw [IntKind.wrap_u64]; omega)
    | (rw [padW_step (by omega)]; assumption)
  all_goals try (rename _ ++ be _ _ = _ => h; have hl := congrArg List.length h; simp only [List.length_append, be_length] at hl; omega)
  · rename Int => i
    rename _ ++ be _ _ = _ => h
    rw [show ((i - 1 + 9223372036854775808) % 18446744073709551616 - 9223372036854775808 + 1).toNat = i.toNat by omega, show (8 * i + 9223372036854775808) % 18446744073709551616 - 9223372036854775808 = 8 * i by omega, byte_at (by omega) (by omega), List.append_assoc, ← h, show (i + 1).toNat = i.toNat + 1 by omega]
    rfl
  · rfl
  · rename Int => i
    rw [show ((4 * i + 9223372036854775808) % 18446744073709551616 - 9223372036854775808).toNat = 4 * i.toNat by omega,
      show (((4 * i + 9223372036854775808) % 18446744073709551616 - 9223372036854775808 + 1 + 9223372036854775808) % 18446744073709551616 - 9223372036854775808).toNat = 4 * i.toNat + 1 by omega,
      show (((4 * i + 9223372036854775808) % 18446744073709551616 - 9223372036854775808 + 2 + 9223372036854775808) % 18446744073709551616 - 9223372036854775808).toNat = 4 * i.toNat + 2 by omega,
      show (((4 * i + 9223372036854775808) % 18446744073709551616 - 9223372036854775808 + 3 + 9223372036854775808) % 18446744073709551616 - 9223372036854775808).toNat = 4 * i.toNat + 3 by omega,
      show ((i + 1 + 9223372036854775808) % 18446744073709551616 - 9223372036854775808).toNat = i.toNat + 1 by omega, outs_succ]
    rfl
  · refine Eq.trans (by assumption) (Eq.trans (by assumption) (Eq.trans (by assumption) (by assumption)))
  · rename absorb _ _ = absorb _ _ => ha
    rename _ ++ be _ _ = _ ++ _ => hb
    rename padW _ = padW _ => hp
    rename Int => i
    have hz : ∀ j : Int, ¬ 0 ≤ j → -1 ≤ j → (j + 1).toNat = 0 := by omega
    rw [hz _ (by assumption) (by assumption), show ∀ b, be 0 b = [] from fun _ => rfl, List.append_nil] at hb
    rw [absorb_done (by omega), hb] at ha
    rw [padW_done (by omega)] at hp
    rw [hp, IntKind.wrap_u64, IntKind.wrap_u64] at ha
    have ht := congrArg Prod.fst ha
    dsimp only at ht
    rw [ht, show i.toNat = 8 by omega]
    rfl
set_option maxRecDepth 100000 in
theorem hsum_p : (FnIs Try.prog 55 ∧ FnOk Try.prog 55 hsum_s) ∧ (idsOk hsum_s.cs && idsOk hsum_s.cs' && Nat.ble hsum_s.n hsum_s.n') = true :=
  fn_of (l := [(61, ready_c), (62, mixed_s.call)]) (hi := hsum_h) (S := hsum_s) (fn := Try.f55) (c := Try.f55.body.get!) tysOk mixOk ⟨.inl ready_m, .inl mixed_m, trivial⟩ (by kernel_rfl) (by kernel_rfl) (by kernel_rfl) (by kernel_rfl) (by kernel_rfl) hsum_d
theorem hsum_m : May Try.prog (55, hsum_s.call) := may_call hsum_p
theorem hsum_n : May Try.prog (55, hsum_s.callN) := may_callN hsum_p
end Go.J

set_option linter.unusedSimpArgs false
set_option linter.unusedVariables false
set_option linter.unusedSectionVars false
namespace Go.J
open Go.Proofs Go.RowKit Go.Lib

theorem byte_info : ∃ i : TypeInfo, Try.prog.info? 5 = some i ∧ i.size = 1 ∧ i.bytes = 1 ∧ i.zero = some (.int .u8 0) := by
  have h1 : (Try.prog.info? 5).map (fun i => (i.size, i.bytes)) = some (1, 1) := by kernel_rfl
  have h2 : (Try.prog.info? 5).bind (fun i => i.zero) = some (.int .u8 0) := by kernel_rfl
  obtain ⟨i, hi, h3⟩ := Option.map_eq_some_iff.1 h1
  rw [hi] at h2
  simp only [Prod.mk.injEq] at h3
  exact ⟨i, hi, h3.1, h3.2, h2⟩
set_option maxHeartbeats 4000000 in
set_option maxRecDepth 100000 in
theorem grow_more (n : Nat) (w : World) (h0 : 0 < n) (hn : n ≤ 1000000000000) :
    Calls Try.prog 45 #[.slice none 0 0, .int .i64 n] w fun e w' => ∃ cap cells, n ≤ cap ∧ cap ≤ maxLen ∧ cells.size = cap ∧ e = .returned (.slice (some ⟨w.heap.size, 0, none⟩) 0 cap) ∧
      w' = w.drew.alloc (.cells cells 5) := by
  obtain ⟨i0, hi0, hs0, hb0, hz0⟩ := byte_info
  have hold : (Builtin.firstCells i0.size 0 (.slice none 0 0)).run Try.prog w.drew = .ok (([] : List Value).toArray) w.drew := run_firstCells_none w.drew i0.size 0 0 0
  have hrz : ∀ ty, (Builtin.append_ #[31, 3] ty #[.slice none 0 0, .int .i64 n]).run Try.prog w =
      .ok (.slice (some ⟨w.heap.size, 0, none⟩) n (grownCap w n 0 5)) (w.drew.alloc (.cells (([] : List Value).toArray ++ Builtin.zeroCells (Value.cells (.int .u8 0)) n ++ Builtin.zeroCells (Value.cells (.int .u8 0)) (grownCap w n 0 5 - n)) 5)) := fun ty => by
    have h := Lib.run_append_grow_zeros w 31 3 ty 5 i0 (.int .u8 0) .i64 .i64 Try.underlying31 Try.underlying3 hi0 hz0 none 0 0 [] hold n h0 (by omega) (by omega) (by omega)
      (by rw [hb0]; omega)
      (by exact growslice_fits (by omega) (by rw [hb0]; omega))
    rw [Nat.zero_add] at h
    exact h
  have hGn : n ≤ grownCap w n 0 5 := grownCap_ge w _ _ _
  have hGm : grownCap w n 0 5 ≤ maxLen := grownCap_le_maxLen w n 0 5 (by unfold maxLen; omega)
  obtain ⟨K, hK⟩ : ∃ K, K = grownCap w n 0 5 := ⟨_, rfl⟩
  rw [← hK] at hrz hGn hGm
  have hG63 : K ≤ 9223372036854775807 := by unfold maxLen at hGm; omega
  have h1 : ¬ ((n : Int) < 0) := by omega
  have h3 : wrap64 ((n : Int) - 0) = (n : Int) := by unfold wrap64; omega
  have h4 : (n : Int) > 0 := by omega
  obtain ⟨cells, hc⟩ : ∃ cells, cells = ([] : List Value).toArray ++ Builtin.zeroCells (Value.cells (.int .u8 0)) n ++ Builtin.zeroCells (Value.cells (.int .u8 0)) (K - n) := ⟨_, rfl⟩
  have hcs : cells.size = K := by
    rw [hc]
    simp [Builtin.zeroCells, Value.cells]
    omega
  rw [← hc] at hrz
  clear hold hc hK
  go_enter Try.func45, Try.ntmps45
  go_wp2_with (at_builtin; refine Lib.wpList_append_run _ rfl _ _ _ _ rfl _ _ rfl rfl _ _ (hrz _) ?_)
  all_goals (go_ret; first | exact ⟨K, hGn, hGm, cells, hcs, rfl, rfl⟩ | exact ⟨K, cells, hGn, hGm, hcs, rfl, rfl⟩)
set_option maxHeartbeats 4000000 in
set_option maxRecDepth 100000 in
theorem grow_none (w : World) : Calls Try.prog 45 #[.slice none 0 0, .int .i64 0] w fun e w' => e = .returned (.slice none 0 0) ∧ w' = w := by
  have h3 : wrap64 ((0 : Int) - 0) = 0 := by unfold wrap64; omega
  go_enter Try.func45, Try.ntmps45
  go_wp2
  go_ret
  exact ⟨rfl, rfl⟩

/-- slices.Grow of the nil slice: a slice of no bytes. -/
noncomputable def gGrow (args : List T) (hp : Hp) (nx : Nat) (k : T → Hp → Nat → Prop) : Prop :=
  match args with
  | [.v .nils, .v (.int .i64 n)] => (0 ≤ n ∧ n ≤ 1000000000000) ∧ lappK hp [(nx, .row 5 .u8 [])] fun hp => k (.v (.own nx)) hp (nx + 1)
  | _ => False
theorem grow_ok : CallOk Try.prog 45 gGrow := by
  intro w0 F0 G hp nx args vs k hm hv h
  unfold gGrow at h
  split at h
  · next n =>
    obtain ⟨⟨h0, h1⟩, h2⟩ := h
    match vs, hv with
    | [], hv => have := hv.1; simp at this
    | [_], hv => have := hv.1; simp at this
    | v1 :: v2 :: vs, hv =>
    obtain ⟨hv1, hv'⟩ := frOk_cons.1 hv
    obtain ⟨hv2, hv''⟩ := frOk_cons.1 hv'
    have hvs : vs = [] := by have := hv''.1; simp at this; exact List.eq_nil_of_length_eq_zero this.symm
    obtain rfl : v1 = .slice none 0 0 := hv1
    obtain rfl : v2 = .int .i64 n := hv2
    subst hvs
    have h2 := lappK_out h2
    obtain ⟨m, rfl⟩ : ∃ m : Nat, n = (m : Int) := ⟨n.toNat, by omega⟩
    by_cases hm0 : m = 0
    · subst hm0
      refine (grow_none G.w).mono ?_
      rintro e w' ⟨rfl, rfl⟩
      obtain ⟨G', x1, x2, x3, x4⟩ := hm.new (w' := G.w) rfl rfl rfl (Nat.le_refl _) (fun _ _ => rfl) (.row 5 .u8 []) ⟨0, true, 0, 0⟩ (by simp)
        (fun G' _ _ _ => ⟨rfl, by simp, [], ⟨by simp, .inl ⟨rfl, rfl⟩⟩, rfl⟩) rfl
      exact ⟨G', .v (.own nx), _, _, _, rfl, x2, x1, x4, ⟨_, x3, rfl⟩, h2⟩
    · refine (grow_more m G.w (by omega) (by omega)).mono ?_
      rintro e w' ⟨cap, cells, hc1, hc2, hc3, rfl, rfl⟩
      obtain ⟨G', x1, x2, x3, x4⟩ := hm.new (w' := G.w.drew.alloc (.cells cells 5)) rfl rfl rfl (by simp) (fun b hb => by show (G.w.heap.push _)[b]? = _; rw [Array.getElem?_push, if_neg (by omega)]) (.row 5 .u8 []) ⟨G.w.heap.size, false, 0, cap⟩ (by simp)
        (fun G' hx hw _ => ⟨rfl, hc2, [], ⟨by simp, .inr ⟨G.w.heap.size, cap, cells, rfl, Nat.zero_le _, by rw [hw]; show (G.w.heap.push _)[G.w.heap.size]? = _; simp, Nat.zero_le _, hc2, by rw [hc3]; exact (Nat.mul_one _).symm, by simp⟩⟩, rfl⟩) rfl
      exact ⟨G', .v (.own nx), _, _, _, rfl, x2, x1, x4, ⟨_, x3, rfl⟩, h2⟩
  · exact h.elim
theorem grow_may : May Try.prog (45, gGrow) :=
  ⟨⟨Try.f45, Try.func45, by kernel_rfl, by kernel_rfl⟩, grow_ok⟩
end Go.J

set_option linter.unusedSimpArgs false
set_option linter.unusedVariables false
set_option linter.unusedSectionVars false
namespace Go.J
open Go.Proofs

theorem absorb_len : ∀ (n : Nat) (s : List Int) (xs : List UInt8), xs.length ≤ n → s.length = 8 → (absorb s xs).1.length = 8 ∧ (absorb s xs).2.length < 64 := by
  intro n
  induction n with
  | zero =>
    intro s xs h hs
    rw [absorb_done (by omega)]
    exact ⟨hs, by show xs.length < 64; omega⟩
  | succ n ih =>
    intro s xs h hs
    by_cases hl : 64 ≤ xs.length
    · rw [absorb_step hl]
      exact ih _ _ (by rw [List.length_drop]; omega) (mixW_len hs)
    · rw [absorb_done (by omega)]
      exact ⟨hs, by show xs.length < 64; omega⟩
theorem first_len : firstW.length = 8 := rfl
theorem sum_len0 (xs : List UInt8) : (absorb firstW ([] ++ xs)).1.length = 8 := (absorb_len _ _ _ (Nat.le_refl _) first_len).1
theorem rest_len0 (xs : List UInt8) : (absorb firstW ([] ++ xs)).2.length ≤ 1000000000 := by
  have := (absorb_len _ firstW ([] ++ xs) (Nat.le_refl _) first_len).2
  omega
/-- The digest of bytes. -/
def shaF (xs : List UInt8) : List UInt8 := sumF (absorb firstW xs).1 (absorb firstW xs).2 xs.length
theorem shaF_len (xs : List UInt8) : (shaF xs).length = 32 := sumF_len _ _ _
@[reducible] def sha_s : Spec where
  n := 0
  cs := []
  ar := [.lend .u8]
  pre := fun (xs, _) => xs.length ≤ 1000000000
  n' := 0
  cs' := []
  rs := [.el (.ar 32 .u8)]
  post := .fn fun (xs, _) => (shaF xs, ())
@[reducible] def sha_h : Hints := ⟨[], [], []⟩
@[reducible] noncomputable def sha_e : Env := ⟨tys, [(53, shaNew_c), (54, hwrite_s.call), (55, hsum_s.call)]⟩
set_option maxHeartbeats 1000000 in
set_option maxRecDepth 100000 in
theorem sha_d : denF sha_e sha_s sha_h Try.f40 := by
  intro xs
  intro hpre
  dsimp only [sha_s] at hpre
  repeat' (first | (conv => whnf); first | done | exact True.intro | refine And.intro ?_ ?_ | refine Is.mk ?_ | (intro h; cases h; done) | (intro _))
  all_goals try dsimp only [maxLen, El.ty, El.dflt] at *
  all_goals first
    | omega
    | (with_reducible exact first_len)
    | (with_reducible exact sum_len0 _)
    | (with_reducible exact rest_len0 _)
    | (with_reducible refine Or.inl ⟨rfl, rfl, ?_⟩; simp)
    | (simp only [List.length_nil]; omega)
    | (rw [Int.zero_add, List.nil_append]; rfl)
set_option maxRecDepth 100000 in
theorem sha_p : (FnIs Try.prog 40 ∧ FnOk Try.prog 40 sha_s) ∧ (idsOk sha_s.cs && idsOk sha_s.cs' && Nat.ble sha_s.n sha_s.n') = true :=
  fn_of (l := [(53, shaNew_c), (54, hwrite_s.call), (55, hsum_s.call)]) (hi := sha_h) (S := sha_s) (fn := Try.f40) (c := Try.f40.body.get!) tysOk mixOk ⟨.inl shaNew_m, .inl hwrite_m, .inl hsum_m, trivial⟩ (by kernel_rfl) (by kernel_rfl) (by kernel_rfl) (by kernel_rfl) (by kernel_rfl) sha_d
theorem sha_m : May Try.prog (40, sha_s.call) := may_call sha_p
theorem sha_n : May Try.prog (40, sha_s.callN) := may_callN sha_p

@[reducible] noncomputable def grow_c := gGrow
theorem grow_m : May Try.prog (45, grow_c) := grow_may
@[reducible] noncomputable def concat_c := inl ⟨tys, [(45, grow_c)]⟩ ⟨[], [], [(3, 6), (11, 6)]⟩ Try.f25 Try.f25.body.get!
theorem concat_m : May Try.prog (25, concat_c) :=
  may_inl tysOk mixOk ⟨.inl grow_m, trivial⟩ (by kernel_rfl) (by kernel_rfl) (by kernel_rfl) (by kernel_rfl)
/-- The link of the one ahead and bytes. -/
def linkF (prev xs : List UInt8) : List UInt8 := shaF (prev ++ be 4 (xs.length : Int) ++ xs)
@[reducible] def link_s : Spec where
  n := 0
  cs := []
  ar := [.el (.ar 32 .u8), .lend .u8]
  pre := fun (prev, xs, _) => prev.length = 32 ∧ xs.length ≤ 100000000
  n' := 0
  cs' := []
  rs := [.el (.ar 32 .u8)]
  post := .fn fun (prev, xs, _) => (linkF prev xs, ())
@[reducible] def link_h : Hints := ⟨[], [], []⟩
@[reducible] noncomputable def link_e : Env := ⟨tys, [(22, u32_s.call), (25, concat_c), (40, sha_s.call)]⟩
set_option maxHeartbeats 1000000 in
set_option maxRecDepth 100000 in
theorem link_d : denF link_e link_s link_h Try.f21 := by
  intro prev xs
  intro hpre
  dsimp only [link_s] at hpre
  obtain ⟨hp, hx⟩ := hpre
  repeat' (first | (conv => whnf); first | done | exact True.intro | refine And.intro ?_ ?_ | refine Is.mk ?_ | (intro h; cases h; done) | (intro _))
  all_goals try dsimp only [maxLen, El.ty, El.dflt] at *
  all_goals have e4 : IntKind.u32.wrap (xs.length : Int) = (xs.length : Int) := by rw [IntKind.wrap_u32]; omega
  all_goals try simp only [take32 hp, e4, List.nil_append, List.length_append, List.length_nil, be_length, IntKind.wrap_i64, decide_eq_true_eq, decide_eq_false_iff_not] at *
  all_goals first
    | omega
    | (exfalso; omega)
    | (with_reducible rfl)
    | (unfold linkF; rfl)
set_option maxRecDepth 100000 in
theorem link_p : (FnIs Try.prog 21 ∧ FnOk Try.prog 21 link_s) ∧ (idsOk link_s.cs && idsOk link_s.cs' && Nat.ble link_s.n link_s.n') = true :=
  fn_of (l := [(22, u32_s.call), (25, concat_c), (40, sha_s.call)]) (hi := link_h) (S := link_s) (fn := Try.f21) (c := Try.f21.body.get!) tysOk mixOk ⟨.inl u32_m, .inl concat_m, .inl sha_m, trivial⟩ (by kernel_rfl) (by kernel_rfl) (by kernel_rfl) (by kernel_rfl) (by kernel_rfl) link_d
theorem link_m : May Try.prog (21, link_s.call) := may_call link_p
theorem link_n : May Try.prog (21, link_s.callN) := may_callN link_p
end Go.J

set_option linter.unusedSimpArgs false
set_option linter.unusedVariables false
set_option linter.unusedSectionVars false
namespace Go.J
open Go.Proofs

/-- The entry at the beginning of bytes, behind a link. -/
def entF (ahead xs : List UInt8) : recE.ty × List UInt8 × Int :=
  if (4 : Int) ≤ xs.length ∧ rv xs 0 4 ≤ 200 ∧ 4 + rv xs 0 4 + 32 ≤ xs.length ∧ (agetF ((xs.drop 4).take (rv xs 0 4).toNat)).2 = true ∧ (xs.drop (4 + (rv xs 0 4).toNat)).take 32 = linkF ahead ((xs.drop 4).take (rv xs 0 4).toNat) then
    ((agetF ((xs.drop 4).take (rv xs 0 4).toNat)).1, linkF ahead ((xs.drop 4).take (rv xs 0 4).toNat), 36 + rv xs 0 4)
  else (zeroR, ahead, 0)
theorem rd1 {xs : List UInt8} {a1 v1 : Int} {b1 : Bool} (h1 : Rd xs 0 false 4 a1 b1 v1) :
    ((4 : Int) ≤ xs.length ∧ b1 = false ∧ a1 = 4 ∧ v1 = rv xs 0 4) ∨ (¬ (4 : Int) ≤ xs.length ∧ b1 = true) := by
  by_cases hl : (4 : Int) ≤ xs.length
  · left
    obtain ⟨rfl, rfl, rfl⟩ := h1.fwd4 (by omega)
    exact ⟨hl, rfl, rfl, rfl⟩
  · right
    refine ⟨hl, ?_⟩
    cases b1
    · obtain ⟨_, _, l1⟩ := h1.back4
      exfalso
      omega
    · rfl
theorem link_len (a b : List UInt8) : (linkF a b).length = 32 := shaF_len _
theorem w1_ {n : Int} (h0 : 0 ≤ n) (h1 : n < 4294967296) : IntKind.i64.wrap n = n := by rw [IntKind.wrap_i64]; omega
theorem w2_ {n : Int} (h0 : 0 ≤ n) (h1 : n < 4294967296) : IntKind.i64.wrap (4 + n) = 4 + n := by rw [IntKind.wrap_i64]; omega
theorem w3_ {n : Int} (h0 : 0 ≤ n) (h1 : n < 4294967296) : IntKind.i64.wrap (4 + n + 32) = 36 + n := by rw [IntKind.wrap_i64]; omega
theorem w4_ {n : Int} (h0 : 0 ≤ n) (h1 : n < 4294967296) : IntKind.i64.wrap (36 + n - 32) = 4 + n := by rw [IntKind.wrap_i64]; omega
@[reducible] def entry_s : Spec where
  n := 0
  cs := []
  ar := [.el (.ar 32 .u8), .el (.rd .u8)]
  pre := fun (ahead, xs, _) => ahead.length = 32 ∧ xs.length ≤ 100000000
  n' := 0
  cs' := []
  rs := [.el recE, .el (.ar 32 .u8), .el iE]
  post := .fn fun (ahead, xs, _) => ((entF ahead xs).1, (entF ahead xs).2.1, (entF ahead xs).2.2, ())
theorem zr_eq : ((0, 0, 0, (0, 0, 0, 0, 0, 0, 0, 0, 0, 0, 0, 0, 0, 0, List.replicate 32 (El.dflt .u8), ()), ()) : recE.ty) = zeroR := rfl
attribute [local irreducible] linkF agetF
@[reducible] def entry_h : Hints := ⟨[(4, (tks 0 2 (.last 2 false [1] (.last 3 false [] (.last 4 false [] .done))))), (9, (tks 0 2 (.take 2 true (tks 3 5 (.take 8 true (tks 9 6 (.last 15 false [] (tks 16 2 .done)))))))), (10, (tks 0 2 (.last 2 false [1] (.last 3 false [] (.last 4 false [] .done))))), (11, (tks 0 3 (.last 3 false [1] (.last 4 false [] (.last 5 false [] .done)))))], [], []⟩
@[reducible] noncomputable def entry_e : Env := ⟨tys, [(33, read_s.call), (46, ru32r_s.call), (36, rbad_s.call), (38, rat_s.call), (16, aget_s.call), (21, link_s.call), (39, equal_s.call)]⟩
set_option maxHeartbeats 1000000 in
set_option maxRecDepth 100000 in
theorem entry_d : denF entry_e entry_s entry_h Try.f27 := by
  intro ahead xs
  intro hpre
  dsimp only [entry_s] at hpre
  obtain ⟨hh, hx⟩ := hpre
  repeat' (first | (conv => whnf); first | done | exact True.intro | refine And.intro ?_ ?_ | refine Is.mk ?_ | (intro h; cases h; done) | (intro _))
  all_goals try dsimp only [maxLen, El.ty] at *
  all_goals repeat (with_reducible cases ‹_ ∧ _›)
  all_goals try subst_vars
  all_goals try omega
  all_goals (with_reducible rename Rd _ 0 false 4 _ _ _ => h1)
  all_goals (with_reducible rename List UInt8 => xs)
  all_goals (rcases rd1 h1 with ⟨hlen, hb, rfl, rfl⟩ | ⟨hlen, hb⟩)
  all_goals cases hb
  all_goals clear h1
  all_goals try (exfalso; with_reducible exact not_tt (by assumption))
  all_goals try simp only [entF]
  all_goals try (first | done | ((rw [if_neg]); (focus first | (with_reducible rfl) | exact zr_eq); exact fun h => hlen h.1))
  all_goals have hn := rv_lt xs 0 (n := 4) (m := 4294967296) (by decide)
  all_goals obtain ⟨m, hm⟩ := Int.eq_ofNat_of_zero_le hn.1
  all_goals (rw [hm] at hn; simp only [hm] at *; clear hm)
  all_goals have e1 := w1_ hn.1 hn.2
  all_goals have e2 := w2_ hn.1 hn.2
  all_goals have e3 := w3_ hn.1 hn.2
  all_goals have e4 := w4_ hn.1 hn.2
  all_goals have x1 : ((4 : Int) + m - 4).toNat = m := by omega
  all_goals have x2 : ((4 : Int) + m).toNat = 4 + m := by omega
  all_goals have x3 : ((36 : Int) + m - (4 + m)).toNat = 32 := by omega
  all_goals have x4 : (4 : Int).toNat = 4 := rfl
  all_goals try simp only [e1, e2, e3, e4, x1, x2, x3, x4, Int.toNat_natCast] at *
  all_goals try omega
  all_goals clear e1 e2 e3 e4 x1 x2 x3 x4
  all_goals try simp only [take32 (link_len _ _), link_len, IntKind.wrap_i64, decide_eq_true_eq, decide_eq_false_iff_not, Bool.not_eq_true', Bool.not_eq_false'] at *
  all_goals try omega
  all_goals try (rw [List.length_take]; omega)
  all_goals obtain ⟨hn0, hn1⟩ := hn
  all_goals try split
  all_goals try dsimp only
  all_goals try (first | (with_reducible rfl) | (exfalso; omega))
  all_goals try (rename _ ∧ _ => hc; obtain ⟨c1, c2, c3, c4, c5⟩ := hc)
  all_goals try (first | (with_reducible rfl) | (exfalso; omega) | (exfalso; simp_all; done) | rfl)
  all_goals try (rename ¬ (_ ∧ _) => hc; exfalso; refine hc ⟨by omega, by omega, by omega, ?_, ?_⟩ <;> first | assumption | (simp_all; done))
  all_goals try exact zr_eq
set_option maxRecDepth 100000 in
theorem entry_p : (FnIs Try.prog 27 ∧ FnOk Try.prog 27 entry_s) ∧ (idsOk entry_s.cs && idsOk entry_s.cs' && Nat.ble entry_s.n entry_s.n') = true :=
  fn_of (l := [(33, read_s.call), (46, ru32r_s.call), (36, rbad_s.call), (38, rat_s.call), (16, aget_s.call), (21, link_s.call), (39, equal_s.call)]) (hi := entry_h) (S := entry_s) (fn := Try.f27) (c := Try.f27.body.get!) tysOk mixOk ⟨.inl read_m, .inl ru32r_m, .inl rbad_m, .inl rat_m, .inl aget_m, .inl link_m, .inl equal_m, trivial⟩ (by kernel_rfl) (by kernel_rfl) (by kernel_rfl) (by kernel_rfl) (by kernel_rfl) entry_d
theorem entry_m : May Try.prog (27, entry_s.call) := may_call entry_p
theorem entry_n : May Try.prog (27, entry_s.callN) := may_callN entry_p
end Go.J

set_option linter.unusedSimpArgs false
set_option linter.unusedVariables false
set_option linter.unusedSectionVars false
namespace Go.J
open Go.Proofs

def parseK : Nat → List UInt8 → List UInt8 → Int → List recE.ty × Int
  | 0, _, xs, at_ => ([], if xs = [] then -1 else at_)
  | k + 1, ahead, xs, at_ => if xs = [] then ([], -1) else if (entF ahead xs).2.2 = 0 then ([], at_) else
    ((entF ahead xs).1 :: (parseK k (entF ahead xs).2.1 (xs.drop (entF ahead xs).2.2.toNat) (at_ + (entF ahead xs).2.2)).1, (parseK k (entF ahead xs).2.1 (xs.drop (entF ahead xs).2.2.toNat) (at_ + (entF ahead xs).2.2)).2)
theorem ent_pos {ahead xs : List UInt8} (h : (entF ahead xs).2.2 ≠ 0) : 36 ≤ (entF ahead xs).2.2 ∧ (entF ahead xs).2.2 ≤ xs.length := by
  unfold entF at h ⊢
  split at h
  · next hc =>
    rw [if_pos hc]
    have := rv_lt xs 0 (n := 4) (m := 4294967296) (by decide)
    dsimp only
    omega
  · exact absurd rfl h
attribute [local irreducible] linkF agetF
theorem ent_len {ahead xs : List UInt8} (h : ahead.length = 32) : (entF ahead xs).2.1.length = 32 := by
  unfold entF
  split
  · dsimp only
    with_reducible exact link_len _ _
  · exact h
attribute [local irreducible] entF
theorem parseK_succ (k : Nat) (ahead xs : List UInt8) (at_ : Int) : parseK (k + 1) ahead xs at_ = if xs = [] then ([], -1) else if (entF ahead xs).2.2 = 0 then ([], at_) else
    ((entF ahead xs).1 :: (parseK k (entF ahead xs).2.1 (xs.drop (entF ahead xs).2.2.toNat) (at_ + (entF ahead xs).2.2)).1, (parseK k (entF ahead xs).2.1 (xs.drop (entF ahead xs).2.2.toNat) (at_ + (entF ahead xs).2.2)).2) := rfl
theorem parseK_nil (k : Nat) (ahead : List UInt8) (at_ : Int) : parseK k ahead [] at_ = ([], -1) := by
  cases k
  · rw [parseK, if_pos rfl]
  · rw [parseK, if_pos rfl]
theorem parseK_eq : ∀ (k k' : Nat) (ahead xs : List UInt8) (at_ : Int), xs.length ≤ k → xs.length ≤ k' → parseK k ahead xs at_ = parseK k' ahead xs at_ := by
  intro k
  induction k with
  | zero =>
    intro k' ahead xs at_ h _
    have : xs = [] := List.eq_nil_of_length_eq_zero (by omega)
    subst this
    rw [parseK_nil, parseK_nil]
  | succ k ih =>
    intro k' ahead xs at_ h h'
    cases k' with
    | zero =>
      have : xs = [] := List.eq_nil_of_length_eq_zero (by omega)
      subst this
      rw [parseK_nil, parseK_nil]
    | succ k' =>
      rw [parseK_succ, parseK_succ]
      by_cases hx : xs = []
      · rw [if_pos hx, if_pos hx]
      · rw [if_neg hx, if_neg hx]
        by_cases hn : (entF ahead xs).2.2 = 0
        · rw [if_pos hn, if_pos hn]
        · rw [if_neg hn, if_neg hn]
          have hp := ent_pos hn
          rw [ih k' _ _ _ (by rw [List.length_drop]; omega) (by rw [List.length_drop]; omega)]
/-- The records behind a link, and where none begins any more. -/
def parseG (ahead xs : List UInt8) (at_ : Int) : List recE.ty × Int := parseK xs.length ahead xs at_
theorem parseG_nil (ahead : List UInt8) (at_ : Int) : parseG ahead [] at_ = ([], -1) := rfl
theorem parseG_stop {ahead xs : List UInt8} {at_ : Int} (hx : xs ≠ []) (hn : (entF ahead xs).2.2 = 0) : parseG ahead xs at_ = ([], at_) := by
  unfold parseG
  cases xs with
  | nil => exact absurd rfl hx
  | cons x xs => rw [List.length_cons, parseK_succ, if_neg (by simp), if_pos hn]
theorem parseG_step {ahead xs : List UInt8} {at_ : Int} (hx : xs ≠ []) (hn : (entF ahead xs).2.2 ≠ 0) :
    parseG ahead xs at_ = ((entF ahead xs).1 :: (parseG (entF ahead xs).2.1 (xs.drop (entF ahead xs).2.2.toNat) (at_ + (entF ahead xs).2.2)).1, (parseG (entF ahead xs).2.1 (xs.drop (entF ahead xs).2.2.toNat) (at_ + (entF ahead xs).2.2)).2) := by
  have hp := ent_pos hn
  have hz : xs.length = (xs.length - 1) + 1 := by
    cases xs with
    | nil => exact absurd rfl hx
    | cons x xs => simp
  unfold parseG
  rw [hz, parseK_succ, if_neg hx, if_neg hn]
  rw [parseK_eq (xs.length - 1) (xs.drop (entF ahead xs).2.2.toNat).length _ _ _ (by rw [List.length_drop]; omega) (Nat.le_refl _)]
theorem ent_all {ahead : List UInt8} (h : ahead.length = 32) (xs : List UInt8) (at_ : Int) : ∃ (k n t : Int) (kk seq tr inst id side ord pr q sh st wh a b : Int) (tag l : List UInt8) (m : Int),
    entF ahead xs = ((k, n, t, (kk, seq, tr, inst, id, side, ord, pr, q, sh, st, wh, a, b, tag, ()), ()), l, m) ∧ l.length = 32 ∧
    ((m = 0 ∧ (xs ≠ [] → parseG ahead xs at_ = ([], at_))) ∨ (36 ≤ m ∧ m ≤ xs.length ∧ (xs ≠ [] → parseG ahead xs at_ = ((k, n, t, (kk, seq, tr, inst, id, side, ord, pr, q, sh, st, wh, a, b, tag, ()), ()) :: (parseG l (xs.drop m.toNat) (at_ + m)).1, (parseG l (xs.drop m.toNat) (at_ + m)).2)))) := by
  have h1 := ent_len (xs := xs) h
  have h2 := ent_pos (ahead := ahead) (xs := xs)
  have h3 := parseG_stop (ahead := ahead) (xs := xs) (at_ := at_)
  have h4 := parseG_step (ahead := ahead) (xs := xs) (at_ := at_)
  generalize entF ahead xs = g at h1 h2 h3 h4 ⊢
  obtain ⟨⟨k, n, t, ⟨kk, seq, tr, inst, id, side, ord, pr, q, sh, st, wh, a, b, tag, _⟩, _⟩, l, m⟩ := g
  refine ⟨k, n, t, kk, seq, tr, inst, id, side, ord, pr, q, sh, st, wh, a, b, tag, l, m, rfl, h1, ?_⟩
  by_cases hm : m = 0
  · exact .inl ⟨hm, fun hx => h3 hx hm⟩
  · exact .inr ⟨(h2 hm).1, (h2 hm).2, fun hx => h4 hx hm⟩
def noSum : List UInt8 := List.replicate 32 0
/-- A log's records, and where none begins any more; -1: it is whole. -/
def parseF (xs : List UInt8) : List recE.ty × Int := parseG noSum xs 0
theorem drop_ne {α : Type} {xs : List α} {a : Int} (h0 : 0 ≤ a) (h : a < (xs.length : Int)) : List.drop a.toNat xs ≠ [] := by
  intro e
  have := congrArg List.length e
  rw [List.length_drop, List.length_nil] at this
  omega
theorem first_inv (xs : List UInt8) : parseF xs = ([] ++ (parseG (List.replicate 32 (El.dflt .u8)) (List.drop (Int.toNat 0) xs) 0).1, (parseG (List.replicate 32 (El.dflt .u8)) (List.drop (Int.toNat 0) xs) 0).2) := rfl
@[reducible] def parse_s : Spec where
  n := 0
  cs := []
  ar := [.el (.rd .u8)]
  pre := fun (xs, _) => xs.length ≤ 100000000
  n' := 1
  cs' := [(0, .row 30 recE)]
  rs := [.own 0, .el iE]
  post := .fn fun (xs, _) => ((parseF xs).1, (parseF xs).2, ())
@[reducible] def parse_a : Ann where
  nx := 2
  cs := [(0, .row 30 recE), (1, .own (.el (.ar 32 .u8)))]
  ss := [(0, .el (.rd .u8)), (4, .own 0), (5, .ref 1), (6, .el iE)]
  inv := fun (_, _, xs0, _, _) (out, ahead, xs, at_, _) => xs = xs0 ∧ ahead.length = 32 ∧ 0 ≤ at_ ∧ at_ ≤ xs.length ∧ out.length ≤ at_ ∧ parseF xs = (out ++ (parseG ahead (xs.drop at_.toNat) at_).1, (parseG ahead (xs.drop at_.toNat) at_).2)
  mu := fun (_, _, xs, at_, _) => xs.length - at_.toNat
attribute [local irreducible] parseG parseF
@[reducible] def parse_h : Hints := ⟨[(5, (tks 0 4 (.last 4 false [] (tks 5 4 (.cash 9 [0, 3] (.cash 10 [0, 3] (.last 11 false [] (.last 12 false [] (.last 13 false [] .done))))))))), (8, (tks 0 2 (.take 4 false (.last 2 false [4] (.last 3 false [4] (.last 5 false [4] (.last 6 false [] .done)))))))], [(4, parse_a)], []⟩
@[reducible] noncomputable def parse_e : Env := ⟨tys, [(27, entry_s.call)]⟩
set_option maxHeartbeats 1000000 in
set_option maxRecDepth 100000 in
theorem parse_d : denF parse_e parse_s parse_h Try.f12 := by
  intro xs
  intro hpre
  dsimp only [parse_s] at hpre
  repeat' (first | (conv => whnf); first | done | exact True.intro | refine And.intro ?_ ?_ | refine Is.mk ?_ | (intro h; cases h; done) | (intro _))
  all_goals try dsimp only [maxLen, El.ty] at *
  all_goals repeat (with_reducible cases ‹_ ∧ _›)
  all_goals try subst_vars
  all_goals try omega
  all_goals try (with_reducible exact Int.le_refl 0)
  all_goals try ((rw [List.length_take, List.length_drop]); omega)
  all_goals try (with_reducible exact List.length_replicate)
  all_goals try (with_reducible exact Int.le_of_eq rfl)
  all_goals try ((with_reducible change ((([] : List recE.ty).length : Nat) : Int) ≤ 0); exact Int.le_refl 0)
  all_goals try (exact first_inv xs)
  all_goals ((with_reducible rename List UInt8 => xs); (with_reducible rename List recE.ty => out); (with_reducible rename Int => at_); (with_reducible rename List.length _ = 32 => hl))
  all_goals have et : List.take ((xs.length : Int) - at_).toNat (List.drop at_.toNat xs) = List.drop at_.toNat xs := List.take_of_length_le (by rw [List.length_drop]; omega)
  all_goals obtain ⟨k, n, t, kk, seq, tr, inst, id, side, ord, pr, q, sh, st, wh, a, b, tag, l, m, eg, hl2, hm⟩ := ent_all hl (List.drop at_.toNat xs) at_
  all_goals try simp only [et, eg] at *
  all_goals clear et eg
  all_goals have hd : (List.drop at_.toNat xs).length = xs.length - at_.toNat := List.length_drop
  all_goals try simp only [decide_eq_true_eq, decide_eq_false_iff_not, IntKind.wrap_i64, List.length_append, List.length_singleton, hd] at *
  all_goals try omega
  all_goals try assumption
  all_goals (with_reducible rename parseF xs = _ => hP)
  all_goals (by_cases hlt : at_ < (xs.length : Int))
  all_goals try (exfalso; omega)
  all_goals try (
    have hne : List.drop at_.toNat xs = [] := List.drop_eq_nil_of_le (by omega)
    rw [hne, parseG_nil] at hP
    rw [hP]
    first | done | exact (List.append_nil _).symm)
  all_goals have hne := drop_ne (xs := xs) (a := at_) (by omega) (by omega)
  all_goals rcases hm with ⟨hm, hg⟩ | ⟨hm, hm2, hg⟩
  all_goals try (exfalso; omega)
  all_goals rw [hg hne] at hP
  all_goals try (
    rw [hP]
    first | done | exact (List.append_nil _).symm)
  all_goals (rw [show (at_ + m + 9223372036854775808) % 18446744073709551616 - 9223372036854775808 = at_ + m by omega, hP, List.append_assoc, show (at_ + m).toNat = at_.toNat + m.toNat by omega, ← List.drop_drop]; rfl)
set_option maxRecDepth 100000 in
theorem parse_p : (FnIs Try.prog 12 ∧ FnOk Try.prog 12 parse_s) ∧ (idsOk parse_s.cs && idsOk parse_s.cs' && Nat.ble parse_s.n parse_s.n') = true :=
  fn_of (l := [(27, entry_s.call)]) (hi := parse_h) (S := parse_s) (fn := Try.f12) (c := Try.f12.body.get!) tysOk mixOk ⟨.inl entry_m, trivial⟩ (by kernel_rfl) (by kernel_rfl) (by kernel_rfl) (by kernel_rfl) (by kernel_rfl) parse_d
theorem parse_m : May Try.prog (12, parse_s.call) := may_call parse_p
theorem parse_n : May Try.prog (12, parse_s.callN) := may_callN parse_p
end Go.J

set_option linter.unusedSimpArgs false
set_option linter.unusedVariables false
set_option linter.unusedSectionVars false
namespace Go.J
open Go.Proofs

@[reducible] def logSh : Sh := .cons (.el (.rd .u8)) (.cons (.el (.ar 32 .u8)) (.cons (.el iE) .nil))
/-- An entry behind a link. -/
def entB (link : List UInt8) (r : recE.ty) : List UInt8 := be 4 ((aputR r).length : Int) ++ aputR r ++ linkF link (aputR r)
theorem aput_len {r : recE.ty} (h : recFit r) : (aputR r).length ≤ 300 := by
  obtain ⟨k, n, t, ⟨kk, seq, tr, inst, id, side, ord, pr, q, sh, st, wh, a, b, tag, _⟩, _⟩ := r
  have hl := put_le kk seq tr inst id side ord pr q sh st wh a b tag h.2.2.2.1
  show (be 1 k ++ be 8 (n % 18446744073709551616) ++ be 1 t ++ putF kk seq tr inst id side ord pr q sh st wh a b tag).length ≤ 300
  simp only [List.length_append, be_length]
  omega
theorem wi {x : Int} (h0 : 0 ≤ x) (h1 : x ≤ 9000000000000000000) : IntKind.i64.wrap x = x := by rw [IntKind.wrap_i64]; omega
theorem ent_as {b link : List UInt8} {r : recE.ty} : b ++ be 4 ((aputR r).length : Int) ++ aputR r ++ linkF link (aputR r) = b ++ entB link r := by simp only [entB, List.append_assoc]
@[reducible] def anew_s : Spec where
  n := 0
  cs := []
  ar := []
  pre := fun _ => True
  n' := 1
  cs' := [(0, .own logSh)]
  rs := [.ref 0]
  post := .fn fun _ => ([], noSum, 0, ())
@[reducible] def anew_h : Hints := ⟨[], [], []⟩
@[reducible] noncomputable def anew_e : Env := ⟨tys, []⟩
set_option maxHeartbeats 1000000 in
set_option maxRecDepth 100000 in
theorem anew_d : denF anew_e anew_s anew_h Try.f8 := by
  intro _
  repeat' (first | (conv => whnf); first | done | exact True.intro | refine And.intro ?_ ?_ | refine Is.mk ?_ | (intro h; cases h; done) | (intro _))
  all_goals try rfl
set_option maxRecDepth 100000 in
theorem anew_p : (FnIs Try.prog 8 ∧ FnOk Try.prog 8 anew_s) ∧ (idsOk anew_s.cs && idsOk anew_s.cs' && Nat.ble anew_s.n anew_s.n') = true :=
  fn_of (l := []) (hi := anew_h) (S := anew_s) (fn := Try.f8) (c := Try.f8.body.get!) tysOk mixOk trivial (by kernel_rfl) (by kernel_rfl) (by kernel_rfl) (by kernel_rfl) (by kernel_rfl) anew_d
theorem anew_m : May Try.prog (8, anew_s.call) := may_call anew_p
theorem anew_n : May Try.prog (8, anew_s.callN) := may_callN anew_p
/-- A record is added to bytes, a link, a number. -/
def addF (b link : List UInt8) (n : Int) (r : recE.ty) : List UInt8 × List UInt8 × Int × Bool × Unit :=
  if arightR r = true then (b ++ entB link r, linkF link (aputR r), n + 1, true, ()) else (b, link, n, false, ())
theorem addF_yes {b link : List UInt8} {n : Int} {r : recE.ty} (h : arightR r = true) : addF b link n r = (b ++ entB link r, linkF link (aputR r), n + 1, true, ()) := if_pos h
theorem addF_no {b link : List UInt8} {n : Int} {r : recE.ty} (h : (!arightR r) = true) : addF b link n r = (b, link, n, false, ()) :=
  if_neg (by simpa using h)
attribute [local irreducible] linkF agetF entF addF entB
@[reducible] def aadd_s : Spec where
  n := 1
  cs := [(0, .own logSh)]
  ar := [.ref 0, .el recE]
  pre := fun (b, link, n, r, _) => recFit r ∧ link.length = 32 ∧ b.length ≤ 10000000 ∧ 0 ≤ n ∧ n ≤ 10000000
  n' := 1
  cs' := [(0, .own logSh)]
  rs := [.el .bool]
  post := .fn fun (b, link, n, r, _) => addF b link n r
@[reducible] def aadd_h : Hints := ⟨[(5, (tks 0 8 (tks 9 5 (.last 8 false [4, 13] (.last 14 false [] (.last 15 false [] (tks 16 2 (.last 18 false [] .done))))))))], [], []⟩
@[reducible] noncomputable def aadd_e : Env := ⟨tys, [(14, aright_s.call), (15, aput_s.call), (21, link_s.call), (22, u32_s.call), (25, concat_c)]⟩
set_option maxHeartbeats 1000000 in
set_option maxRecDepth 100000 in
theorem aadd_d : denF aadd_e aadd_s aadd_h Try.f9 := by
  intro b link n k nn t kk seq tr inst id side ord pr q sh st wh a c tag
  intro hpre
  dsimp only [aadd_s] at hpre
  repeat' (first | (conv => whnf); first | done | exact True.intro | refine And.intro ?_ ?_ | refine Is.mk ?_ | (intro h; cases h; done) | (intro _))
  all_goals obtain ⟨hf, hlk, hb, hn0, hn1⟩ := hpre
  all_goals try ((with_reducible change lsetK _ _ _ _); exfalso)
  all_goals have hl := aput_len hf
  all_goals have hk := link_len link (aputF k nn t (kk, seq, tr, inst, id, side, ord, pr, q, sh, st, wh, a, c, tag, ()))
  all_goals try dsimp only [maxLen, El.ty, recFit, cmdFit, aputR, arightR] at *
  all_goals have ft := hf.2.2.2.1
  all_goals try ((repeat (with_reducible cases ‹_ ∧ _›)); (with_reducible assumption))
  all_goals clear hf
  all_goals generalize hbs : aputF k nn t (kk, seq, tr, inst, id, side, ord, pr, q, sh, st, wh, a, c, tag, ()) = bs at *
  all_goals have e4 : IntKind.u32.wrap (bs.length : Int) = (bs.length : Int) := by rw [IntKind.wrap_u32]; omega
  all_goals have w1 : IntKind.i64.wrap (0 + 1) = 1 := by decide
  all_goals have w2 : IntKind.i64.wrap (1 + 1) = 2 := by decide
  all_goals have w3 : IntKind.i64.wrap (2 + 1) = 3 := by decide
  all_goals have w4 : IntKind.i64.wrap (3 + 1) = 4 := by decide
  all_goals have v1 : IntKind.i64.wrap (0 + (b.length : Int)) = b.length := by rw [Int.zero_add]; exact wi (by omega) (by omega)
  all_goals have v2 : IntKind.i64.wrap ((b.length : Int) + ((4 : Nat) : Int)) = b.length + 4 := wi (by omega) (by omega)
  all_goals have v3 : IntKind.i64.wrap ((b.length : Int) + 4 + bs.length) = b.length + 4 + bs.length := wi (by omega) (by omega)
  all_goals have v4 : IntKind.i64.wrap ((b.length : Int) + 4 + bs.length + ((32 : Nat) : Int)) = b.length + 4 + bs.length + 32 := wi (by omega) (by omega)
  all_goals have v5 : IntKind.i64.wrap (n + 1) = n + 1 := wi (by omega) (by omega)
  all_goals have e32 : (((32 : Nat) : Int) - 0).toNat = 32 := by decide
  all_goals have t32 : List.take 32 (List.drop (Int.toNat 0) (linkF link bs)) = linkF link bs := List.take_of_length_le (Nat.le_of_eq hk)
  all_goals try simp only [take32 hlk, t32, hk, e4, e32, w1, w2, w3, w4, v1, v2, v3, v4, v5, List.nil_append, List.length_append, List.length_nil, be_length] at *
  all_goals try (with_reducible assumption)
  all_goals try omega
  all_goals try (exfalso; rename decide (_ < 0) = true => hd; have hd := of_decide_eq_true hd; omega)
  all_goals rename (!arightF _ _ _ _) = _ => hr
  all_goals first | rw [addF_no (r := (k, nn, t, (kk, seq, tr, inst, id, side, ord, pr, q, sh, st, wh, a, c, tag, ()), ())) hr] | rw [addF_yes (r := (k, nn, t, (kk, seq, tr, inst, id, side, ord, pr, q, sh, st, wh, a, c, tag, ()), ())) ((Bool.not_eq_false' _).mp hr)]
  · subst hbs
    exact ent_as (r := (k, nn, t, (kk, seq, tr, inst, id, side, ord, pr, q, sh, st, wh, a, c, tag, ()), ()))
  · subst hbs
    rfl
set_option maxRecDepth 100000 in
theorem aadd_p : (FnIs Try.prog 9 ∧ FnOk Try.prog 9 aadd_s) ∧ (idsOk aadd_s.cs && idsOk aadd_s.cs' && Nat.ble aadd_s.n aadd_s.n') = true :=
  fn_of (l := [(14, aright_s.call), (15, aput_s.call), (21, link_s.call), (22, u32_s.call), (25, concat_c)]) (hi := aadd_h) (S := aadd_s) (fn := Try.f9) (c := Try.f9.body.get!) tysOk mixOk ⟨.inl aright_m, .inl aput_m, .inl link_m, .inl u32_m, .inl concat_m, trivial⟩ (by kernel_rfl) (by kernel_rfl) (by kernel_rfl) (by kernel_rfl) (by kernel_rfl) aadd_d
theorem aadd_m : May Try.prog (9, aadd_s.call) := may_call aadd_p
theorem aadd_n : May Try.prog (9, aadd_s.callN) := may_callN aadd_p
end Go.J

set_option linter.unusedSimpArgs false
set_option linter.unusedVariables false
set_option linter.unusedSectionVars false
namespace Go.J
open Go.Proofs

@[reducible] def kaskE : El := .cons iE (.cons iE (.cons iE (.cons iE (.cons iE (.cons iE (.cons iE .nil))))))
@[reducible] def doE : El := .cons iE (.cons iE (.cons iE (.cons iE (.cons iE (.cons kaskE .nil)))))
@[reducible] def orderE : El := .cons iE (.cons iE (.cons iE (.cons iE (.cons iE (.cons iE (.cons iE (.cons iE (.cons iE .nil))))))))
@[reducible] def b64 (n : Int) : Prop := -9223372036854775808 ≤ n ∧ n ≤ 9223372036854775807
theorem mod_in (n : Int) {l : Int} (hl : 0 < l) : 0 ≤ n % l ∧ n % l < l := ⟨Int.emod_nonneg _ (by omega), Int.emod_lt_of_pos _ hl⟩
@[reducible] def korder_s : Spec where
  n := 0
  cs := []
  ar := [.el kaskE]
  pre := fun ((t, i, s, p, q, h, x, _), _) => b64 t ∧ b64 i ∧ b64 s ∧ b64 p ∧ b64 q ∧ b64 h ∧ b64 x
  n' := 0
  cs' := []
  rs := [.el orderE]
  post := .rel fun _ ((tr, id, fm, sd, kd, pr, q, sh, st, _), _) => 0 ≤ tr ∧ tr ≤ 5 ∧ 0 ≤ id ∧ id ≤ 15 ∧ 0 ≤ fm ∧ fm ≤ 2 ∧ 1 ≤ sd ∧ sd ≤ 2 ∧ 1 ≤ kd ∧ kd ≤ 5 ∧ 0 ≤ pr ∧ pr ≤ 105 ∧ 1 ≤ q ∧ q ≤ 12 ∧ 0 ≤ sh ∧ sh ≤ 12 ∧ st = 0
@[reducible] def korder_h : Hints := ⟨[(1, (tks 0 2 (tks 3 2 (tks 6 2 (tks 10 2 (tks 15 2 (tks 18 2 (.last 2 false [4, 7, 11, 16, 19] (.last 5 false [7, 11, 16, 19] (.last 8 false [11, 16, 19] (.take 9 false (.last 12 false [16, 19] (tks 13 2 (.last 17 false [19] (.last 20 false [] (.take 21 false (.cash 22 [1, 4, 7, 11, 16, 19] (.last 23 false [] .done))))))))))))))))))], [], []⟩
@[reducible] noncomputable def korder_e : Env := ⟨tys, [(17, within_s.call)]⟩
set_option maxHeartbeats 1000000 in
set_option maxRecDepth 100000 in
theorem korder_d : denF korder_e korder_s korder_h Try.f56 := by
  intro t i s p q h x
  intro hpre
  repeat' (first | (conv => whnf); first | done | exact True.intro | refine And.intro ?_ ?_ | refine Is.mk ?_ | (intro h; cases h; done) | (intro _))
  all_goals dsimp only [korder_s] at hpre
  all_goals try dsimp only [maxLen, El.ty] at *
  all_goals obtain ⟨⟨t0, t1⟩, ⟨i0, i1⟩, ⟨s0, s1⟩, ⟨p0, p1⟩, ⟨q0, q1⟩, ⟨h0, h1⟩, x0, x1⟩ := hpre
  all_goals have m1 := mod_in t (l := 5 - 0 + 1) (by decide)
  all_goals have m2 := mod_in i (l := 15 - 0 + 1) (by decide)
  all_goals have m3 := mod_in s (l := 1 - 0 + 1) (by decide)
  all_goals have m4 := mod_in s (l := 9 - 0 + 1) (by decide)
  all_goals have m5 := mod_in p (l := 105 - 95 + 1) (by decide)
  all_goals have m6 := mod_in q (l := 12 - 1 + 1) (by decide)
  all_goals have m7 := mod_in h (l := 1 + q % (12 - 1 + 1) - 0 + 1) (by omega)
  all_goals generalize h % (1 + q % (12 - 1 + 1) - 0 + 1) = hh at *
  all_goals have d1 := Int.tdiv_eq_ediv_of_nonneg (a := 0 + t % (5 - 0 + 1)) (b := 2) (by omega)
  all_goals have d2 := Int.tdiv_eq_ediv_of_nonneg (a := 0 + s % (9 - 0 + 1)) (b := 2) (by omega)
  all_goals try simp only [d1, d2, IntKind.wrap_i64]
  all_goals omega
set_option maxRecDepth 100000 in
theorem korder_p : (FnIs Try.prog 56 ∧ FnOk Try.prog 56 korder_s) ∧ (idsOk korder_s.cs && idsOk korder_s.cs' && Nat.ble korder_s.n korder_s.n') = true :=
  fn_of (l := [(17, within_s.call)]) (hi := korder_h) (S := korder_s) (fn := Try.f56) (c := Try.f56.body.get!) tysOk mixOk ⟨.inl within_m, trivial⟩ (by kernel_rfl) (by kernel_rfl) (by kernel_rfl) (by kernel_rfl) (by kernel_rfl) korder_d
theorem korder_m : May Try.prog (56, korder_s.call) := may_call korder_p
theorem korder_n : May Try.prog (56, korder_s.callN) := may_callN korder_p

@[reducible] def kstop_s : Spec where
  n := 0
  cs := []
  ar := [.el kaskE]
  pre := fun ((t, i, s, p, q, h, x, _), _) => b64 t ∧ b64 i ∧ b64 s ∧ b64 p ∧ b64 q ∧ b64 h ∧ b64 x
  n' := 0
  cs' := []
  rs := [.el orderE]
  post := .rel fun _ ((tr, id, fm, sd, kd, pr, q, sh, st, _), _) => 0 ≤ tr ∧ tr ≤ 5 ∧ 0 ≤ id ∧ id ≤ 15 ∧ 0 ≤ fm ∧ fm ≤ 2 ∧ 1 ≤ sd ∧ sd ≤ 2 ∧ 1 ≤ kd ∧ kd ≤ 5 ∧ 0 ≤ pr ∧ pr ≤ 105 ∧ 1 ≤ q ∧ q ≤ 12 ∧ 0 ≤ sh ∧ sh ≤ 12 ∧ 0 ≤ st ∧ st ≤ 105
@[reducible] def kstop_h : Hints := ⟨[], [], []⟩
@[reducible] noncomputable def kstop_e : Env := ⟨tys, [(56, korder_s.call), (17, within_s.call)]⟩
set_option maxHeartbeats 1000000 in
set_option maxRecDepth 100000 in
theorem kstop_d : denF kstop_e kstop_s kstop_h Try.f47 := by
  intro t i s p q h x
  intro hpre
  dsimp only [kstop_s] at hpre
  repeat' (first | assumption | (conv => whnf); first | done | exact True.intro | refine And.intro ?_ ?_ | refine Is.mk ?_ | (intro h; cases h; done) | (intro _))
  all_goals try dsimp only [maxLen, El.ty] at *
  all_goals have m := mod_in x (l := 32 - 0 + 1) (by decide)
  all_goals try simp only [IntKind.wrap_i64, decide_eq_true_eq, decide_eq_false_iff_not] at *
  all_goals omega
set_option maxRecDepth 100000 in
theorem kstop_p : (FnIs Try.prog 47 ∧ FnOk Try.prog 47 kstop_s) ∧ (idsOk kstop_s.cs && idsOk kstop_s.cs' && Nat.ble kstop_s.n kstop_s.n') = true :=
  fn_of (l := [(56, korder_s.call), (17, within_s.call)]) (hi := kstop_h) (S := kstop_s) (fn := Try.f47) (c := Try.f47.body.get!) tysOk mixOk ⟨.inl korder_m, .inl within_m, trivial⟩ (by kernel_rfl) (by kernel_rfl) (by kernel_rfl) (by kernel_rfl) (by kernel_rfl) kstop_d
theorem kstop_m : May Try.prog (47, kstop_s.call) := may_call kstop_p
theorem kstop_n : May Try.prog (47, kstop_s.callN) := may_callN kstop_p

@[reducible] def doFit : doE.ty → Prop := fun (k, t, w, a, b, (q0, q1, q2, q3, q4, q5, q6, _), _) => b64 k ∧ b64 t ∧ b64 w ∧ b64 a ∧ b64 b ∧ b64 q0 ∧ b64 q1 ∧ b64 q2 ∧ b64 q3 ∧ b64 q4 ∧ b64 q5 ∧ b64 q6
@[reducible] def cmdSmall : cmdE.ty → Prop := fun (kk, seq, tr, inst, id, side, ord, pr, q, sh, st, wh, a, b, tag, _) => tag.length = 32 ∧ 0 ≤ kk ∧ kk ≤ 1000 ∧ 0 ≤ seq ∧ seq ≤ 1000 ∧ 0 ≤ tr ∧ tr ≤ 1000 ∧ 0 ≤ inst ∧ inst ≤ 1000 ∧ 0 ≤ id ∧ id ≤ 1000 ∧ 0 ≤ side ∧ side ≤ 1000 ∧ 0 ≤ ord ∧ ord ≤ 1000 ∧ 0 ≤ pr ∧ pr ≤ 1000 ∧ 0 ≤ q ∧ q ≤ 1000 ∧ 0 ≤ sh ∧ sh ≤ 1000 ∧ 0 ≤ st ∧ st ≤ 1000 ∧ 0 ≤ wh ∧ wh ≤ 1000 ∧ 0 ≤ a ∧ a ≤ 1000 ∧ 0 ≤ b ∧ b ≤ 1000
@[reducible] def kcmd_s : Spec where
  n := 0
  cs := []
  ar := [.el doE]
  pre := fun (d, _) => doFit d
  n' := 0
  cs' := []
  rs := [.el cmdE]
  post := .rel fun _ (c, _) => cmdSmall c
@[reducible] def kcmd_h : Hints := ⟨[(5, (tks 0 5 (.last 5 false [2] (.take 6 false (.last 7 false [] .done))))), (7, (tks 0 5 (.last 5 false [2] (.take 6 false (.last 7 false [] .done))))), (10, (tks 0 6 (tks 7 2 (.last 6 false [2, 8] (.take 9 false (.last 10 false [] .done)))))), (12, (tks 0 2 (tks 3 2 (.last 2 false [4] (.last 5 false [] (.take 6 false (.last 7 false [] .done))))))), (14, (tks 0 2 (tks 3 2 (tks 6 2 (.last 2 false [4, 7] (.last 5 false [7] (.last 8 false [] (.take 9 false (.last 10 false [] .done)))))))))], [], []⟩
@[reducible] noncomputable def kcmd_e : Env := ⟨tys, [(47, kstop_s.call), (17, within_s.call)]⟩
set_option maxHeartbeats 1000000 in
set_option maxRecDepth 100000 in
theorem kcmd_d : denF kcmd_e kcmd_s kcmd_h Try.f28 := by
  intro k t w a b q0 q1 q2 q3 q4 q5 q6
  intro hpre
  dsimp only [kcmd_s, doFit] at hpre
  repeat' (first | (conv => whnf); first | done | exact True.intro | refine And.intro ?_ ?_ | refine Is.mk ?_ | (intro h; cases h; done) | (intro _))
  all_goals try dsimp only [maxLen, El.ty] at *
  all_goals try (with_reducible apply List.length_replicate)
  all_goals try simp only [Int.reduceSub, Int.reduceAdd, IntKind.wrap_i64, decide_eq_true_eq, decide_eq_false_iff_not] at *
  all_goals omega
set_option maxRecDepth 100000 in
theorem kcmd_p : (FnIs Try.prog 28 ∧ FnOk Try.prog 28 kcmd_s) ∧ (idsOk kcmd_s.cs && idsOk kcmd_s.cs' && Nat.ble kcmd_s.n kcmd_s.n') = true :=
  fn_of (l := [(47, kstop_s.call), (17, within_s.call)]) (hi := kcmd_h) (S := kcmd_s) (fn := Try.f28) (c := Try.f28.body.get!) tysOk mixOk ⟨.inl kstop_m, .inl within_m, trivial⟩ (by kernel_rfl) (by kernel_rfl) (by kernel_rfl) (by kernel_rfl) (by kernel_rfl) kcmd_d
theorem kcmd_m : May Try.prog (28, kcmd_s.call) := may_call kcmd_p
theorem kcmd_n : May Try.prog (28, kcmd_s.callN) := may_callN kcmd_p

@[reducible] def recSmall : recE.ty → Prop := fun (k, n, t, c, _) => 0 ≤ k ∧ k ≤ 1000 ∧ 0 ≤ n ∧ n ≤ 1000 ∧ 0 ≤ t ∧ t ≤ 1000 ∧ cmdSmall c
@[reducible] def krec_s : Spec where
  n := 0
  cs := []
  ar := [.el doE]
  pre := fun (d, _) => doFit d
  n' := 0
  cs' := []
  rs := [.el recE]
  post := .rel fun _ (r, _) => recSmall r
@[reducible] def krec_h : Hints := ⟨[], [], []⟩
@[reducible] noncomputable def krec_e : Env := ⟨tys, [(17, within_s.call), (28, kcmd_s.call)]⟩
set_option maxHeartbeats 1000000 in
set_option maxRecDepth 100000 in
theorem krec_d : denF krec_e krec_s krec_h Try.f13 := by
  intro k t w a b q0 q1 q2 q3 q4 q5 q6
  intro hpre
  dsimp only [krec_s, doFit] at hpre
  repeat' (first | (conv => whnf); first | done | exact True.intro | refine And.intro ?_ ?_ | refine Is.mk ?_ | (intro h; cases h; done) | (intro _))
  all_goals try dsimp only [maxLen, El.ty, kcmd_s, cmdSmall] at *
  all_goals try (with_reducible apply List.length_replicate)
  all_goals try simp only [Int.reduceSub, Int.reduceAdd, IntKind.wrap_i64, decide_eq_true_eq, decide_eq_false_iff_not] at *
  all_goals omega
set_option maxRecDepth 100000 in
theorem krec_p : (FnIs Try.prog 13 ∧ FnOk Try.prog 13 krec_s) ∧ (idsOk krec_s.cs && idsOk krec_s.cs' && Nat.ble krec_s.n krec_s.n') = true :=
  fn_of (l := [(17, within_s.call), (28, kcmd_s.call)]) (hi := krec_h) (S := krec_s) (fn := Try.f13) (c := Try.f13.body.get!) tysOk mixOk ⟨.inl within_m, .inl kcmd_m, trivial⟩ (by kernel_rfl) (by kernel_rfl) (by kernel_rfl) (by kernel_rfl) (by kernel_rfl) krec_d
theorem krec_m : May Try.prog (13, krec_s.call) := may_call krec_p
theorem krec_n : May Try.prog (13, krec_s.callN) := may_callN krec_p
end Go.J

set_option linter.unusedSimpArgs false
set_option linter.unusedVariables false
set_option linter.unusedSectionVars false
namespace Go.J
open Go.Proofs

@[reducible] def abytes_s : Spec where
  n := 1
  cs := [(0, .own logSh)]
  ar := [.ref 0]
  pre := fun (b, _, _, _) => b.length ≤ 1000000000
  n' := 2
  cs' := [(0, .own logSh), (1, .row 5 .u8)]
  rs := [.own 1]
  post := .fn fun (b, link, n, _) => (b, link, n, b, ())
@[reducible] def abytes_h : Hints := ⟨[], [], []⟩
@[reducible] noncomputable def abytes_e : Env := ⟨tys, [(26, clone_s.call)]⟩
set_option maxHeartbeats 1000000 in
set_option maxRecDepth 100000 in
theorem abytes_d : denF abytes_e abytes_s abytes_h Try.f10 := by
  intro b link n
  intro hpre
  dsimp only [abytes_s] at hpre
  repeat' (first | (conv => whnf); first | done | exact True.intro | refine And.intro ?_ ?_ | refine Is.mk ?_ | (intro h; cases h; done) | (intro _))
  all_goals try (with_reducible rfl)
  show b.length ≤ 1000000000000
  omega
set_option maxRecDepth 100000 in
theorem abytes_p : (FnIs Try.prog 10 ∧ FnOk Try.prog 10 abytes_s) ∧ (idsOk abytes_s.cs && idsOk abytes_s.cs' && Nat.ble abytes_s.n abytes_s.n') = true :=
  fn_of (l := [(26, clone_s.call)]) (hi := abytes_h) (S := abytes_s) (fn := Try.f10) (c := Try.f10.body.get!) tysOk mixOk ⟨.inl clone_m, trivial⟩ (by kernel_rfl) (by kernel_rfl) (by kernel_rfl) (by kernel_rfl) (by kernel_rfl) abytes_d
theorem abytes_m : May Try.prog (10, abytes_s.call) := may_call abytes_p
theorem abytes_n : May Try.prog (10, abytes_s.callN) := may_callN abytes_p
@[reducible] def alink_s : Spec where
  n := 1
  cs := [(0, .own logSh)]
  ar := [.ref 0]
  pre := fun (_, link, _, _) => link.length = 32
  n' := 1
  cs' := [(0, .own logSh)]
  rs := [.el (.ar 32 .u8)]
  post := .fn fun (b, link, n, _) => (b, link, n, link, ())
@[reducible] def alink_h : Hints := ⟨[], [], []⟩
@[reducible] noncomputable def alink_e : Env := ⟨tys, []⟩
set_option maxHeartbeats 1000000 in
set_option maxRecDepth 100000 in
theorem alink_d : denF alink_e alink_s alink_h Try.f23 := by
  intro b link n
  intro hpre
  dsimp only [alink_s] at hpre
  repeat' (first | (conv => whnf); first | done | exact True.intro | refine And.intro ?_ ?_ | refine Is.mk ?_ | (intro h; cases h; done) | (intro _))
  all_goals try (with_reducible rfl)
set_option maxRecDepth 100000 in
theorem alink_p : (FnIs Try.prog 23 ∧ FnOk Try.prog 23 alink_s) ∧ (idsOk alink_s.cs && idsOk alink_s.cs' && Nat.ble alink_s.n alink_s.n') = true :=
  fn_of (l := []) (hi := alink_h) (S := alink_s) (fn := Try.f23) (c := Try.f23.body.get!) tysOk mixOk trivial (by kernel_rfl) (by kernel_rfl) (by kernel_rfl) (by kernel_rfl) (by kernel_rfl) alink_d
theorem alink_m : May Try.prog (23, alink_s.call) := may_call alink_p
theorem alink_n : May Try.prog (23, alink_s.callN) := may_callN alink_p
@[reducible] def alen_s : Spec where
  n := 1
  cs := [(0, .own logSh)]
  ar := [.ref 0]
  pre := fun _ => True
  n' := 1
  cs' := [(0, .own logSh)]
  rs := [.el iE]
  post := .fn fun (b, link, n, _) => (b, link, n, n, ())
@[reducible] def alen_h : Hints := ⟨[], [], []⟩
@[reducible] noncomputable def alen_e : Env := ⟨tys, []⟩
set_option maxHeartbeats 1000000 in
set_option maxRecDepth 100000 in
theorem alen_d : denF alen_e alen_s alen_h Try.f20 := by
  intro b link n
  intro hpre
  repeat' (first | (conv => whnf); first | done | exact True.intro | refine And.intro ?_ ?_ | refine Is.mk ?_ | (intro h; cases h; done) | (intro _))
  all_goals try (with_reducible rfl)
set_option maxRecDepth 100000 in
theorem alen_p : (FnIs Try.prog 20 ∧ FnOk Try.prog 20 alen_s) ∧ (idsOk alen_s.cs && idsOk alen_s.cs' && Nat.ble alen_s.n alen_s.n') = true :=
  fn_of (l := []) (hi := alen_h) (S := alen_s) (fn := Try.f20) (c := Try.f20.body.get!) tysOk mixOk trivial (by kernel_rfl) (by kernel_rfl) (by kernel_rfl) (by kernel_rfl) (by kernel_rfl) alen_d
theorem alen_m : May Try.prog (20, alen_s.call) := may_call alen_p
theorem alen_n : May Try.prog (20, alen_s.callN) := may_callN alen_p
/-- Are the lists the same? -/
noncomputable def rsameF (xs ys : List recE.ty) : Bool := @decide (xs = ys) (Classical.propDecidable _)
theorem rsame_iff {xs ys : List recE.ty} : rsameF xs ys = true ↔ xs = ys := @decide_eq_true_iff _ (Classical.propDecidable _)
theorem rsame_no {xs ys : List recE.ty} (h : xs ≠ ys) : false = rsameF xs ys := (@decide_eq_false _ (Classical.propDecidable _) h).symm
theorem rsame_yes {xs ys : List recE.ty} (h : xs = ys) : true = rsameF xs ys := (rsame_iff.2 h).symm
@[reducible] noncomputable def rsame_s : Spec where
  n := 0
  cs := []
  ar := [.lend recE, .lend recE]
  pre := fun _ => True
  n' := 0
  cs' := []
  rs := [.el .bool]
  post := .fn fun (xs, ys, _) => (rsameF xs ys, ())
@[reducible] def rsame_a : Ann where
  nx := 0
  cs := []
  ss := [(0, .lend recE), (1, .lend recE), (5, .el (.int .i64))]
  inv := fun (x0, y0, _) (x, y, i, _) => x = x0 ∧ y = y0 ∧ 0 ≤ i ∧ i ≤ x.length ∧ x.length = y.length ∧ x.take i.toNat = y.take i.toNat
  mu := fun (x, _, i, _) => x.length - i.toNat
/-- Are the records the same, part by part? -/
def recEq (a b : recE.ty) : Bool := decide (a.1 = b.1) && (decide (a.2.1 = b.2.1) && (decide (a.2.2.1 = b.2.2.1) && (decide (a.2.2.2.1.1 = b.2.2.2.1.1) && (decide (a.2.2.2.1.2.1 = b.2.2.2.1.2.1) && (decide (a.2.2.2.1.2.2.1 = b.2.2.2.1.2.2.1) && (decide (a.2.2.2.1.2.2.2.1 = b.2.2.2.1.2.2.2.1) && (decide (a.2.2.2.1.2.2.2.2.1 = b.2.2.2.1.2.2.2.2.1) && (decide (a.2.2.2.1.2.2.2.2.2.1 = b.2.2.2.1.2.2.2.2.2.1) && (decide (a.2.2.2.1.2.2.2.2.2.2.1 = b.2.2.2.1.2.2.2.2.2.2.1) && (decide (a.2.2.2.1.2.2.2.2.2.2.2.1 = b.2.2.2.1.2.2.2.2.2.2.2.1) && (decide (a.2.2.2.1.2.2.2.2.2.2.2.2.1 = b.2.2.2.1.2.2.2.2.2.2.2.2.1) && (decide (a.2.2.2.1.2.2.2.2.2.2.2.2.2.1 = b.2.2.2.1.2.2.2.2.2.2.2.2.2.1) && (decide (a.2.2.2.1.2.2.2.2.2.2.2.2.2.2.1 = b.2.2.2.1.2.2.2.2.2.2.2.2.2.2.1) && (decide (a.2.2.2.1.2.2.2.2.2.2.2.2.2.2.2.1 = b.2.2.2.1.2.2.2.2.2.2.2.2.2.2.2.1) && (decide (a.2.2.2.1.2.2.2.2.2.2.2.2.2.2.2.2.1 = b.2.2.2.1.2.2.2.2.2.2.2.2.2.2.2.2.1) && (decide (a.2.2.2.1.2.2.2.2.2.2.2.2.2.2.2.2.2.1 = b.2.2.2.1.2.2.2.2.2.2.2.2.2.2.2.2.2.1) && (decide (a.2.2.2.1.2.2.2.2.2.2.2.2.2.2.2.2.2.2.1 = b.2.2.2.1.2.2.2.2.2.2.2.2.2.2.2.2.2.2.1))))))))))))))))))
theorem recEq_iff {a b : recE.ty} : recEq a b = true ↔ a = b := by
  obtain ⟨xk, xn, xt, ⟨xkk, xseq, xtr, xinst, xid, xside, xord, xpr, xq, xsh, xst, xwh, xc, xd, xtag, _⟩, _⟩ := a
  obtain ⟨yk, yn, yt, ⟨ykk, yseq, ytr, yinst, yid, yside, yord, ypr, yq, ysh, yst, ywh, yc, yd, ytag, _⟩, _⟩ := b
  constructor
  · intro h
    simp only [recEq, Bool.and_eq_true, decide_eq_true_eq] at h
    obtain ⟨rfl, rfl, rfl, rfl, rfl, rfl, rfl, rfl, rfl, rfl, rfl, rfl, rfl, rfl, rfl, rfl, rfl, rfl⟩ := h
    rfl
  · intro h
    cases h
    simp [recEq]
theorem take_next {α : Type} {xs ys : List α} {i : Nat} {d : α} (h : xs.take i = ys.take i) (hx : i < xs.length) (hy : i < ys.length) (e : xs.getD i d = ys.getD i d) : xs.take (i + 1) = ys.take (i + 1) := by
  rw [List.take_add_one, List.take_add_one, h]
  rw [List.getD_eq_getElem?_getD, List.getD_eq_getElem?_getD] at e
  rw [List.getElem?_eq_getElem hx, List.getElem?_eq_getElem hy] at e ⊢
  simp only [Option.getD_some] at e
  rw [e]
attribute [local irreducible] rsameF
@[reducible] def rsame_h : Hints := ⟨[(6, (tks 0 9 .done))], [(4, rsame_a)], []⟩
@[reducible] noncomputable def rsame_e : Env := ⟨tys, []⟩
set_option maxHeartbeats 1000000 in
set_option maxRecDepth 100000 in
theorem rsame_d : denF rsame_e rsame_s rsame_h Try.f19 := by
  intro xs ys
  intro hpre
  repeat' (first | (conv => whnf); first | done | exact True.intro | refine And.intro ?_ ?_ | refine Is.mk ?_ | (intro h; cases h; done) | (intro _))
  all_goals try dsimp only [maxLen, El.ty, rsame_a, rsame_s] at *
  all_goals repeat (with_reducible cases ‹_ ∧ _›)
  all_goals try subst_vars
  all_goals try simp only [decide_eq_true_eq, decide_eq_false_iff_not, IntKind.wrap_i64, Bool.not_eq_true', Bool.not_eq_false'] at *
  all_goals try omega
  all_goals try (with_reducible rfl)
  · exact rsame_no (fun e => by subst e; omega)
  · rfl
  all_goals rename List.take _ _ = List.take _ _ => ht
  · rename (_ && _) = _ => hq
    rename_i xs ys i _ _ _ _ _ _ _ _ _
    change recEq (xs.getD i.toNat recE.dflt) (ys.getD i.toNat recE.dflt) = _ at hq
    exact rsame_no (fun e => by subst e; rw [recEq_iff.2 rfl] at hq; exact absurd hq (by decide))
  · rename (_ && _) = _ => hq
    rename_i xs ys i _ _ _ _ _ _ _ _ _
    change recEq (xs.getD i.toNat recE.dflt) (ys.getD i.toNat recE.dflt) = _ at hq
    rw [show ((i + 1 + 9223372036854775808) % 18446744073709551616 - 9223372036854775808).toNat = i.toNat + 1 by omega]
    exact take_next ht (by omega) (by omega) (recEq_iff.1 hq)
  · refine rsame_yes ?_
    rw [List.take_of_length_le (by omega), List.take_of_length_le (by omega)] at ht
    exact ht
set_option maxRecDepth 100000 in
theorem rsame_p : (FnIs Try.prog 19 ∧ FnOk Try.prog 19 rsame_s) ∧ (idsOk rsame_s.cs && idsOk rsame_s.cs' && Nat.ble rsame_s.n rsame_s.n') = true :=
  fn_of (l := []) (hi := rsame_h) (S := rsame_s) (fn := Try.f19) (c := Try.f19.body.get!) tysOk mixOk trivial (by kernel_rfl) (by kernel_rfl) (by kernel_rfl) (by kernel_rfl) (by kernel_rfl) rsame_d
theorem rsame_m : May Try.prog (19, rsame_s.call) := may_call rsame_p
theorem rsame_n : May Try.prog (19, rsame_s.callN) := may_callN rsame_p
end Go.J

set_option linter.unusedSimpArgs false
set_option linter.unusedVariables false
set_option linter.unusedSectionVars false
namespace Go.J
open Go.Proofs

/-- A function that meets a contract meets one that asks more and promises less. -/
theorem FnOk.weak2 {P : Program} {f : FuncId} {S : Spec} {p : Gh S.cs S.ar → Prop} {q : PostK (Gh S.cs S.ar) (Gh S.cs' S.rs)} (h : FnOk P f S) (hp' : ∀ x, p x → S.pre x) (hw : ∀ x y, p x → S.Post x y → Spec.Post { S with pre := p, post := q } x y) : FnOk P f { S with pre := p, post := q } := by
  intro w0 F0 G x vs hm hf hp
  refine Calls.mono (h w0 F0 G x vs hm hf (hp' x hp)) ?_
  rintro e w' ⟨rs, y, G', e1, e2, e3, e4, e5, e6⟩
  exact ⟨rs, y, G', e1, e2, e3, e4, e5, hw _ _ hp e6⟩
theorem weak2_p {P : Program} {f : FuncId} {S : Spec} {p : Gh S.cs S.ar → Prop} {q : PostK (Gh S.cs S.ar) (Gh S.cs' S.rs)} (h : (FnIs P f ∧ FnOk P f S) ∧ (idsOk S.cs && idsOk S.cs' && Nat.ble S.n S.n') = true) (hp' : ∀ x, p x → S.pre x) (hw : ∀ x y, p x → S.Post x y → Spec.Post { S with pre := p, post := q } x y) :
    (FnIs P f ∧ FnOk P f { S with pre := p, post := q }) ∧ (idsOk S.cs && idsOk S.cs' && Nat.ble S.n S.n') = true := ⟨⟨h.1.1, h.1.2.weak2 hp' hw⟩, h.2⟩

/-- A record whose numbers the program can hold. -/
def RFit (r : recE.ty) : Prop := recFit r
theorem RFit.in {r : recE.ty} (h : recFit r) : RFit r := h
theorem RFit.out {r : recE.ty} (h : RFit r) : recFit r := h
/-- A record of numbers, of which each is one of the program's. -/
def DFit (d : doE.ty) : Prop := doFit d
theorem DFit.in {d : doE.ty} (h : doFit d) : DFit d := h
theorem DFit.out {d : doE.ty} (h : DFit d) : doFit d := h
theorem small_fit {r : recE.ty} (h : recSmall r) : RFit r := by
  obtain ⟨k, n, t, ⟨kk, seq, tr, inst, id, side, ord, pr, q, sh, st, wh, a, b, tag, _⟩, _⟩ := r
  revert h
  dsimp only [RFit, recSmall, cmdSmall, recFit, cmdFit, fit64, El.ty]
  rintro ⟨h1, h2, h3, h4, h5, h6, hl, h7⟩
  refine ⟨⟨?_, ?_⟩, ⟨?_, ?_⟩, ⟨?_, ?_⟩, hl, ?_⟩
  all_goals omega
theorem zero_fit : RFit zeroR := by
  refine small_fit ?_
  refine ⟨by decide, by decide, by decide, by decide, by decide, by decide, rfl, ?_⟩
  decide
attribute [irreducible] RFit DFit

@[reducible] def krecw_s : Spec := { krec_s with pre := fun (d, _) => DFit d, post := .rel fun _ (r, _) => RFit r }
theorem krecw_m : May Try.prog (13, krecw_s.call) := may_call (weak2_p (S := krec_s) (p := krecw_s.pre) (q := krecw_s.post) krec_p (fun x h => DFit.out h) fun x y _ h => small_fit h)
@[reducible] def arightw_s : Spec := { aright_s with pre := fun (r, _) => RFit r, post := .fn fun (r, _) => (arightR r, ()) }
theorem arightw_m : May Try.prog (14, arightw_s.call) := may_call (weak2_p (S := aright_s) (p := arightw_s.pre) (q := arightw_s.post) aright_p (fun x h => (RFit.out h).2.2.2.1) fun x y _ h => h)
@[reducible] def aputw_s : Spec := { aput_s with pre := fun (r, _) => RFit r, post := .fn fun (r, _) => (aputR r, ()) }
theorem aputw_m : May Try.prog (15, aputw_s.call) := may_call (weak2_p (S := aput_s) (p := aputw_s.pre) (q := aputw_s.post) aput_p (fun x h => RFit.out h) fun x y _ h => h)
@[reducible] def aaddw_s : Spec := { aadd_s with pre := fun (b, link, n, r, _) => RFit r ∧ link.length = 32 ∧ b.length ≤ 10000000 ∧ 0 ≤ n ∧ n ≤ 10000000, post := .fn fun (b, link, n, r, _) => addF b link n r }
theorem aaddw_m : May Try.prog (9, aaddw_s.call) := may_call (weak2_p (S := aadd_s) (p := aaddw_s.pre) (q := aaddw_s.post) aadd_p (fun x h => ⟨RFit.out h.1, h.2⟩) fun x y _ h => h)
theorem getD_mem' {α : Type} {xs : List α} {i : Int} {d : α} (h0 : 0 ≤ i) (h : i < (xs.length : Int)) : xs.getD i.toNat d ∈ xs := by
  rw [List.getD_eq_getElem?_getD, List.getElem?_eq_getElem (by omega), Option.getD_some]
  exact List.getElem_mem _

@[reducible] def recs_s : Spec where
  n := 0
  cs := []
  ar := [.el (.rd doE), .el iE, .el recE]
  pre := fun (l, _, raw, _) => (∀ d ∈ l, DFit d) ∧ RFit raw
  n' := 1
  cs' := [(0, .row 30 recE)]
  rs := [.own 0]
  post := .rel fun _ (out, _) => out.length ≤ 12 ∧ ∀ r ∈ out, RFit r
@[reducible] def recs_a : Ann where
  nx := 2
  cs := [(0, .row 30 recE), (1, .own (.el recE))]
  ss := [(0, .el (.rd doE)), (1, .el iE), (5, .ref 1), (7, .own 0), (8, .el iE)]
  inv := fun (_, r0, l0, a0, _, _) (out, r, l, a, i, _) => r = r0 ∧ l = l0 ∧ a = a0 ∧ 0 ≤ i ∧ i ≤ 12 ∧ out.length ≤ i ∧ ∀ x ∈ out, RFit x
  mu := fun (_, _, _, _, i, _) => 12 - i.toNat
@[reducible] def recs_h : Hints := ⟨[], [(3, recs_a)], []⟩
@[reducible] noncomputable def recs_e : Env := ⟨tys, [(13, krecw_s.call)]⟩
set_option maxHeartbeats 1000000 in
set_option maxRecDepth 100000 in
theorem recs_d : denF recs_e recs_s recs_h Try.f18 := by
  intro l at_ k n t kk seq tr inst id side ord pr q sh st wh a b tag
  intro hpre
  dsimp only [recs_s] at hpre
  repeat' (first | (conv => whnf); first | done | exact True.intro | refine And.intro ?_ ?_ | refine Is.mk ?_ | (intro h; cases h; done) | (intro _))
  all_goals try dsimp only [maxLen, El.ty, recs_a] at *
  all_goals repeat (with_reducible cases ‹_ ∧ _›)
  all_goals try (with_reducible assumption)
  all_goals try (with_reducible rfl)
  all_goals try subst_vars
  all_goals try simp only [decide_eq_true_eq, decide_eq_false_iff_not, IntKind.wrap_i64, Bool.and_eq_true, List.length_append, List.length_singleton] at *
  all_goals try omega
  all_goals try ((with_reducible change ((([] : List recE.ty).length : Nat) : Int) ≤ 0); exact Int.le_refl 0)
  all_goals try (rename ∀ d : doE.ty, _ → DFit d => hd; exact hd _ (getD_mem' (by assumption) (by assumption)))
  all_goals rename ∀ x : recE.ty, _ → RFit x => ha
  all_goals rename _ ∈ _ => hr
  all_goals try exact ha _ hr
  all_goals rcases List.mem_append.1 hr with hr | hr
  all_goals try exact ha _ hr
  all_goals rw [List.mem_singleton.1 hr]
  all_goals try assumption
  all_goals (rename (_, _) = _ => he; rw [he]; assumption)
set_option maxRecDepth 100000 in
theorem recs_p : (FnIs Try.prog 18 ∧ FnOk Try.prog 18 recs_s) ∧ (idsOk recs_s.cs && idsOk recs_s.cs' && Nat.ble recs_s.n recs_s.n') = true :=
  fn_of (l := [(13, krecw_s.call)]) (hi := recs_h) (S := recs_s) (fn := Try.f18) (c := Try.f18.body.get!) tysOk mixOk ⟨.inl krecw_m, trivial⟩ (by kernel_rfl) (by kernel_rfl) (by kernel_rfl) (by kernel_rfl) (by kernel_rfl) recs_d
theorem recs_m : May Try.prog (18, recs_s.call) := may_call recs_p
theorem recs_n : May Try.prog (18, recs_s.callN) := may_callN recs_p
end Go.J

set_option linter.unusedSimpArgs false
set_option linter.unusedVariables false
set_option linter.unusedSectionVars false
namespace Go.J
open Go.Proofs

theorem rv_at {a b c : List UInt8} {o n : Nat} (ha : a.length = o) (hb : b.length = n) : rv (a ++ (b ++ c)) o n = fb b := by
  subst ha hb
  unfold rv
  rw [List.drop_left, List.take_left]
theorem rv_left {x t : List UInt8} {o n : Nat} (h : o + n ≤ x.length) : rv (x ++ t) o n = rv x o n := by
  unfold rv
  rw [List.drop_append_of_le_length (by omega), List.take_append_of_le_length (by rw [List.length_drop]; omega)]
theorem noneC_eq {c : cmdE.ty} (h : noneC c = true) : c = zeroC := by
  obtain ⟨k, seq, tr, inst, id, side, ord, pr, q, sh, st, wh, a, b, tag, _⟩ := c
  simp only [noneC, zs, zt, Bool.and_eq_true, decide_eq_true_eq, and_true] at h
  obtain ⟨⟨rfl, rfl, rfl, rfl, rfl, rfl, rfl, rfl, rfl, rfl, rfl, rfl, rfl, rfl⟩, rfl⟩ := h
  rfl
theorem right_facts {k n t : Int} {c : cmdE.ty} (h : arightF k n t c = true) : 1 ≤ k ∧ k ≤ 5 ∧ 0 ≤ n ∧ n ≤ 1099511627776 ∧ 0 ≤ t ∧ t ≤ 31 ∧ ((k = 2 ∧ rightC c = true) ∨ (k ≠ 2 ∧ c = zeroC)) := by
  unfold arightF at h
  rcases kinds5 k with rfl | rfl | rfl | rfl | rfl | ⟨n1, n2, n3, n4, n5⟩
  · simp only [Int.reduceEq, if_true, if_false, reduceIte, Bool.and_eq_true, decide_eq_true_eq] at h
    exact ⟨by omega, by omega, by omega, by omega, by omega, by omega, .inr ⟨by decide, noneC_eq h.2.2.2⟩⟩
  · simp only [Int.reduceEq, reduceIte, Bool.and_eq_true, decide_eq_true_eq] at h
    have := w1_in h.1
    exact ⟨by omega, by omega, by omega, by omega, by omega, by omega, .inl ⟨rfl, h.2.1⟩⟩
  · simp only [Int.reduceEq, reduceIte, Bool.and_eq_true, decide_eq_true_eq] at h
    have := w1_in h.1
    exact ⟨by omega, by omega, by omega, by omega, by omega, by omega, .inr ⟨by decide, noneC_eq h.2.2⟩⟩
  · simp only [Int.reduceEq, reduceIte, Bool.and_eq_true, decide_eq_true_eq] at h
    have := w1_in h.1
    exact ⟨by omega, by omega, by omega, by omega, by omega, by omega, .inr ⟨by decide, noneC_eq h.2.2⟩⟩
  · simp only [Int.reduceEq, reduceIte, Bool.and_eq_true, decide_eq_true_eq] at h
    have := w1_in h.1
    exact ⟨by omega, by omega, by omega, by omega, by omega, by omega, .inr ⟨by decide, noneC_eq h.2.2⟩⟩
  · rw [if_neg n1, if_neg n2, if_neg n3, if_neg n4, if_neg n5] at h
    cases h
theorem put_zeroC : putC zeroC = [] := put_not _ _ _ _ _ _ _ _ _ _ _ _ _ _ _ (by simp [rightF])
/-- Is a record's tag as long as it must be? -/
def TagOk (r : recE.ty) : Prop := r.2.2.2.1.2.2.2.2.2.2.2.2.2.2.2.2.2.2.1.length = 32
theorem RFit.tag {r : recE.ty} (h : RFit r) : TagOk r := h.out.2.2.2.1
theorem putC_facts {c : cmdE.ty} (ht : c.2.2.2.2.2.2.2.2.2.2.2.2.2.2.1.length = 32) (h : rightC c = true) : ((putC c).length : Int) = lenK c.1 ∧ 1 ≤ (putC c).length ∧ (putC c).length ≤ 33 ∧ rv (putC c) 0 1 = c.1 ∧ getF (putC c) = (c, true) := by
  obtain ⟨k, seq, tr, inst, id, side, ord, pr, q, sh, st, wh, a, b, tag, _⟩ := c
  have e : putC (k, seq, tr, inst, id, side, ord, pr, q, sh, st, wh, a, b, tag, ()) = bytesF k seq tr inst id side ord pr q sh st wh a b tag := put_right _ _ _ _ _ _ _ _ _ _ _ _ _ _ _ h
  have h' : rightF k seq tr inst id side ord pr q sh st wh a b tag = true := h
  have ht' : tag.length = 32 := ht
  have hl := right_len ht' h'
  have hk := right_kind h'
  have hm := lenK_le k
  have hp := bytes_pos k seq tr inst id side ord pr q sh st wh a b tag
  rw [e]
  exact ⟨hl, by omega, by omega, rv_first (by omega) (by omega) _, get_bytes ht' h'⟩
/-- The parts of a right record's bytes. -/
theorem aput_facts {k n t : Int} {c : cmdE.ty} (h : arightF k n t c = true) : rv (aputF k n t c) 0 1 = k ∧ rv (aputF k n t c) 1 8 = n ∧ rv (aputF k n t c) 9 1 = t ∧ (aputF k n t c).drop 10 = putC c ∧ (aputF k n t c).length = 10 + (putC c).length := by
  obtain ⟨k0, k1, n0, n1, t0, t1, _⟩ := right_facts h
  have e : aputF k n t c = be 1 k ++ (be 8 n ++ (be 1 t ++ putC c)) := by
    unfold aputF
    rw [show n % 18446744073709551616 = n by omega]
    simp only [List.append_assoc]
  rw [e]
  refine ⟨rv_first (by omega) (by omega) _, ?_, ?_, ?_, ?_⟩
  · rw [rv_at (be_length 1 k) (be_length 8 n)]
    exact fb_be 8 n n0 (by show n < 18446744073709551616; omega)
  · rw [← List.append_assoc, rv_at (by rw [List.length_append, be_length, be_length]) (be_length 1 t)]
    exact fb_be1 t0 (by omega)
  · rw [← List.append_assoc, ← List.append_assoc]
    exact List.drop_left' (by simp only [List.length_append, be_length])
  · simp only [List.length_append, be_length]
    omega
theorem aget_aput {r : recE.ty} (ht : TagOk r) (h : arightR r = true) : agetF (aputR r) = (r, true) := by
  obtain ⟨k, n, t, c, _⟩ := r
  obtain ⟨f1, f2, f3, f4, f5⟩ := aput_facts (show arightF k n t c = true from h)
  obtain ⟨k0, k1, n0, n1, t0, t1, hc⟩ := right_facts (show arightF k n t c = true from h)
  have e : agetR (aputF k n t c) = (k, n, t, c, ()) := by
    unfold agetR
    rw [f1, f2, f3, f4, wi n0 (by omega)]
    rcases hc with ⟨rfl, hr⟩ | ⟨hk, rfl⟩
    · rw [if_pos rfl, (putC_facts (c := c) ht hr).2.2.2.2]
    · rw [if_neg hk]
  show agetF (aputF k n t c) = _
  unfold agetF
  rw [e, if_pos]
  unfold agetB
  rw [e, h, f1, f4, f5]
  have e2 : aputR (k, n, t, c, ()) = aputF k n t c := rfl
  rw [e2, decide_eq_true (rfl : aputF k n t c = aputF k n t c), decide_eq_true (show 10 ≤ 10 + (putC c).length by omega)]
  rcases hc with ⟨rfl, hr⟩ | ⟨hk, rfl⟩
  · rw [(putC_facts (c := c) ht hr).2.2.2.2]; simp
  · rw [decide_eq_false hk]; rfl
theorem aput_inj {a b : recE.ty} (ta : TagOk a) (tb : TagOk b) (ha : arightR a = true) (hb : arightR b = true) (h : aputR a = aputR b) : a = b := by
  have e1 := aget_aput ta ha
  have e2 := aget_aput tb hb
  rw [h, e2] at e1
  exact (congrArg Prod.fst e1).symm
theorem aget_out {xs : List UInt8} (h : (agetF xs).2 = true) : TagOk (agetF xs).1 ∧ arightR (agetF xs).1 = true ∧ aputR (agetF xs).1 = xs := by
  unfold agetF at h ⊢
  by_cases hb : agetB xs = true
  · rw [if_pos hb]
    unfold agetB at hb
    simp only [Bool.and_eq_true, decide_eq_true_eq] at hb
    refine ⟨?_, hb.2.2.1, hb.2.2.2⟩
    show (if rv xs 0 1 = 2 then (getF (xs.drop 10)).1 else zeroC).2.2.2.2.2.2.2.2.2.2.2.2.2.2.1.length = 32
    split
    · exact (get_fit _).1
    · rfl
  · rw [if_neg hb] at h
    cases h
/-- How long a right record's bytes are, told by them. -/
theorem aput_len2 {r : recE.ty} (ht : TagOk r) (h : arightR r = true) : ((aputR r).length : Int) = (if rv (aputR r) 0 1 = 2 then 10 + lenK (rv (aputR r) 10 1) else 10) ∧ 10 ≤ (aputR r).length ∧ (aputR r).length ≤ 43 ∧ (rv (aputR r) 0 1 = 2 → 11 ≤ (aputR r).length) := by
  obtain ⟨k, n, t, c, _⟩ := r
  obtain ⟨f1, f2, f3, f4, f5⟩ := aput_facts (show arightF k n t c = true from h)
  obtain ⟨k0, k1, n0, n1, t0, t1, hc⟩ := right_facts (show arightF k n t c = true from h)
  have e2 : aputR (k, n, t, c, ()) = aputF k n t c := rfl
  rw [e2, f1, f5]
  rcases hc with ⟨rfl, hr⟩ | ⟨hk, rfl⟩
  · obtain ⟨g1, g2, g3, g4, _⟩ := putC_facts (c := c) ht hr
    have e3 : rv (aputF 2 n t c) 10 1 = rv (putC c) 0 1 := by
      unfold rv
      rw [f4, List.drop_zero]
    rw [if_pos rfl, e3, g4]
    exact ⟨by omega, by omega, by omega, fun _ => by omega⟩
  · rw [if_neg hk, put_zeroC]
    exact ⟨rfl, by decide, by decide, fun h => absurd h hk⟩
theorem aput_prefix {a b : recE.ty} (ta : TagOk a) (tb : TagOk b) (ha : arightR a = true) (hb : arightR b = true) {t : List UInt8} (h : aputR b = aputR a ++ t) : t = [] := by
  obtain ⟨a1, a2, _, a3⟩ := aput_len2 ta ha
  obtain ⟨b1, b2, _, b3⟩ := aput_len2 tb hb
  have e1 : rv (aputR b) 0 1 = rv (aputR a) 0 1 := by rw [h]; exact rv_left (by omega)
  have hl := congrArg List.length h
  rw [List.length_append] at hl
  refine List.eq_nil_of_length_eq_zero ?_
  by_cases hk : rv (aputR a) 0 1 = 2
  · have e2 : rv (aputR b) 10 1 = rv (aputR a) 10 1 := by rw [h]; exact rv_left (by have := a3 hk; omega)
    rw [e1, e2, if_pos hk] at b1
    rw [if_pos hk] at a1
    omega
  · rw [e1, if_neg hk] at b1
    rw [if_neg hk] at a1
    omega
theorem aget_short {r : recE.ty} (ht : TagOk r) (h : arightR r = true) {n : Nat} (hn : n < (aputR r).length) : (agetF ((aputR r).take n)).2 = false := by
  cases hg : (agetF ((aputR r).take n)).2
  · rfl
  · obtain ⟨g1, g2, g3⟩ := aget_out hg
    have := aput_prefix g1 ht g2 h (t := (aputR r).drop n) (by rw [g3, List.take_append_drop])
    have := congrArg List.length this
    rw [List.length_drop, List.length_nil] at this
    omega
theorem aget_long {r : recE.ty} (ht : TagOk r) (h : arightR r = true) (c : UInt8) : (agetF (aputR r ++ [c])).2 = false := by
  cases hg : (agetF (aputR r ++ [c])).2
  · rfl
  · obtain ⟨g1, g2, g3⟩ := aget_out hg
    have := aput_prefix ht g1 h g2 (t := [c]) g3
    cases this
end Go.J

set_option linter.unusedSimpArgs false
set_option linter.unusedVariables false
set_option linter.unusedSectionVars false
namespace Go.J
open Go.Proofs

theorem fb_len4 {n : Nat} (h : n ≤ 1000) : fb (be 4 (n : Int)) = n := fb_be4 (by omega) (by omega)
/-- An entry's parts. -/
theorem ent_parts {link X L rest : List UInt8} (hX : X.length ≤ 200) (hL : L.length = 32) (f : List UInt8 → List UInt8 → List UInt8) (hf : f = linkF) :
    entF link (be 4 (X.length : Int) ++ (X ++ (L ++ rest))) = if (agetF X).2 = true ∧ L = f link X then ((agetF X).1, f link X, 36 + (X.length : Int)) else (zeroR, link, 0) := by
  subst hf
  have e1 : rv (be 4 (X.length : Int) ++ (X ++ (L ++ rest))) 0 4 = X.length := by
    have := rv_at (a := []) (b := be 4 (X.length : Int)) (c := X ++ (L ++ rest)) (o := 0) (n := 4) rfl (be_length 4 _)
    rw [List.nil_append] at this
    rw [this, fb_len4 (by omega)]
  have e2 : ((be 4 (X.length : Int) ++ (X ++ (L ++ rest))).drop 4).take X.length = X := by
    rw [List.drop_left' (be_length 4 _), List.take_left' rfl]
  have e3 : ((be 4 (X.length : Int) ++ (X ++ (L ++ rest))).drop (4 + X.length)).take 32 = L := by
    rw [← List.append_assoc, List.drop_left' (by rw [List.length_append, be_length]), List.take_left' hL]
  have e4 : (be 4 (X.length : Int) ++ (X ++ (L ++ rest))).length = 4 + (X.length + (32 + rest.length)) := by
    simp only [List.length_append, be_length, hL]
  unfold entF
  rw [e1, Int.toNat_natCast, e2, e3, e4]
  by_cases hc : (agetF X).2 = true ∧ L = linkF link X
  · rw [if_pos hc, if_pos ⟨by omega, by omega, by omega, hc⟩]
  · rw [if_neg hc, if_neg fun h => hc h.2.2.2]
/-- A right record's entry is read. -/
theorem ent_ok {link : List UInt8} {r : recE.ty} (ht : TagOk r) (h : arightR r = true) (rest : List UInt8) : entF link (entB link r ++ rest) = (r, linkF link (aputR r), 36 + ((aputR r).length : Int)) := by
  have hl := (aput_len2 ht h).2.2.1
  have e : entB link r ++ rest = be 4 ((aputR r).length : Int) ++ (aputR r ++ (linkF link (aputR r) ++ rest)) := by simp only [entB, List.append_assoc]
  rw [e, ent_parts (by omega) (link_len _ _) linkF rfl, aget_aput ht h, if_pos ⟨rfl, rfl⟩]
theorem ent_len0 {link : List UInt8} {r : recE.ty} : (entB link r).length = 36 + (aputR r).length := by
  simp only [entB, List.length_append, be_length, link_len]; omega
theorem ent_first {link : List UInt8} {r : recE.ty} (ht : TagOk r) (h : arightR r = true) (rest : List UInt8) : rv (entB link r ++ rest) 0 4 = (aputR r).length := by
  have hl := (aput_len2 ht h).2.2.1
  have e : entB link r ++ rest = be 4 ((aputR r).length : Int) ++ (aputR r ++ (linkF link (aputR r) ++ rest)) := by simp only [entB, List.append_assoc]
  have := rv_at (a := []) (b := be 4 ((aputR r).length : Int)) (c := aputR r ++ (linkF link (aputR r) ++ rest)) (o := 0) (n := 4) rfl (be_length 4 _)
  rw [List.nil_append] at this
  rw [e, this, fb_len4 (by omega)]
/-- An entry that was cut is none. -/
theorem ent_cut {link ahead : List UInt8} {r : recE.ty} (ht : TagOk r) (h : arightR r = true) {m : Nat} (hm : m < (entB link r).length) : entF ahead ((entB link r).take m) = (zeroR, ahead, 0) := by
  have hl : ((entB link r).take m).length = m := by rw [List.length_take]; omega
  have hn := ent_len0 (link := link) (r := r)
  refine if_neg fun hc => ?_
  obtain ⟨h1, _, h3, _⟩ := hc
  rw [hl] at h1 h3
  have e : rv ((entB link r).take m) 0 4 = (aputR r).length := by
    have := ent_first (link := link) ht h []
    rw [List.append_nil] at this
    rw [← this, ← List.take_append_drop m (entB link r)]
    rw [rv_left (x := (entB link r).take m) (by omega), List.take_append_drop]
  rw [e] at h3
  omega
attribute [local irreducible] linkF entF entB aputR arightR agetF parseG
/-- The log of records behind a link; its link. -/
def encL : List UInt8 → List recE.ty → List UInt8
  | _, [] => []
  | link, r :: rs => entB link r ++ encL (linkF link (aputR r)) rs
def endL : List UInt8 → List recE.ty → List UInt8
  | link, [] => link
  | link, r :: rs => endL (linkF link (aputR r)) rs
theorem encL_append : ∀ (link : List UInt8) (xs ys : List recE.ty), encL link (xs ++ ys) = encL link xs ++ encL (endL link xs) ys
  | _, [], _ => rfl
  | link, r :: xs, ys => by
    show entB link r ++ encL _ (xs ++ ys) = entB link r ++ encL _ xs ++ encL (endL _ xs) ys
    rw [encL_append, List.append_assoc]
theorem endL_append : ∀ (link : List UInt8) (xs ys : List recE.ty), endL link (xs ++ ys) = endL (endL link xs) ys
  | _, [], _ => rfl
  | link, r :: xs, ys => endL_append _ xs ys
/-- All are right. -/
def RightL (rs : List recE.ty) : Prop := ∀ r ∈ rs, TagOk r ∧ arightR r = true
theorem parse_app : ∀ (rs : List recE.ty) (_ : RightL rs) (link tail : List UInt8) (at_ : Int),
    parseG link (encL link rs ++ tail) at_ = (rs ++ (parseG (endL link rs) tail (at_ + (encL link rs).length)).1, (parseG (endL link rs) tail (at_ + (encL link rs).length)).2)
  | [], _, link, tail, at_ => by
    show parseG link ([] ++ tail) at_ = ([] ++ (parseG link tail (at_ + (0 : Int))).1, (parseG link tail (at_ + (0 : Int))).2)
    rw [Int.add_zero]; rfl
  | r :: rs, hr, link, tail, at_ => by
    obtain ⟨ht, h⟩ := hr r (List.mem_cons_self ..)
    have e : encL link (r :: rs) ++ tail = entB link r ++ (encL (linkF link (aputR r)) rs ++ tail) := List.append_assoc ..
    have he := ent_ok (link := link) ht h (encL (linkF link (aputR r)) rs ++ tail)
    have hn := ent_len0 (link := link) (r := r)
    have hx : entB link r ++ (encL (linkF link (aputR r)) rs ++ tail) ≠ [] := by
      intro h0
      have := congrArg List.length h0
      rw [List.length_append, List.length_nil] at this
      omega
    rw [e, parseG_step hx (by rw [he]; show (36 + ((aputR r).length : Int)) ≠ 0; omega), he]
    dsimp only
    rw [List.drop_left' (by omega), parse_app rs (fun x hx => hr x (List.mem_cons_of_mem _ hx))]
    have e3 : at_ + (36 + ((aputR r).length : Int)) + ((encL (linkF link (aputR r)) rs).length : Int) = at_ + ((encL link (r :: rs)).length : Int) := by
      show _ = at_ + (((entB link r ++ encL (linkF link (aputR r)) rs).length : Nat) : Int)
      rw [List.length_append, hn]; omega
    rw [e3]
    rfl
/-- A whole log. -/
theorem parse_all {rs : List recE.ty} (h : RightL rs) : parseF (encL noSum rs) = (rs, -1) := by
  have := parse_app rs h noSum [] 0
  rw [List.append_nil, parseG_nil] at this
  unfold parseF
  rw [this, List.append_nil]
/-- A log that was cut within an entry. -/
theorem parse_cut {rs : List recE.ty} {r : recE.ty} (h : RightL rs) (ht : TagOk r) (hr : arightR r = true) {m : Nat} (h0 : 0 < m) (hm : m < (entB (endL noSum rs) r).length) :
    parseF (encL noSum rs ++ (entB (endL noSum rs) r).take m) = (rs, ((encL noSum rs).length : Int)) := by
  have := parse_app rs h noSum ((entB (endL noSum rs) r).take m) 0
  unfold parseF
  have hx : (entB (endL noSum rs) r).take m ≠ [] := by
    intro e
    have := congrArg List.length e
    rw [List.length_take, List.length_nil] at this
    omega
  rw [this, parseG_stop hx (by rw [ent_cut ht hr hm]), List.append_nil, Int.zero_add]
theorem encL_snoc (ws : List recE.ty) (link : List UInt8) (r : recE.ty) : encL link (ws ++ [r]) = encL link ws ++ entB (endL link ws) r := by
  rw [encL_append]
  show _ ++ (entB _ r ++ []) = _
  rw [List.append_nil]
theorem endL_snoc (ws : List recE.ty) (link : List UInt8) (r : recE.ty) : endL link (ws ++ [r]) = linkF (endL link ws) (aputR r) := endL_append link ws [r]
/-- The places at which entries end, the log's beginning first. -/
def endsL (ws : List recE.ty) : List Int := (List.range (ws.length + 1)).map fun j => ((encL noSum (ws.take j)).length : Int)
theorem endsL_len (ws : List recE.ty) : (endsL ws).length = ws.length + 1 := by simp [endsL]
theorem endsL_snoc (ws : List recE.ty) (r : recE.ty) : endsL (ws ++ [r]) = endsL ws ++ [((encL noSum (ws ++ [r])).length : Int)] := by
  unfold endsL
  rw [List.length_append, List.length_singleton, List.range_succ, List.map_append]
  congr 1
  · refine List.map_congr_left fun j hj => ?_
    rw [List.mem_range] at hj
    rw [List.take_append_of_le_length (by omega)]
  · show [((encL noSum ((ws ++ [r]).take (ws.length + 1))).length : Int)] = _
    rw [List.take_of_length_le (by rw [List.length_append, List.length_singleton]; omega)]
theorem endsL_get (ws : List recE.ty) {j : Nat} (h : j ≤ ws.length) : (endsL ws).getD j 0 = ((encL noSum (ws.take j)).length : Int) := by
  unfold endsL
  rw [List.getD_eq_getElem?_getD, List.getElem?_map, List.getElem?_range (by omega)]
  rfl
theorem encL_cut (ws : List recE.ty) (j : Nat) : encL noSum ws = encL noSum (ws.take j) ++ encL (endL noSum (ws.take j)) (ws.drop j) := by
  rw [← encL_append, List.take_append_drop]
theorem RightL.take {ws : List recE.ty} (h : RightL ws) (j : Nat) : RightL (ws.take j) := fun r hr => h r (List.mem_of_mem_take hr)
/-- THE LOG, cut at a place: the records that end no later, and the place behind them. -/
theorem parse_take {ws : List recE.ty} (h : RightL ws) {k n : Nat} (hk : k ≤ (encL noSum ws).length) (hn : n ≤ ws.length) (h1 : (encL noSum (ws.take n)).length ≤ k) (h2 : n < ws.length → k < (encL noSum (ws.take (n + 1))).length) :
    parseF ((encL noSum ws).take k) = (ws.take n, if ((encL noSum (ws.take n)).length : Int) = k then -1 else ((encL noSum (ws.take n)).length : Int)) := by
  by_cases he : (encL noSum (ws.take n)).length = k
  · have e : (encL noSum ws).take k = encL noSum (ws.take n) := by
      rw [encL_cut ws n, List.take_left' he]
    rw [e, parse_all (h.take n), if_pos (by omega)]
  · have hlt : n < ws.length := by
      refine Nat.lt_of_not_le fun hge => ?_
      rw [List.take_of_length_le hge] at h1 he
      omega
    have h3 := h2 hlt
    have hd : ws.drop n = ws[n] :: ws.drop (n + 1) := List.drop_eq_getElem_cons hlt
    have e4 : ws.take (n + 1) = ws.take n ++ [ws[n]] := by rw [List.take_add_one, List.getElem?_eq_getElem hlt]; rfl
    rw [e4, encL_snoc, List.length_append] at h3
    have e : (encL noSum ws).take k = encL noSum (ws.take n) ++ (entB (endL noSum (ws.take n)) ws[n]).take (k - (encL noSum (ws.take n)).length) := by
      rw [encL_cut ws n, hd]
      show List.take k (encL noSum (ws.take n) ++ (entB (endL noSum (ws.take n)) ws[n] ++ encL _ (ws.drop (n + 1)))) = _
      rw [List.take_append, List.take_of_length_le (by omega)]
      congr 1
      rw [List.take_append_of_le_length (by omega)]
    obtain ⟨ht, hr⟩ := h ws[n] (List.getElem_mem hlt)
    rw [e, parse_cut (h.take n) ht hr (by omega) (by omega), if_neg (by omega)]
end Go.J

set_option linter.unusedSimpArgs false
set_option linter.unusedVariables false
set_option linter.unusedSectionVars false
namespace Go.J
open Go.Proofs

def rec5 : recE.ty := (1, 5, 0, (0, 0, 0, 0, 0, 0, 0, 0, 0, 0, 0, 0, 0, 0, List.replicate 32 El.u8.dflt, ()), ())
theorem rec5_right : arightR rec5 = true := by kernel_rfl
theorem rec5_put : aputR rec5 = [1, 0, 0, 0, 0, 0, 0, 0, 5, 0] := by kernel_rfl
theorem rec5_fit : RFit rec5 := by
  refine small_fit ?_
  refine ⟨by decide, by decide, by decide, by decide, by decide, by decide, rfl, ?_⟩
  decide
theorem rec5_be : be 4 (([1, 0, 0, 0, 0, 0, 0, 0, 5, 0] : List UInt8).length : Int) = [0, 0, 0, 10] := by kernel_rfl
/-- The link behind the first. -/
def link5 : List UInt8 := linkF noSum (aputR rec5)
theorem link5_len : link5.length = 32 := link_len _ _
theorem ent5 : entB noSum rec5 = [0, 0, 0, 10, 1, 0, 0, 0, 0, 0, 0, 0, 5, 0] ++ link5 := by
  unfold entB link5
  rw [rec5_put, rec5_be]
  rfl
theorem add5 : addF [] noSum 0 rec5 = ([0, 0, 0, 10, 1, 0, 0, 0, 0, 0, 0, 0, 5, 0] ++ link5, link5, 1, true, ()) := by
  rw [addF_yes rec5_right, ent5]
  rfl
theorem parse5 : parseF ([0, 0, 0, 10, 1, 0, 0, 0, 0, 0, 0, 0, 5, 0] ++ link5 ++ [0]) = ([rec5], 46) := by
  have h := parse_app [rec5] (fun r hr => by rw [List.mem_singleton.1 hr]; exact ⟨rec5_fit.tag, rec5_right⟩) noSum [0] 0
  have e : encL noSum [rec5] = [0, 0, 0, 10, 1, 0, 0, 0, 0, 0, 0, 0, 5, 0] ++ link5 := by
    show entB noSum rec5 ++ [] = _
    rw [List.append_nil, ent5]
  have he : (entF (endL noSum [rec5]) [0]).2.2 = 0 := by
    unfold entF
    rw [if_neg fun h => absurd h.1 (by decide)]
  rw [e, parseG_stop (by simp) he, List.length_append, link5_len] at h
  exact h
theorem take14 : List.take (14 - 0 : Int).toNat (List.drop (Int.toNat 0) ([0, 0, 0, 10, 1, 0, 0, 0, 0, 0, 0, 0, 5, 0] ++ link5)) = [0, 0, 0, 10, 1, 0, 0, 0, 0, 0, 0, 0, 5, 0] :=
  List.take_left' (l₂ := link5) (i := 14) rfl
attribute [local irreducible] addF parseF linkF entB aputR arightR agetF rsameF link5
@[reducible] def auditRuns_s : Spec where
  n := 0
  cs := []
  ar := []
  pre := fun _ => True
  n' := 0
  cs' := []
  rs := [.el .bool]
  post := .fn fun _ => (true, ())
@[reducible] def auditRuns_h : Hints := ⟨[], [], []⟩
@[reducible] noncomputable def auditRuns_e : Env := ⟨tys, [(8, anew_s.call), (9, aaddw_s.call), (10, abytes_s.call), (11, same_s.call), (12, parse_s.call)]⟩
set_option maxHeartbeats 1000000 in
set_option maxRecDepth 100000 in
theorem auditRuns_d : denF auditRuns_e auditRuns_s auditRuns_h Try.f3 := by
  intro _
  repeat' (first | (conv => whnf); first | done | exact True.intro | refine And.intro ?_ ?_ | refine Is.mk ?_ | (intro h; cases h; done) | (intro _))
  all_goals try dsimp only [maxLen, El.ty] at *
  all_goals try exact rec5_fit
  all_goals have a5 : addF [] noSum 0 (1, 5, 0, (0, 0, 0, 0, 0, 0, 0, 0, 0, 0, 0, 0, 0, 0, List.replicate 32 El.u8.dflt, ()), ()) = ([0, 0, 0, 10, 1, 0, 0, 0, 0, 0, 0, 0, 5, 0] ++ link5, link5, 1, true, ()) := add5
  all_goals have p5 := parse5
  all_goals have l5 := link5_len
  all_goals have z0 : UInt8.ofNat (Int.toNat 0) = 0 := rfl
  all_goals have z1 : UInt8.ofNat (Int.toNat 1) = 1 := rfl
  all_goals have z5 : UInt8.ofNat (Int.toNat 5) = 5 := rfl
  all_goals have z10 : UInt8.ofNat (Int.toNat 10) = 10 := rfl
  all_goals have nl : noSum.length = 32 := rfl
  all_goals try simp only [a5, z0, z1, z5, z10, nl, take14, List.nil_append, p5, List.length_append, l5] at *
  all_goals try omega
  all_goals try simp only [List.length_cons, List.length_nil] at *
  all_goals try omega
  all_goals try (exfalso; simp at *; done)
  all_goals try (exact decide_eq_true True.intro)
  all_goals exfalso
  all_goals try (rename (_ && _) = false => h; have h : recEq rec5 rec5 = false := h; rw [recEq_iff.2 rfl] at h; exact absurd h (by decide))
set_option maxRecDepth 100000 in
theorem auditRuns_p : (FnIs Try.prog 3 ∧ FnOk Try.prog 3 auditRuns_s) ∧ (idsOk auditRuns_s.cs && idsOk auditRuns_s.cs' && Nat.ble auditRuns_s.n auditRuns_s.n') = true :=
  fn_of (l := [(8, anew_s.call), (9, aaddw_s.call), (10, abytes_s.call), (11, same_s.call), (12, parse_s.call)]) (hi := auditRuns_h) (S := auditRuns_s) (fn := Try.f3) (c := Try.f3.body.get!) tysOk mixOk ⟨.inl anew_m, .inl aaddw_m, .inl abytes_m, .inl same_m, .inl parse_m, trivial⟩ (by kernel_rfl) (by kernel_rfl) (by kernel_rfl) (by kernel_rfl) (by kernel_rfl) auditRuns_d
theorem auditRuns_m : May Try.prog (3, auditRuns_s.call) := may_call auditRuns_p
theorem auditRuns_n : May Try.prog (3, auditRuns_s.callN) := may_callN auditRuns_p
end Go.J

set_option linter.unusedSimpArgs false
set_option linter.unusedVariables false
set_option linter.unusedSectionVars false
namespace Go.J
open Go.Proofs

theorem ap1 (h : (!arightR (0, 0, 0, (0, 0, 0, 0, 0, 0, 0, 0, 0, 0, 0, 0, 0, 0, List.replicate 32 El.u8.dflt, ()), ())) = false) : False := by
  have e : arightR (0, 0, 0, (0, 0, 0, 0, 0, 0, 0, 0, 0, 0, 0, 0, 0, 0, List.replicate 32 El.u8.dflt, ()), ()) = false := by kernel_rfl
  rw [e] at h
  cases h
theorem ap3 {A : recE.ty} (f : RFit A) (h1 : (!arightR A) = false) (h : (!(agetF (aputR A)).2) = true) : False := by
  rw [aget_aput f.tag (not_f h1)] at h
  cases h
theorem ap4 {A : recE.ty} (f : RFit A) (h1 : (!arightR A) = false) (h : (!recEq (agetF (aputR A)).1 A) = true) : False := by
  rw [aget_aput f.tag (not_f h1), recEq_iff.2 rfl] at h
  cases h
theorem ap5 {A : recE.ty} (f : RFit A) (h1 : (!arightR A) = false) (h : decide (((aputR A).length : Int) < 1) = true) : False := by
  have := (aput_len2 f.tag (not_f h1)).2.1
  have := of_decide_eq_true h
  omega
theorem ap6 {A B : recE.ty} (f : RFit A) (g : RFit B) (h1 : (!arightR A) = false) (h2 : (!arightR B) = false) (h : (!decide (decide (aputR A = aputR B) = recEq A B)) = true) : False := by
  refine of_decide_eq_false (not_t h) ?_
  by_cases e : A = B
  · subst e
    rw [recEq_iff.2 rfl, decide_eq_true rfl]
  · rw [decide_eq_false fun e2 => e (aput_inj f.tag g.tag (not_f h1) (not_f h2) e2)]
    exact (Bool.eq_false_iff.2 fun q => e (recEq_iff.1 q)).symm
theorem ap7 {A : recE.ty} {c : UInt8} (f : RFit A) (h1 : (!arightR A) = false) (h : (!(agetF ([] ++ aputR A ++ [UInt8.ofNat ((c.toNat : Nat) : Int).toNat])).2) = false) : False := by
  rw [List.nil_append, aget_long f.tag (not_f h1)] at h
  cases h
theorem ap9 {L : Nat} (h : L ≤ 300) (h1 : ¬ (L : Int) < 1) : IntKind.i64.wrap ((L : Int) - 1) = (L : Int) - 1 := wi (by omega) (by omega)
theorem ap10 {L : Nat} (n : Int) (h : L ≤ 300) (h1 : ¬ (L : Int) < 1) : 0 ≤ n % (IntKind.i64.wrap ((L : Int) - 1) - 0 + 1) ∧ n % (IntKind.i64.wrap ((L : Int) - 1) - 0 + 1) < L := by
  rw [ap9 h h1]
  have hm := mod_in n (l := ((L : Int) - 1) - 0 + 1) (by omega)
  omega
theorem ap8 {A : recE.ty} {n : Int} (f : RFit A) (h1 : (!arightR A) = false) (h : (!(agetF (List.take (0 + n % (IntKind.i64.wrap (((aputR A).length : Int) - 1) - 0 + 1) - 0).toNat (List.drop (Int.toNat 0) (aputR A)))).2) = false) : False := by
  obtain ⟨_, l1, l2, _⟩ := aput_len2 f.tag (not_f h1)
  rw [wi (x := ((aputR A).length : Int) - 1) (by omega) (by omega)] at h
  have hm := mod_in n (l := (((aputR A).length : Int) - 1) - 0 + 1) (by omega)
  generalize n % ((((aputR A).length : Int) - 1) - 0 + 1) = m at h hm
  rw [show Int.toNat 0 = 0 from rfl, List.drop_zero, aget_short f.tag (not_f h1) (by omega)] at h
  cases h
attribute [local irreducible] addF parseF linkF entB aputR arightR agetF rsameF
@[reducible] def auditApart_s : Spec where
  n := 0
  cs := []
  ar := [.el recE, .el recE, .el doE, .el .bool, .el iE, .el .u8]
  pre := fun (a, b, d, _, n, _) => RFit a ∧ RFit b ∧ DFit d ∧ fit64 n
  n' := 0
  cs' := []
  rs := [.el .bool]
  post := .fn fun _ => (true, ())
@[reducible] def auditApart_h : Hints := ⟨[(2, (.take 0 false (.take 2 false (.last 1 false [2] (.last 3 false [] (.last 4 false [] .done)))))), (5, (.take 0 false (.take 2 false (.last 1 false [2] (.last 3 false [] (.last 4 false [] (.last 5 false [] .done))))))), (7, (tks 0 2 (.take 2 true (tks 3 4 (.take 7 true (tks 8 4 (.take 12 true (tks 13 2 (tks 16 3 (.last 15 false [16, 17] (tks 19 2 .done)))))))))))], [], []⟩
@[reducible] noncomputable def auditApart_e : Env := ⟨tys, [(13, krecw_s.call), (14, arightw_s.call), (3, auditRuns_s.call), (15, aputw_s.call), (16, aget_s.call), (11, same_s.call), (17, within_s.call)]⟩
set_option maxHeartbeats 1000000 in
set_option maxRecDepth 100000 in
theorem auditApart_d : denF auditApart_e auditApart_s auditApart_h Try.f4 := by
  intro k n t kk seq tr inst id side ord pr q sh st wh a b tag k' n' t' kk' seq' tr' inst' id' side' ord' pr' q' sh' st' wh' a' b' tag' d1 d2 d3 d4 d5 d6 d7 d8 d9 d10 d11 d12 raw cut more
  intro hpre
  dsimp only [auditApart_s] at hpre
  obtain ⟨f1, f2, fd, fn0, fn1⟩ := hpre
  repeat' (first | (conv => whnf); first | done | exact True.intro | refine And.intro ?_ ?_ | refine Is.mk ?_ | (intro h; cases h; done) | (intro _))
  all_goals try dsimp only [maxLen, El.ty] at *
  all_goals try assumption
  all_goals try exact zero_fit
  all_goals first | (rename (!raw) = true => hw; rename RFit _ => fA; have fB := f1) | (have fA := f1; have fB := f2)
  all_goals have lA := aput_len fA.out
  all_goals try ((with_reducible change false = true); exfalso; first | exact ap1 (by assumption) | exact ap3 fA (by assumption) (by assumption) | exact ap4 fA (by assumption) (by assumption) | exact ap5 fA (by assumption) (by assumption) | exact ap6 fA fB (by assumption) (by assumption) (by assumption) | exact ap7 fA (by assumption) (by assumption) | exact ap8 fA (by assumption) (by assumption))
  all_goals clear f1 f2 fd fn0 fn1
  all_goals try (rename decide (_ < (1 : Int)) = false => h1; have h1 := of_decide_eq_false h1; have e9 := ap9 lA h1; have e10 := ap10 cut lA h1)
  all_goals try simp only [List.length_append, List.length_nil, List.length_cons, List.length_take, List.length_drop]
  all_goals try omega
  all_goals try exact u8lt _
set_option maxRecDepth 100000 in
theorem auditApart_p : (FnIs Try.prog 4 ∧ FnOk Try.prog 4 auditApart_s) ∧ (idsOk auditApart_s.cs && idsOk auditApart_s.cs' && Nat.ble auditApart_s.n auditApart_s.n') = true :=
  fn_of (l := [(13, krecw_s.call), (14, arightw_s.call), (3, auditRuns_s.call), (15, aputw_s.call), (16, aget_s.call), (11, same_s.call), (17, within_s.call)]) (hi := auditApart_h) (S := auditApart_s) (fn := Try.f4) (c := Try.f4.body.get!) tysOk mixOk ⟨.inl krecw_m, .inl arightw_m, .inl auditRuns_m, .inl aputw_m, .inl aget_m, .inl same_m, .inl within_m, trivial⟩ (by kernel_rfl) (by kernel_rfl) (by kernel_rfl) (by kernel_rfl) (by kernel_rfl) auditApart_d
theorem auditApart_m : May Try.prog (4, auditApart_s.call) := may_call auditApart_p
theorem auditApart_n : May Try.prog (4, auditApart_s.callN) := may_callN auditApart_p
end Go.J

set_option linter.unusedSimpArgs false
set_option linter.unusedVariables false
set_option linter.unusedSectionVars false
namespace Go.J
open Go.Proofs

theorem addF_no2 {b link : List UInt8} {n : Int} {r : recE.ty} (h : arightR r = false) : addF b link n r = (b, link, n, false, ()) := addF_no (by rw [h]; rfl)
theorem addF_yes2 {b link : List UInt8} {n : Int} {r : recE.ty} (h : arightR r = true) : addF b link n r = (b ++ (be 4 ((aputR r).length : Int) ++ aputR r ++ linkF link (aputR r)), linkF link (aputR r), n + 1, true, ()) := addF_yes h
attribute [local irreducible] List.getD addF parseF linkF entB aputR arightR agetF rsameF
@[reducible] def auditLinks_s : Spec where
  n := 0
  cs := []
  ar := [.el (.rd doE), .el recE]
  pre := fun (l, r, _) => (∀ d ∈ l, DFit d) ∧ RFit r
  n' := 0
  cs' := []
  rs := [.el .bool]
  post := .fn fun _ => (true, ())
@[reducible] def auditLinks_a : Ann where
  nx := 4
  cs := [(0, .row 30 recE), (1, .own logSh), (2, .row 5 .u8), (3, .own (.el (.ar 32 .u8)))]
  ss := [(5, .ref 1), (6, .own 2), (7, .ref 3), (18, .own 0), (19, .el iE), (20, .el iE)]
  inv := fun (rs0, _, _, _, _, _, ln0, _, _) (rs, b, lk, n, want, lc, ln, i, _) => rs = rs0 ∧ ln = ln0 ∧ b = want ∧ lk = lc ∧ lc.length = 32 ∧ 0 ≤ i ∧ i ≤ rs.length ∧ 0 ≤ n ∧ n ≤ i ∧ want.length ≤ 1000 * i
  mu := fun (rs, _, _, _, _, _, _, i, _) => rs.length - i.toNat
@[reducible] def auditLinks_h : Hints := ⟨[(16, (tks 0 4 (.take 5 false (.take 7 false (.last 4 false [7] (.last 6 false [7] (.last 8 false [] (.last 9 false [] .done)))))))), (18, (.take 0 false (.take 2 false (.last 1 false [] (.take 3 false (.take 4 true (.take 5 false (.take 7 false (.last 6 false [7] (tks 8 2 .done))))))))))], [(7, auditLinks_a)], []⟩
@[reducible] noncomputable def auditLinks_e : Env := ⟨tys, [(8, anew_s.call), (18, recs_s.call), (20, alen_s.call), (9, aaddw_s.call), (14, arightw_s.call), (15, aputw_s.call), (21, link_s.call), (22, u32_s.call), (23, alink_s.call), (10, abytes_s.call), (11, same_s.call), (3, auditRuns_s.call)]⟩
set_option maxHeartbeats 1000000 in
set_option maxRecDepth 100000 in
theorem auditLinks_d : denF auditLinks_e auditLinks_s auditLinks_h Try.f6 := by
  intro l k n t kk seq tr inst id side ord pr q sh st wh a b tag
  intro hpre
  dsimp only [auditLinks_s] at hpre
  obtain ⟨hd, hraw⟩ := hpre
  repeat' (first | (conv => whnf); first | done | exact True.intro | refine And.intro ?_ ?_ | refine Is.mk ?_ | (intro h; cases h; done) | (intro _))
  all_goals try dsimp only [maxLen, El.ty, auditLinks_a] at *
  all_goals repeat (with_reducible cases ‹_ ∧ _›)
  all_goals try subst_vars
  all_goals try (rename ∀ r : recE.ty, _ → RFit r => ha; rename decide (_ < _) = true => hlt; have hlt := of_decide_eq_true hlt; have hR := ha _ (getD_mem' (d := recE.dflt) (by omega) hlt))
  all_goals try (generalize List.getD _ _ _ = R at *; obtain ⟨rk, rn, rt, ⟨c1, c2, c3, c4, c5, c6, c7, c8, c9, c10, c11, c12, c13, c14, ctag, ⟨⟩⟩, ⟨⟩⟩ := R; try dsimp only at *)
  all_goals try (generalize ((rk, rn, rt, (c1, c2, c3, c4, c5, c6, c7, c8, c9, c10, c11, c12, c13, c14, ctag, ()), ()) : recE.ty) = R at *)
  all_goals try (have hl := aput_len hR.out; have hk := fun p => link_len p (aputR R))
  all_goals try (cases hq : arightR R)
  all_goals try simp only [addF_no2 hq, hq] at *
  all_goals try simp only [addF_yes2 hq, hq] at *
  all_goals try (with_reducible assumption)
  all_goals try exact hd _ (by assumption)
  all_goals try (with_reducible exact rfl)
  all_goals clear hd hraw
  all_goals try clear ha
  all_goals try (have e4 : IntKind.u32.wrap ((aputR R).length : Int) = ((aputR R).length : Int) := by rw [IntKind.wrap_u32]; omega)
  all_goals try simp only [e4, hk, fun p => take32 (hk p), IntKind.wrap_i64, List.length_append, List.length_nil, be_length, List.append_assoc, List.nil_append, Bool.not_true, Bool.not_false, decide_true, reduceCtorEq] at *
  all_goals try omega
  all_goals try ((with_reducible change ((([] : List UInt8).length : Nat) : Int) ≤ 1000 * 0); decide)
  all_goals try exact List.length_replicate
  all_goals try exact rfl
  all_goals try (rename decide (_ = _) = false => hx; exact absurd rfl (of_decide_eq_false hx))
  all_goals (rename (!decide _) = true => hx; have hx := of_decide_eq_false (not_t hx); omega)
set_option maxRecDepth 100000 in
theorem auditLinks_p : (FnIs Try.prog 6 ∧ FnOk Try.prog 6 auditLinks_s) ∧ (idsOk auditLinks_s.cs && idsOk auditLinks_s.cs' && Nat.ble auditLinks_s.n auditLinks_s.n') = true :=
  fn_of (l := [(8, anew_s.call), (18, recs_s.call), (20, alen_s.call), (9, aaddw_s.call), (14, arightw_s.call), (15, aputw_s.call), (21, link_s.call), (22, u32_s.call), (23, alink_s.call), (10, abytes_s.call), (11, same_s.call), (3, auditRuns_s.call)]) (hi := auditLinks_h) (S := auditLinks_s) (fn := Try.f6) (c := Try.f6.body.get!) tysOk mixOk ⟨.inl anew_m, .inl recs_m, .inl alen_m, .inl aaddw_m, .inl arightw_m, .inl aputw_m, .inl link_m, .inl u32_m, .inl alink_m, .inl abytes_m, .inl same_m, .inl auditRuns_m, trivial⟩ (by kernel_rfl) (by kernel_rfl) (by kernel_rfl) (by kernel_rfl) (by kernel_rfl) auditLinks_d
theorem auditLinks_m : May Try.prog (6, auditLinks_s.call) := may_call auditLinks_p
theorem auditLinks_n : May Try.prog (6, auditLinks_s.callN) := may_callN auditLinks_p
end Go.J

set_option linter.unusedSimpArgs false
set_option linter.unusedVariables false
set_option linter.unusedSectionVars false
namespace Go.J
open Go.Proofs

theorem encL_le : ∀ {ws : List recE.ty} (_ : RightL ws) (link : List UInt8), (encL link ws).length ≤ 100 * ws.length
  | [], _, _ => Nat.zero_le _
  | r :: ws, h, link => by
    have h1 := encL_le (ws := ws) (fun x hx => h x (List.mem_cons_of_mem _ hx)) (linkF link (aputR r))
    have h2 := ent_len0 (link := link) (r := r)
    obtain ⟨ht, hr⟩ := h r (List.mem_cons_self ..)
    have h3 := (aput_len2 ht hr).2.2.1
    show (entB link r ++ encL _ ws).length ≤ 100 * (ws.length + 1)
    rw [List.length_append]
    omega
theorem RightL.snoc {ws : List recE.ty} (h : RightL ws) {r : recE.ty} (f : RFit r) (hr : arightR r = true) : RightL (ws ++ [r]) := fun x hx => by
  rcases List.mem_append.1 hx with hx | hx
  · exact h x hx
  · rw [List.mem_singleton.1 hx]; exact ⟨f.tag, hr⟩
theorem RightL.nil : RightL [] := fun _ h => absurd h (List.not_mem_nil)
theorem addF_yes3 {ws : List recE.ty} {n : Int} {r : recE.ty} (h : arightR r = true) : addF (encL noSum ws) (endL noSum ws) n r = (encL noSum (ws ++ [r]), endL noSum (ws ++ [r]), n + 1, true, ()) := by
  rw [addF_yes h, encL_snoc, endL_snoc]
theorem rsame_refl (xs : List recE.ty) : rsameF xs xs = true := rsame_iff.2 rfl
theorem cut_in (c : Int) (L : Nat) : 0 ≤ 0 + c % ((L : Int) - 0 + 1) ∧ 0 + c % ((L : Int) - 0 + 1) ≤ L := by
  have hm := mod_in c (l := (L : Int) - 0 + 1) (by omega)
  omega
theorem ends0 (ws : List recE.ty) : (endsL ws).getD (Int.toNat 0) 0 = 0 := endsL_get ws (Nat.zero_le _)
theorem back_law {ws : List recE.ty} (h : RightL ws) {k i : Int} (k0 : 0 ≤ k) (k1 : k ≤ ((encL noSum ws).length : Int)) (i0 : 0 ≤ i) (i1 : i < ((ws.length + 1 : Nat) : Int)) (h1 : (endsL ws).getD i.toNat 0 ≤ k) (h2 : ¬ i + 1 < ((ws.length + 1 : Nat) : Int) ∨ ¬ (endsL ws).getD (i + 1).toNat 0 ≤ k) :
    parseF (List.take (k - 0).toNat (List.drop (Int.toNat 0) (encL noSum ws))) = (List.take (i - 0).toNat (List.drop (Int.toNat 0) ws), if (endsL ws).getD i.toNat 0 = k then -1 else (endsL ws).getD i.toNat 0) := by
  rw [show Int.toNat 0 = 0 from rfl, List.drop_zero, List.drop_zero, show k - 0 = k by omega, show i - 0 = i by omega]
  rw [endsL_get ws (j := i.toNat) (by omega)] at h1 ⊢
  have e := parse_take h (k := k.toNat) (n := i.toNat) (by omega) (by omega) (by omega) (fun hlt => by
    rcases h2 with h2 | h2
    · omega
    · rw [endsL_get ws (j := (i + 1).toNat) (by omega)] at h2
      rw [show (i + 1).toNat = i.toNat + 1 by omega] at h2
      omega)
  rw [e, show ((k.toNat : Nat) : Int) = k by omega]
theorem back_no1 {p : List recE.ty × Int} {T : List recE.ty} {a : Int} (B : p = (T, a)) (h : rsameF p.1 T = false) : False := by
  rw [B, rsame_iff.2 rfl] at h
  cases h
theorem back_no2 {p : List recE.ty × Int} {T : List recE.ty} {a k : Int} (B : p = (T, if a = k then -1 else a)) (h1 : a = k) (h : ¬ p.2 = -1) : False := by
  rw [if_pos h1] at B
  exact h (congrArg Prod.snd B)
theorem back_no3 {p : List recE.ty × Int} {T : List recE.ty} {a k : Int} (B : p = (T, if a = k then -1 else a)) (h1 : ¬ a = k) (h : ¬ p.2 = a) : False := by
  rw [if_neg h1] at B
  exact h (congrArg Prod.snd B)
section
attribute [local irreducible] linkF
theorem endL_len : ∀ (ws : List recE.ty) {link : List UInt8} (_ : link.length = 32), (endL link ws).length = 32
  | [], _, h => h
  | _ :: ws, _, _ => endL_len ws (link_len _ _)
end
theorem endL_len0 (ws : List recE.ty) : (endL noSum ws).length = 32 := endL_len ws rfl
theorem endsL_len' {ws : List recE.ty} (_ : RightL ws) : (endsL ws).length = ws.length + 1 := endsL_len ws
theorem ends_nil : [(0 : Int)] = endsL [] := rfl
theorem enc_nil : [] = encL noSum [] := rfl
theorem end_nil : noSum = endL noSum [] := rfl
attribute [local irreducible] RightL List.getD addF parseF linkF entB aputR arightR agetF rsameF encL endL endsL
@[reducible] def auditBack_s : Spec where
  n := 0
  cs := []
  ar := [.el (.rd doE), .el iE]
  pre := fun (l, cut, _) => (∀ d ∈ l, DFit d) ∧ fit64 cut
  n' := 0
  cs' := []
  rs := [.el .bool]
  post := .fn fun _ => (true, ())
@[reducible] def auditBack_a : Ann where
  nx := 4
  cs := [(0, .row 30 recE), (1, .own logSh), (2, .row 30 recE), (3, .row 3 iE)]
  ss := [(1, .el iE), (5, .ref 1), (6, .own 2), (7, .own 3), (24, .own 0), (25, .el iE), (26, .el iE)]
  inv := fun (rs0, _, _, _, _, _, cut0, ln0, _, _) (rs, b, lk, n, want, ends, cut, ln, i, _) => rs = rs0 ∧ cut = cut0 ∧ ln = ln0 ∧ b = encL noSum want ∧ lk = endL noSum want ∧ n = want.length ∧ ends = endsL want ∧ RightL want ∧ lk.length = 32 ∧ 0 ≤ i ∧ i ≤ rs.length ∧ want.length ≤ i
  mu := fun (rs, _, _, _, _, _, _, _, i, _) => rs.length - i.toNat
@[reducible] def auditBack_b : Ann where
  nx := 2
  cs := [(0, .row 30 recE), (1, .row 3 iE)]
  ss := [(6, .own 0), (7, .own 1), (10, .el (.rd .u8)), (13, .el iE), (14, .el iE)]
  inv := fun (w0, e0, b0, k0, _, _) (w, e, b, k, n, _) => w = w0 ∧ e = e0 ∧ b = b0 ∧ k = k0 ∧ 0 ≤ n ∧ n < e.length ∧ e.getD n.toNat 0 ≤ k
  mu := fun (_, e, _, _, n, _) => e.length - n.toNat
@[reducible] def auditBack_h : Hints := ⟨[], [(7, auditBack_a), (19, auditBack_b)], []⟩
@[reducible] noncomputable def auditBack_e : Env := ⟨tys, [(8, anew_s.call), (18, recs_s.call), (9, aaddw_s.call), (10, abytes_s.call), (12, parse_s.call), (19, rsame_s.call), (20, alen_s.call), (17, within_s.call), (3, auditRuns_s.call)]⟩
set_option maxHeartbeats 1000000 in
set_option maxRecDepth 100000 in
theorem auditBack_d : denF auditBack_e auditBack_s auditBack_h Try.f5 := by
  intro l cut
  intro hpre
  dsimp only [auditBack_s] at hpre
  obtain ⟨hd, hcut⟩ := hpre
  repeat' (first | (conv => whnf); first | done | exact True.intro | refine And.intro ?_ ?_ | refine Is.mk ?_ | (intro h; cases h; done) | (intro _))
  all_goals try dsimp only [maxLen, El.ty, auditBack_a, auditBack_b] at *
  all_goals repeat (with_reducible cases ‹_ ∧ _›)
  all_goals try subst_vars
  all_goals try (with_reducible assumption)
  all_goals try exact hd _ (by assumption)
  all_goals try (rename ∀ r : recE.ty, _ → RFit r => ha; rename decide (_ < _) = true => hlt; have hlt := of_decide_eq_true hlt; have hR := ha _ (getD_mem' (d := recE.dflt) (by omega) hlt); generalize List.getD _ _ recE.dflt = R at *; obtain ⟨rk, rn, rt, ⟨c1, c2, c3, c4, c5, c6, c7, c8, c9, c10, c11, c12, c13, c14, ctag, ⟨⟩⟩, ⟨⟩⟩ := R; try dsimp only at *)
  all_goals try (generalize ((rk, rn, rt, (c1, c2, c3, c4, c5, c6, c7, c8, c9, c10, c11, c12, c13, c14, ctag, ()), ()) : recE.ty) = R at *)
  all_goals try clear rk rn rt c1 c2 c3 c4 c5 c6 c7 c8 c9 c10 c11 c12 c13 c14 ctag
  all_goals try (with_reducible assumption)
  all_goals try (rename RightL _ => hL; have hb := encL_le hL noSum)
  all_goals try (cases hq : arightR R)
  all_goals try simp only [addF_no2 hq, hq] at *
  all_goals try (have hL2 := hL.snoc hR hq; have hb2 := encL_le hL2 noSum; simp only [addF_yes3 hq, hq] at *)
  all_goals try (with_reducible exact rfl)
  all_goals try exact endL_len0 _
  all_goals try exact ends_nil
  all_goals try exact enc_nil
  all_goals try exact end_nil
  all_goals try exact zero_fit
  all_goals try exact RightL.nil
  all_goals try exact hd _ (by assumption)
  all_goals try (with_reducible assumption)
  all_goals try (exact (endsL_snoc _ _).symm)
  all_goals clear hd
  all_goals try clear ha
  all_goals try (have el := endsL_len' hL)
  all_goals try (have hP := parse_all hL; simp only [hP, rsame_refl] at *)
  all_goals try simp only [el, List.length_append, List.length_singleton, List.length_nil, Bool.not_true, Bool.not_false, decide_true, reduceCtorEq] at *
  all_goals try (rename Int => i; have wn := wi (x := i + 1) (by omega) (by omega); simp only [wn] at *)
  all_goals try omega
  all_goals try exact (cut_in _ _).1
  all_goals try exact (cut_in _ _).2
  all_goals try (refine Nat.le_trans (List.length_take_le' _ _) ?_; rw [List.length_drop]; omega)
  all_goals try (rw [ends0]; exact (cut_in _ _).1)
  all_goals try simp only [decide_eq_true_eq, decide_eq_false_iff_not] at *
  all_goals try omega
  all_goals try exact rfl
  all_goals try exact Int.le_refl 0
  all_goals first
    | have hB := back_law (i := i) hL (cut_in _ _).1 (cut_in _ _).2 (by assumption) (by assumption) (by assumption) (.inl (by assumption))
    | have hB := back_law (i := i) hL (cut_in _ _).1 (cut_in _ _).2 (by assumption) (by assumption) (by assumption) (.inr (by assumption))
    | skip
  all_goals first
    | exact back_no1 hB (by assumption)
    | exact back_no2 hB (by assumption) (by assumption)
    | exact back_no3 hB (by assumption) (by assumption)
    | skip
  all_goals try (with_reducible assumption)
  all_goals try (rename (endsL _).getD _ iE.dflt ≤ _ => hx; exact hx)
set_option maxRecDepth 100000 in
theorem auditBack_p : (FnIs Try.prog 5 ∧ FnOk Try.prog 5 auditBack_s) ∧ (idsOk auditBack_s.cs && idsOk auditBack_s.cs' && Nat.ble auditBack_s.n auditBack_s.n') = true :=
  fn_of (l := [(8, anew_s.call), (18, recs_s.call), (9, aaddw_s.call), (10, abytes_s.call), (12, parse_s.call), (19, rsame_s.call), (20, alen_s.call), (17, within_s.call), (3, auditRuns_s.call)]) (hi := auditBack_h) (S := auditBack_s) (fn := Try.f5) (c := Try.f5.body.get!) tysOk mixOk ⟨.inl anew_m, .inl recs_m, .inl aaddw_m, .inl abytes_m, .inl parse_m, .inl rsame_m, .inl alen_m, .inl within_m, .inl auditRuns_m, trivial⟩ (by kernel_rfl) (by kernel_rfl) (by kernel_rfl) (by kernel_rfl) (by kernel_rfl) auditBack_d
theorem auditBack_m : May Try.prog (5, auditBack_s.call) := may_call auditBack_p
theorem auditBack_n : May Try.prog (5, auditBack_s.callN) := may_callN auditBack_p
end Go.J

set_option linter.unusedSimpArgs false
set_option linter.unusedVariables false
set_option linter.unusedSectionVars false
namespace Go.J
open Go.Proofs

theorem fb_snoc1 (xs : List UInt8) (a : UInt8) : fb (xs ++ [a]) = fb xs * 256 + a.toNat := by
  unfold fb
  rw [List.foldl_append]
  rfl
theorem fb_same : ∀ (n : Nat) (xs ys : List UInt8), xs.length = n → ys.length = n → fb xs = fb ys → xs = ys := by
  intro n
  induction n with
  | zero =>
    intro xs ys hx hy _
    rw [List.eq_nil_of_length_eq_zero hx, List.eq_nil_of_length_eq_zero hy]
  | succ n ih =>
    intro xs ys hx hy h
    have ex : xs ≠ [] := by intro e; rw [e] at hx; cases hx
    have ey : ys ≠ [] := by intro e; rw [e] at hy; cases hy
    rw [← List.dropLast_concat_getLast ex, ← List.dropLast_concat_getLast ey] at h ⊢
    rw [fb_snoc1, fb_snoc1] at h
    have h1 := UInt8.toNat_lt (xs.getLast ex)
    have h2 := UInt8.toNat_lt (ys.getLast ey)
    have e1 : fb xs.dropLast = fb ys.dropLast := by omega
    have e2 : (xs.getLast ex).toNat = (ys.getLast ey).toNat := by omega
    rw [ih _ _ (by rw [List.length_dropLast]; omega) (by rw [List.length_dropLast]; omega) e1, UInt8.toNat_inj.1 e2]
theorem gd_left {xs ys : List UInt8} {k : Nat} (h : k < xs.length) : (xs ++ ys).getD k 0 = xs.getD k 0 := by
  rw [List.getD_eq_getElem?_getD, List.getD_eq_getElem?_getD, List.getElem?_append_left h]
theorem gd_right {xs ys : List UInt8} {k : Nat} (h : xs.length ≤ k) : (xs ++ ys).getD k 0 = ys.getD (k - xs.length) 0 := by
  rw [List.getD_eq_getElem?_getD, List.getD_eq_getElem?_getD, List.getElem?_append_right h]
theorem set_ne {xs : List UInt8} {k : Nat} {c : UInt8} (hk : k < xs.length) (hc : c ≠ xs.getD k 0) : xs.set k c ≠ xs := by
  intro e
  have := congrArg (fun l => l.getD k 0) e
  simp only [List.getD_eq_getElem?_getD, List.getElem?_set_self hk, Option.getD_some] at this
  rw [List.getD_eq_getElem?_getD] at hc
  exact hc this
theorem aput_two {X B Z : List UInt8} {r s : recE.ty} (tr : TagOk r) (ts : TagOk s) (hr : arightR r = true) (hs : arightR s = true) (eX : aputR r = X) (eB : aputR s = B) {t : List UInt8} (hX : Z = X ++ t) {v : Nat} (hB : B = Z.take v) (hv : B.length = v) : v = X.length := by
  by_cases h : v ≤ X.length
  · have e : X = B ++ X.drop v := by
      rw [hB, hX, List.take_append_of_le_length h, List.take_append_drop]
    have := aput_prefix ts tr hs hr (t := X.drop v) (by rw [eX, eB]; exact e)
    have := congrArg List.length this
    rw [List.length_drop, List.length_nil] at this
    omega
  · have e : B = X ++ t.take (v - X.length) := by
      rw [hB, hX, List.take_append, List.take_of_length_le (by omega)]
    have := aput_prefix tr ts hr hs (t := t.take (v - X.length)) (by rw [eX, eB]; exact e)
    rw [this, List.append_nil] at e
    have := congrArg List.length e
    omega
theorem ent_zero {ahead xs : List UInt8} (h : ¬ ((4 : Int) ≤ xs.length ∧ rv xs 0 4 ≤ 200 ∧ 4 + rv xs 0 4 + 32 ≤ xs.length ∧ (agetF ((xs.drop 4).take (rv xs 0 4).toNat)).2 = true ∧ (xs.drop (4 + (rv xs 0 4).toNat)).take 32 = linkF ahead ((xs.drop 4).take (rv xs 0 4).toNat))) : (entF ahead xs).2.2 = 0 := by
  unfold entF
  rw [if_neg h]
/-- An entry of which a byte is turned is none, or shows two bodies with one link. -/
theorem ent_turned {link : List UInt8} {r : recE.ty} (ht : TagOk r) (hr : arightR r = true) {k : Nat} {c : UInt8} (hk : k < (entB link r).length) (hc : c ≠ (entB link r).getD k 0) (T : List UInt8) :
    (entF link ((entB link r).set k c ++ T)).2.2 = 0 ∨
    ∃ s, TagOk s ∧ arightR s = true ∧ aputR s ≠ aputR r ∧ linkF link (aputR s) = linkF link (aputR r) ∧ entF link ((entB link r).set k c ++ T) = (s, linkF link (aputR r), 36 + ((aputR r).length : Int)) := by
  have hl := (aput_len2 ht hr).2.2.1
  have hE := ent_len0 (link := link) (r := r)
  have hL := link_len link (aputR r)
  have e0 : entB link r = be 4 ((aputR r).length : Int) ++ (aputR r ++ linkF link (aputR r)) := by simp only [entB, List.append_assoc]
  have hb4 : (be 4 ((aputR r).length : Int)).length = 4 := be_length 4 _
  rw [e0] at hc ⊢
  rw [hE] at hk
  generalize hX : aputR r = X at *
  generalize hLL : linkF link X = L at *
  by_cases k1 : k < 4
  · left
    rw [List.set_append_left _ _ (by omega)]
    have hne := set_ne (xs := be 4 (X.length : Int)) (k := k) (c := c) (by omega) (by
      rw [gd_left (by omega)] at hc; exact hc)
    generalize hD : (be 4 (X.length : Int)).set k c = D at *
    have hD4 : D.length = 4 := by rw [← hD, List.length_set, hb4]
    refine ent_zero fun hcond => ?_
    obtain ⟨c1, c2, c3, c4, c5⟩ := hcond
    have er : rv (D ++ (X ++ L) ++ T) 0 4 = fb D := by
      have := rv_at (a := []) (b := D) (c := X ++ L ++ T) (o := 0) (n := 4) rfl hD4
      rw [List.nil_append] at this
      rw [List.append_assoc, this]
    rw [er] at c2 c3 c4
    have hv0 := (fb_lt D).1
    have ed : List.drop 4 (D ++ (X ++ L) ++ T) = X ++ (L ++ T) := by
      rw [List.append_assoc, List.drop_left' hD4, List.append_assoc]
    rw [ed] at c4
    obtain ⟨g1, g2, g3⟩ := aget_out c4
    have hlen : (List.take (fb D).toNat (X ++ (L ++ T))).length = (fb D).toNat := by
      rw [List.length_take]
      simp only [List.length_append] at c3 ⊢
      omega
    have := aput_two ht g1 hr g2 hX g3 rfl rfl hlen
    have e1 : fb D = fb (be 4 (X.length : Int)) := by rw [fb_len4 (by omega)]; omega
    exact hne (fb_same 4 _ _ hD4 hb4 e1)
  · by_cases k2 : k < 4 + X.length
    · rw [List.set_append_right _ _ (by omega), hb4, List.set_append_left _ _ (by omega)]
      have hne := set_ne (xs := X) (k := k - 4) (c := c) (by omega) (by
        rw [gd_right (by omega), hb4, gd_left (by omega)] at hc; exact hc)
      generalize hX' : X.set (k - 4) c = X' at *
      have hl' : X'.length = X.length := by rw [← hX', List.length_set]
      have hp := ent_parts (link := link) (X := X') (L := L) (rest := T) (by omega) hL linkF rfl
      have e2 : be 4 (X.length : Int) ++ (X' ++ L) ++ T = be 4 (X'.length : Int) ++ (X' ++ (L ++ T)) := by rw [hl']; simp only [List.append_assoc]
      rw [e2, hp]
      by_cases hcc : (agetF X').2 = true ∧ L = linkF link X'
      · right
        rw [if_pos hcc]
        obtain ⟨g1, g2, g3⟩ := aget_out hcc.1
        refine ⟨_, g1, g2, by rw [g3]; exact hne, by rw [g3]; exact hcc.2.symm, ?_⟩
        rw [← hcc.2, hl']
      · left
        rw [if_neg hcc]
    · left
      rw [List.set_append_right _ _ (by omega), hb4, List.set_append_right _ _ (by omega)]
      have hne := set_ne (xs := L) (k := k - 4 - X.length) (c := c) (by omega) (by
        rw [gd_right (by omega), hb4, gd_right (by omega)] at hc; exact hc)
      generalize hL' : L.set (k - 4 - X.length) c = L' at *
      have hp := ent_parts (link := link) (X := X) (L := L') (rest := T) (by omega) (by rw [← hL', List.length_set]; exact hL) linkF rfl
      have e2 : be 4 (X.length : Int) ++ (X ++ L') ++ T = be 4 (X.length : Int) ++ (X ++ (L' ++ T)) := by simp only [List.append_assoc]
      rw [e2, hp, if_neg]
      rintro ⟨_, h⟩
      exact hne (h.trans hLL)
attribute [local irreducible] linkF entF entB aputR arightR agetF parseG
/-- A LOG OF WHICH A BYTE IS TURNED. -/
theorem turned_at : ∀ (ws : List recE.ty) (_ : RightL ws) (link : List UInt8) (k : Nat) (c : UInt8) (a : Int), k < (encL link ws).length → c ≠ (encL link ws).getD k 0 →
    (∃ n, n < ws.length ∧ parseG link ((encL link ws).set k c) a = (ws.take n, a + (encL link (ws.take n)).length) ∧ (encL link (ws.take n)).length ≤ k) ∨
    (∃ pre r s post, ws = pre ++ r :: post ∧ parseG link ((encL link ws).set k c) a = (pre ++ s :: post, -1) ∧ TagOk s ∧ arightR s = true ∧ aputR s ≠ aputR r ∧ linkF (endL link pre) (aputR s) = linkF (endL link pre) (aputR r))
  | [], _, _, k, _, _, hk, _ => absurd hk (Nat.not_lt_zero _)
  | r :: ws, hR, link, k, c, a, hk, hc => by
    obtain ⟨ht, hr⟩ := hR r (List.mem_cons_self ..)
    have hR2 : RightL ws := fun x hx => hR x (List.mem_cons_of_mem _ hx)
    have hE := ent_len0 (link := link) (r := r)
    have e0 : encL link (r :: ws) = entB link r ++ encL (linkF link (aputR r)) ws := rfl
    rw [e0, List.length_append] at hk
    rw [e0] at hc ⊢
    have ne1 : ∀ (X T : List UInt8), X.length = (entB link r).length → X ++ T ≠ [] := by
      intro X T hX h
      have := congrArg List.length h
      rw [List.length_append, List.length_nil, hX, hE] at this
      omega
    by_cases h1 : k < (entB link r).length
    · rw [gd_left h1] at hc
      rw [List.set_append_left _ _ h1]
      rcases ent_turned ht hr h1 hc (encL (linkF link (aputR r)) ws) with hz | ⟨s, s1, s2, s3, s4, s5⟩
      · left
        refine ⟨0, Nat.succ_pos _, ?_, Nat.zero_le _⟩
        rw [parseG_stop (ne1 _ _ List.length_set) hz]
        show ([], a) = ([], a + (0 : Int))
        rw [Int.add_zero]
      · right
        refine ⟨[], r, s, ws, rfl, ?_, s1, s2, s3, s4⟩
        have hne : (entF link ((entB link r).set k c ++ encL (linkF link (aputR r)) ws)).2.2 ≠ 0 := by rw [s5]; show 36 + ((aputR r).length : Int) ≠ 0; omega
        rw [parseG_step (ne1 _ _ List.length_set) hne, s5]
        dsimp only
        have hd : List.drop (36 + ((aputR r).length : Int)).toNat ((entB link r).set k c ++ encL (linkF link (aputR r)) ws) = encL (linkF link (aputR r)) ws ++ [] := by
          rw [List.drop_left' (by rw [List.length_set, hE]; omega), List.append_nil]
        rw [hd, parse_app ws hR2, parseG_nil, List.append_nil]
        rfl
    · rw [gd_right (by omega)] at hc
      rw [List.set_append_right _ _ (by omega)]
      have hent := ent_ok (link := link) ht hr ((encL (linkF link (aputR r)) ws).set (k - (entB link r).length) c)
      have hne : (entF link (entB link r ++ (encL (linkF link (aputR r)) ws).set (k - (entB link r).length) c)).2.2 ≠ 0 := by rw [hent]; show 36 + ((aputR r).length : Int) ≠ 0; omega
      rw [parseG_step (ne1 _ _ rfl) hne, hent]
      dsimp only
      rw [List.drop_left' (by omega)]
      rcases turned_at ws hR2 (linkF link (aputR r)) (k - (entB link r).length) c (a + (36 + ((aputR r).length : Int))) (by omega) hc with ⟨n, n1, n2, n3⟩ | ⟨pre, r0, s, post, p1, p2, p3, p4, p5, p6⟩
      · left
        refine ⟨n + 1, Nat.succ_lt_succ n1, ?_, ?_⟩
        · rw [n2, List.take_succ_cons]
          have e3 : a + (36 + ((aputR r).length : Int)) + ((encL (linkF link (aputR r)) (ws.take n)).length : Int) = a + ((encL link (r :: ws.take n)).length : Int) := by
            show _ = a + (((entB link r ++ encL (linkF link (aputR r)) (ws.take n)).length : Nat) : Int)
            rw [List.length_append, hE]; omega
          rw [e3]
        · rw [List.take_succ_cons]
          show (entB link r ++ encL (linkF link (aputR r)) (ws.take n)).length ≤ k
          rw [List.length_append]
          omega
      · right
        refine ⟨r :: pre, r0, s, post, by rw [p1]; rfl, ?_, p3, p4, p5, p6⟩
        rw [p2]
        rfl
end Go.J

set_option linter.unusedSimpArgs false
set_option linter.unusedVariables false
set_option linter.unusedSectionVars false
namespace Go.J
open Go.Proofs

@[reducible] def rowE : El := .rd (.rd .u8)
@[reducible] def sumE : El := .ar 32 .u8
/-- The links of bytes, each of the one ahead. -/
def linksG : List UInt8 → List (List UInt8) → List (List UInt8)
  | _, [] => []
  | a, b :: bs => linkF a b :: linksG (linkF a b) bs
def lastG (a : List UInt8) (bs : List (List UInt8)) : List UInt8 := bs.foldl linkF a
def linksF (bs : List (List UInt8)) : List (List UInt8) := linksG noSum bs
attribute [local irreducible] linkF
theorem linksG_snoc : ∀ (a : List UInt8) (bs : List (List UInt8)) (b : List UInt8), linksG a (bs ++ [b]) = linksG a bs ++ [linkF (lastG a bs) b]
  | _, [], _ => rfl
  | a, x :: bs, b => by
    show linkF a x :: linksG (linkF a x) (bs ++ [b]) = linkF a x :: (linksG (linkF a x) bs ++ [linkF (lastG (linkF a x) bs) b])
    rw [linksG_snoc]
theorem lastG_snoc (a : List UInt8) (bs : List (List UInt8)) (b : List UInt8) : lastG a (bs ++ [b]) = linkF (lastG a bs) b := by
  unfold lastG
  rw [List.foldl_append]
  rfl
theorem linksG_len : ∀ (a : List UInt8) (bs : List (List UInt8)), (linksG a bs).length = bs.length
  | _, [] => rfl
  | a, x :: bs => congrArg (· + 1) (linksG_len (linkF a x) bs)
theorem linksG_32 : ∀ (a : List UInt8) (bs : List (List UInt8)), ∀ x ∈ linksG a bs, x.length = 32
  | _, [], _, h => absurd h List.not_mem_nil
  | a, b :: bs, x, h => by
    rcases List.mem_cons.1 h with h | h
    · rw [h]; exact link_len _ _
    · exact linksG_32 _ bs x h
theorem take_next2 {α : Type} {xs : List α} {i : Int} {d : α} (h0 : 0 ≤ i) (h : i < (xs.length : Int)) : xs.take (i.toNat + 1) = xs.take i.toNat ++ [xs.getD i.toNat d] := by
  rw [List.take_add_one, List.getD_eq_getElem?_getD, List.getElem?_eq_getElem (by omega)]
  rfl
theorem links_0 (bs : List (List UInt8)) : [] = linksF (bs.take (Int.toNat 0)) := rfl
theorem last_0 (bs : List (List UInt8)) : List.replicate 32 (0 : UInt8) = lastG noSum (bs.take (Int.toNat 0)) := rfl
theorem linksF_snoc (bs : List (List UInt8)) (b : List UInt8) : linksF (bs ++ [b]) = linksF bs ++ [linkF (lastG noSum bs) b] := linksG_snoc _ _ _
theorem linksF_32 (bs : List (List UInt8)) : ∀ x ∈ linksF bs, x.length = 32 := linksG_32 _ _
theorem links_len (bs : List (List UInt8)) : (linksF bs).length = bs.length := linksG_len _ _
attribute [local irreducible] linksG lastG linksF List.getD
@[reducible] def links_s : Spec where
  n := 0
  cs := []
  ar := [.el rowE]
  pre := fun (bs, _) => (∀ b ∈ bs, b.length ≤ 1000) ∧ bs.length ≤ 1000
  n' := 1
  cs' := [(0, .row 26 sumE)]
  rs := [.own 0]
  post := .fn fun (bs, _) => (linksF bs, ())
@[reducible] def links_a : Ann where
  nx := 2
  cs := [(0, .row 26 sumE), (1, .own (.el sumE))]
  ss := [(3, .own 0), (4, .ref 1), (7, .el rowE), (8, .el iE), (9, .el iE)]
  inv := fun (_, _, bs0, ln0, _, _) (out, h, bs, ln, i, _) => bs = bs0 ∧ ln = ln0 ∧ 0 ≤ i ∧ i ≤ bs.length ∧ h.length = 32 ∧ out = linksF (bs.take i.toNat) ∧ h = lastG noSum (bs.take i.toNat)
  mu := fun (_, _, bs, _, i, _) => bs.length - i.toNat
@[reducible] def links_h : Hints := ⟨[], [(4, links_a)], []⟩
@[reducible] noncomputable def links_e : Env := ⟨tys, [(21, link_s.call)]⟩
set_option maxHeartbeats 1000000 in
set_option maxRecDepth 100000 in
theorem links_d : denF links_e links_s links_h Try.f42 := by
  intro bs
  intro hpre
  dsimp only [links_s] at hpre
  obtain ⟨hb, hn⟩ := hpre
  repeat' (first | (conv => whnf); first | done | exact True.intro | refine And.intro ?_ ?_ | refine Is.mk ?_ | (intro h; cases h; done) | (intro _))
  all_goals try dsimp only [maxLen, El.ty, El.dflt, links_a] at *
  all_goals repeat (with_reducible cases ‹_ ∧ _›)
  all_goals try subst_vars
  all_goals try simp only [decide_eq_true_eq, decide_eq_false_iff_not] at *
  all_goals try (with_reducible assumption)
  all_goals try exact link_len _ _
  all_goals try exact links_0 _
  all_goals try exact last_0 _
  all_goals try (with_reducible exact List.length_replicate)
  all_goals try omega
  all_goals try (rename Int => i; rename List (El.ty (.rd .u8)) => bs)
  all_goals first
    | have te : List.take i.toNat bs = bs := List.take_of_length_le (by omega)
    | skip
  all_goals try (rw [te])
  all_goals first
    | have tn := take_next2 (xs := bs) (i := i) (d := []) (by assumption) (by assumption)
    | skip
  all_goals first
    | have hm := hb _ (getD_mem' (d := []) (by assumption) (by assumption))
    | skip
  all_goals first
    | have wn := wi (x := i + 1) (by omega) (by omega)
    | skip
  all_goals first
    | have wt : (i + 1).toNat = i.toNat + 1 := by omega
    | skip
  all_goals try simp only [wn, wt, tn, List.length_singleton]
  all_goals try exact (linksG_snoc _ _ _).symm
  all_goals try exact (lastG_snoc _ _ _).symm
  all_goals try omega
  all_goals first
    | exact (linksF_snoc _ _).symm
    | (rw [links_len]; have := List.length_take_le' i.toNat bs; omega)
set_option maxRecDepth 100000 in
theorem links_p : (FnIs Try.prog 42 ∧ FnOk Try.prog 42 links_s) ∧ (idsOk links_s.cs && idsOk links_s.cs' && Nat.ble links_s.n links_s.n') = true :=
  fn_of (l := [(21, link_s.call)]) (hi := links_h) (S := links_s) (fn := Try.f42) (c := Try.f42.body.get!) tysOk mixOk ⟨.inl link_m, trivial⟩ (by kernel_rfl) (by kernel_rfl) (by kernel_rfl) (by kernel_rfl) (by kernel_rfl) links_d
theorem links_m : May Try.prog (42, links_s.call) := may_call links_p
theorem links_n : May Try.prog (42, links_s.callN) := may_callN links_p
@[reducible] def ahead_s : Spec where
  n := 0
  cs := []
  ar := [.el (.rd sumE), .el iE]
  pre := fun (xs, i, _) => (∀ x ∈ xs, x.length = 32) ∧ 0 ≤ i ∧ i ≤ xs.length
  n' := 0
  cs' := []
  rs := [.el sumE]
  post := .fn fun (xs, i, _) => ((if i = 0 then noSum else xs.getD (i - 1).toNat (El.dflt sumE)), ())
@[reducible] def ahead_h : Hints := ⟨[], [], []⟩
@[reducible] noncomputable def ahead_e : Env := ⟨tys, []⟩
set_option maxHeartbeats 1000000 in
set_option maxRecDepth 100000 in
theorem ahead_d : denF ahead_e ahead_s ahead_h Try.f43 := by
  intro xs i
  intro hpre
  dsimp only [ahead_s] at hpre
  obtain ⟨hx, h0, h1⟩ := hpre
  repeat' (first | (conv => whnf); first | done | exact True.intro | refine And.intro ?_ ?_ | refine Is.mk ?_ | (intro h; cases h; done) | (intro _))
  all_goals try dsimp only [maxLen, El.ty] at *
  all_goals try simp only [decide_eq_true_eq, decide_eq_false_iff_not] at *
  · subst_vars
    rw [if_pos rfl]
    rfl
  all_goals rw [show IntKind.i64.wrap (i - 1) = i - 1 from by rw [IntKind.wrap_i64]; omega]
  all_goals first
    | omega
    | (rw [if_neg (by assumption)])
set_option maxRecDepth 100000 in
theorem ahead_p : (FnIs Try.prog 43 ∧ FnOk Try.prog 43 ahead_s) ∧ (idsOk ahead_s.cs && idsOk ahead_s.cs' && Nat.ble ahead_s.n ahead_s.n') = true :=
  fn_of (l := []) (hi := ahead_h) (S := ahead_s) (fn := Try.f43) (c := Try.f43.body.get!) tysOk mixOk trivial (by kernel_rfl) (by kernel_rfl) (by kernel_rfl) (by kernel_rfl) (by kernel_rfl) ahead_d
theorem ahead_m : May Try.prog (43, ahead_s.call) := may_call ahead_p
theorem ahead_n : May Try.prog (43, ahead_s.callN) := may_callN ahead_p
@[reducible] def bequal_s : Spec := { same_s with }
@[reducible] def bequal_h : Hints := ⟨[], [], []⟩
@[reducible] noncomputable def bequal_e : Env := ⟨tys, []⟩
set_option maxHeartbeats 1000000 in
set_option maxRecDepth 100000 in
theorem bequal_d : denF bequal_e bequal_s bequal_h Try.f44 := by
  intro xs ys
  intro hpre
  repeat' (first | (conv => whnf); first | done | exact True.intro | refine And.intro ?_ ?_ | refine Is.mk ?_ | (intro h; cases h; done) | (intro _))
set_option maxRecDepth 100000 in
theorem bequal_p : (FnIs Try.prog 44 ∧ FnOk Try.prog 44 bequal_s) ∧ (idsOk bequal_s.cs && idsOk bequal_s.cs' && Nat.ble bequal_s.n bequal_s.n') = true :=
  fn_of (l := []) (hi := bequal_h) (S := bequal_s) (fn := Try.f44) (c := Try.f44.body.get!) tysOk mixOk trivial (by kernel_rfl) (by kernel_rfl) (by kernel_rfl) (by kernel_rfl) (by kernel_rfl) bequal_d
theorem bequal_m : May Try.prog (44, bequal_s.call) := may_call bequal_p
theorem bequal_n : May Try.prog (44, bequal_s.callN) := may_callN bequal_p
@[reducible] def clash_s : Spec where
  n := 0
  cs := []
  ar := [.el rowE, .el rowE]
  pre := fun (a, b, _) => (∀ x ∈ a, x.length ≤ 1000) ∧ a.length ≤ 1000 ∧ (∀ x ∈ b, x.length ≤ 1000) ∧ b.length ≤ 1000
  n' := 0
  cs' := []
  rs := [.el iE]
  post := .rel fun (a, b, _) (n, _) => ∀ j : Nat, j < a.length → j < b.length → (linksF a).getD j (El.dflt sumE) = (linksF b).getD j (El.dflt sumE) → a.getD j [] ≠ b.getD j [] → 0 ≤ n
@[reducible] def clash_a : Ann where
  nx := 0
  cs := []
  ss := [(0, .el rowE), (1, .el rowE), (5, .el (.rd sumE)), (6, .el (.rd sumE)), (16, .el iE), (17, .el iE)]
  inv := fun (a0, b0, x0, y0, m0, _, _) (a, b, x, y, m, i, _) => a = a0 ∧ b = b0 ∧ x = x0 ∧ y = y0 ∧ m = m0 ∧ 0 ≤ i ∧ i ≤ m ∧ ∀ j : Nat, (j : Int) < i → ¬ (x.getD j (El.dflt sumE) = y.getD j (El.dflt sumE) ∧ a.getD j [] ≠ b.getD j [])
  mu := fun (_, _, _, _, m, i, _) => (m - i).toNat
@[reducible] def clash_h : Hints := ⟨[(5, (tks 0 9 (.take 9 true (tks 10 2 (tks 13 2 (.last 12 false [] (.last 15 false [] (.take 16 false (.take 17 true (tks 18 8 (.last 26 false [] (tks 27 3 .done))))))))))))], [(3, clash_a)], []⟩
@[reducible] noncomputable def clash_e : Env := ⟨tys, [(42, links_s.call), (43, ahead_s.call), (44, bequal_s.call)]⟩
set_option maxHeartbeats 1000000 in
set_option maxRecDepth 100000 in
theorem clash_d : denF clash_e clash_s clash_h Try.f24 := by
  intro a b
  intro hpre
  dsimp only [clash_s] at hpre
  obtain ⟨ha, hna, hb, hnb⟩ := hpre
  repeat' (first | (conv => whnf); first | done | exact True.intro | refine And.intro ?_ ?_ | refine Is.mk ?_ | (intro h; cases h; done) | (intro _))
  all_goals try dsimp only [maxLen, El.ty, clash_a] at *
  all_goals repeat (with_reducible cases ‹_ ∧ _›)
  all_goals try subst_vars
  all_goals try simp only [decide_eq_true_eq, decide_eq_false_iff_not, links_len] at *
  all_goals try (with_reducible assumption)
  all_goals try exact ha _ (by assumption)
  all_goals try exact hb _ (by assumption)
  all_goals try exact linksG_32 _ _ _ (by assumption)
  all_goals try (split <;> omega)
  all_goals try omega
  all_goals try (with_reducible exact linksF_32 _ _ (by assumption))
  all_goals rename Int => i
  all_goals generalize hm : (if ((List.length _ : Nat) : Int) < ((List.length _ : Nat) : Int) then ((List.length _ : Nat) : Int) else ((List.length _ : Nat) : Int)) = m at *
  all_goals have hm2 : m ≤ 1000 := by rw [← hm]; split <;> omega
  all_goals have wn : IntKind.i64.wrap (i + 1) = i + 1 := wi (by omega) (by omega)
  all_goals try simp only [wn] at *
  all_goals try omega
  all_goals (rename Nat => j; rename ∀ j : Nat, _ → ¬ _ => hall; by_cases e : (j : Int) < i)
  all_goals try exact (hall j e ⟨by assumption, by assumption⟩).elim
  all_goals try (exfalso; have hlt : (j : Int) < m := (by rw [← hm]; split <;> omega); omega)
  all_goals obtain rfl : j = i.toNat := by omega
  · exact (by assumption : List.getD _ _ _ ≠ List.getD _ _ _) (of_decide_eq_true (not_f (by assumption)))
  · exact (by assumption : ¬ (linksF _).getD _ _ = (linksF _).getD _ _) (by assumption)
set_option maxRecDepth 100000 in
theorem clash_p : (FnIs Try.prog 24 ∧ FnOk Try.prog 24 clash_s) ∧ (idsOk clash_s.cs && idsOk clash_s.cs' && Nat.ble clash_s.n clash_s.n') = true :=
  fn_of (l := [(42, links_s.call), (43, ahead_s.call), (44, bequal_s.call)]) (hi := clash_h) (S := clash_s) (fn := Try.f24) (c := Try.f24.body.get!) tysOk mixOk ⟨.inl links_m, .inl ahead_m, .inl bequal_m, trivial⟩ (by kernel_rfl) (by kernel_rfl) (by kernel_rfl) (by kernel_rfl) (by kernel_rfl) clash_d
theorem clash_m : May Try.prog (24, clash_s.call) := may_call clash_p
theorem clash_n : May Try.prog (24, clash_s.callN) := may_callN clash_p
end Go.J

set_option linter.unusedSimpArgs false
set_option linter.unusedVariables false
set_option linter.unusedSectionVars false
namespace Go.J
open Go.Proofs

/-- Of records those that are right. -/
def rightsL (l : List recE.ty) : List recE.ty := l.filter arightR
theorem rights_right {l : List recE.ty} (h : ∀ r ∈ l, RFit r) : RightL (rightsL l) := fun r hr => by
  have := List.mem_filter.1 hr
  exact ⟨(h r this.1).tag, this.2⟩
theorem rights_next {l : List recE.ty} {i : Int} (h0 : 0 ≤ i) (h1 : i < (l.length : Int)) : rightsL (l.take (i.toNat + 1)) = rightsL (l.take i.toNat) ++ (if arightR (l.getD i.toNat recE.dflt) = true then [l.getD i.toNat recE.dflt] else []) := by
  have hi : i.toNat < l.length := by omega
  unfold rightsL
  rw [List.take_add_one, List.filter_append]
  congr 1
  rw [List.getD_eq_getElem?_getD, List.getElem?_eq_getElem hi]
  simp only [Option.toList_some, Option.getD_some]
  rw [List.filter_cons]
  split <;> rfl
theorem rights_le (l : List recE.ty) : (rightsL l).length ≤ l.length := List.length_filter_le _ _
theorem rights_le2 (l : List recE.ty) (n : Nat) : (rightsL (l.take n)).length ≤ l.length := Nat.le_trans (rights_le _) (List.length_take_le' _ _)
theorem take_end {l : List recE.ty} {i : Int} (h : ¬ i < (l.length : Int)) (h0 : i ≤ l.length) : List.take i.toNat l = l := List.take_of_length_le (by omega)
theorem rights_0 (l : List recE.ty) : rightsL (List.take (Int.toNat 0) l) = [] := rfl
theorem fit_take {l : List recE.ty} (h : ∀ r ∈ l, RFit r) (n : Nat) : ∀ r ∈ l.take n, RFit r := fun r hr => h r (List.mem_of_mem_take hr)
theorem noSum_len : noSum.length = 32 := rfl
theorem enc_le2 {l : List recE.ty} (hf : ∀ r ∈ l, RFit r) (h : l.length ≤ 12) : (encL noSum (rightsL l)).length ≤ 1200 := by
  have h1 := encL_le (rights_right hf) noSum
  have h2 := rights_le l
  omega
theorem cut1 (c : Int) {L : Nat} (h : L ≤ 100000) (h1 : 0 < L) : IntKind.i64.wrap ((L : Int) - 1) = L - 1 ∧ 0 ≤ 0 + c % (IntKind.i64.wrap ((L : Int) - 1) - 0 + 1) ∧ 0 + c % (IntKind.i64.wrap ((L : Int) - 1) - 0 + 1) < L := by
  have e : IntKind.i64.wrap ((L : Int) - 1) = L - 1 := wi (by omega) (by omega)
  rw [e]
  have hm := mod_in c (l := ((L : Int) - 1) - 0 + 1) (by omega)
  exact ⟨rfl, by omega, by omega⟩
theorem xor_in (x y : Int) : 0 ≤ bits .xor .u8 x y ∧ bits .xor .u8 x y < 256 := by
  unfold bits
  exact byte_in _
theorem aget_fit (xs : List UInt8) : RFit (agetF xs).1 := by
  unfold agetF
  split
  · have h1 := rv_lt xs 0 (n := 1) (m := 256) (by decide)
    have h2 := rv_lt xs 9 (n := 1) (m := 256) (by decide)
    have h3 : -9223372036854775808 ≤ IntKind.i64.wrap (rv xs 1 8) ∧ IntKind.i64.wrap (rv xs 1 8) ≤ 9223372036854775807 := by rw [IntKind.wrap_i64]; omega
    refine RFit.in ⟨⟨by omega, by omega⟩, h3, ⟨by omega, by omega⟩, ?_⟩
    split
    · exact get_fit _
    · exact (RFit.out zero_fit).2.2.2
  · exact zero_fit
theorem ent_fit (a xs : List UInt8) : RFit (entF a xs).1 := by
  unfold entF
  split
  · exact aget_fit _
  · exact zero_fit
theorem parseG_fit : ∀ (n : Nat) (a xs : List UInt8) (at_ : Int), xs.length ≤ n → ∀ r ∈ (parseG a xs at_).1, RFit r := by
  intro n
  induction n with
  | zero =>
    intro a xs at_ h r hr
    rw [List.eq_nil_of_length_eq_zero (Nat.le_zero.1 h), parseG_nil] at hr
    exact absurd hr List.not_mem_nil
  | succ n ih =>
    intro a xs at_ h r hr
    by_cases hx : xs = []
    · subst hx
      rw [parseG_nil] at hr
      exact absurd hr List.not_mem_nil
    · by_cases hz : (entF a xs).2.2 = 0
      · rw [parseG_stop hx hz] at hr
        exact absurd hr List.not_mem_nil
      · rw [parseG_step hx hz] at hr
        have hp := ent_pos hz
        rcases List.mem_cons.1 hr with hr | hr
        · rw [hr]; exact ent_fit _ _
        · exact ih _ _ _ (by rw [List.length_drop]; omega) r hr
theorem parse_fit (xs : List UInt8) : ∀ r ∈ (parseF xs).1, RFit r := parseG_fit _ _ _ _ (Nat.le_refl _)
theorem take_end_f {l : List recE.ty} (_ : ∀ r ∈ l, RFit r) {i : Int} (h : ¬ i < (l.length : Int)) (h0 : i ≤ l.length) : rightsL (List.take i.toNat l) = rightsL l := by rw [take_end h h0]
theorem rights_fit {l : List recE.ty} (h : ∀ r ∈ l, RFit r) : ∀ r ∈ rightsL l, RFit r := fun r hr => h r (List.mem_filter.1 hr).1
theorem cut1n (c : Int) {L : Nat} (h : L ≤ 100000) (h1 : 0 < L) : (0 + c % (IntKind.i64.wrap ((L : Int) - 1) - 0 + 1)).toNat < L := by
  have := cut1 c h h1
  omega
section
attribute [local irreducible] linkF
theorem linksG_get (d : List UInt8) : ∀ (pre : List (List UInt8)) (a x : List UInt8) (post : List (List UInt8)), (linksG a (pre ++ x :: post)).getD pre.length d = linkF (lastG a pre) x
  | [], _, _, _ => rfl
  | p :: pre, a, x, post => by
    show (linkF a p :: linksG (linkF a p) (pre ++ x :: post)).getD (pre.length + 1) d = linkF (lastG (linkF a p) pre) x
    rw [← linksG_get d pre (linkF a p) x post]
    rfl
theorem endL_last : ∀ (ws : List recE.ty) (a : List UInt8), endL a ws = lastG a (ws.map aputR)
  | [], _ => rfl
  | r :: ws, a => by
    show endL (linkF a (aputR r)) ws = lastG (linkF a (aputR r)) (ws.map aputR)
    exact endL_last ws _
end
theorem getD_mid {α : Type} (d : α) : ∀ (pre : List α) (x : α) (post : List α), (pre ++ x :: post).getD pre.length d = x
  | [], _, _ => rfl
  | _ :: pre, x, post => by
    show (pre ++ x :: post).getD pre.length d = x
    exact getD_mid d pre x post
theorem turned_law {ws : List recE.ty} (h : RightL ws) {k : Nat} {c : UInt8} (hk : k < (encL noSum ws).length) (hc : c ≠ (encL noSum ws).getD k 0) :
    (0 ≤ (parseF ((encL noSum ws).set k c)).2 ∧ (parseF ((encL noSum ws).set k c)).2 ≤ k ∧ (parseF ((encL noSum ws).set k c)).1.length < ws.length ∧ (parseF ((encL noSum ws).set k c)).1 = ws.take (parseF ((encL noSum ws).set k c)).1.length) ∨
    ((parseF ((encL noSum ws).set k c)).2 = -1 ∧ (parseF ((encL noSum ws).set k c)).1.length = ws.length ∧ ∃ j : Nat, j < ws.length ∧ (linksF (ws.map aputR)).getD j (El.dflt sumE) = (linksF ((parseF ((encL noSum ws).set k c)).1.map aputR)).getD j (El.dflt sumE) ∧
      (ws.map aputR).getD j [] ≠ ((parseF ((encL noSum ws).set k c)).1.map aputR).getD j []) := by
  have ht := turned_at ws h noSum k c 0 hk hc
  have e : ∀ z, parseF z = parseG noSum z 0 := fun _ => rfl
  rw [e]
  rcases ht with ⟨n, n1, n2, n3⟩ | ⟨pre, r, s, post, p1, p2, p3, p4, p5, p6⟩
  · left
    rw [n2]
    have hl : (ws.take n).length = n := by rw [List.length_take]; omega
    refine ⟨?_, ?_, ?_, ?_⟩
    · show (0 : Int) ≤ 0 + ((encL noSum (ws.take n)).length : Int); omega
    · show (0 : Int) + ((encL noSum (ws.take n)).length : Int) ≤ k; omega
    · show (ws.take n).length < _; omega
    · show ws.take n = ws.take (ws.take n).length; rw [hl]
  · right
    rw [p2]
    refine ⟨rfl, ?_, pre.length, ?_, ?_, ?_⟩
    · rw [p1]; simp only [List.length_append, List.length_cons]
    · rw [p1]; simp only [List.length_append, List.length_cons]; omega
    · rw [p1]
      unfold linksF
      simp only [List.map_append, List.map_cons]
      rw [show pre.length = (pre.map aputR).length from (List.length_map _).symm]
      rw [linksG_get, linksG_get, ← endL_last, p6]
    · rw [p1]
      simp only [List.map_append, List.map_cons]
      rw [show pre.length = (pre.map aputR).length from (List.length_map _).symm, getD_mid, getD_mid]
      exact fun e => p5 e.symm
theorem xor_ne (a b : UInt8) (hb : b ≠ 0) : UInt8.ofNat (bits .xor .u8 (a.toNat : Int) (b.toNat : Int)).toNat ≠ a := by
  intro e
  apply hb
  have h1 := UInt8.toNat_lt a
  have h2 := UInt8.toNat_lt b
  have h3 : a.toNat ^^^ b.toNat < 2 ^ 8 := Nat.xor_lt_two_pow h1 h2
  have h4 : (BitVec.ofInt 8 (a.toNat : Int) ^^^ BitVec.ofInt 8 (b.toNat : Int)).toNat = a.toNat ^^^ b.toNat := by
    rw [BitVec.toNat_xor, BitVec.ofInt_natCast, BitVec.ofInt_natCast, BitVec.toNat_ofNat, BitVec.toNat_ofNat, Nat.mod_eq_of_lt h1, Nat.mod_eq_of_lt h2]
  have e1 : bits .xor .u8 (a.toNat : Int) (b.toNat : Int) = ((a ^^^ b).toNat : Int) := by
    show IntKind.u8.wrap (((BitVec.ofInt 8 (a.toNat : Int) ^^^ BitVec.ofInt 8 (b.toNat : Int)).toNat : Nat) : Int) = _
    rw [h4, IntKind.wrap_u8, UInt8.toNat_xor]
    omega
  rw [e1, Int.toNat_natCast, UInt8.ofNat_toNat] at e
  have e2 : a ^^^ (a ^^^ b) = a ^^^ a := by rw [e]
  rw [← UInt8.xor_assoc, UInt8.xor_self, UInt8.zero_xor] at e2
  exact e2
theorem body_lt {l : List recE.ty} (_ : ∀ r ∈ l, RFit r) {i : Int} (h : i < (l.length : Int)) : i < (l.length : Int) := h
theorem turned_goal {ws : List recE.ty} {a : Int} {to : UInt8} (h : RightL ws) (hb : (encL noSum ws).length ≤ 1200) (hE : 0 < (encL noSum ws).length) (hto : ¬ ((to.toNat : Nat) : Int) = 0) (_ : -9223372036854775808 ≤ a) :
    (0 ≤ (parseF ((encL noSum ws).set (0 + a % (IntKind.i64.wrap (((encL noSum ws).length : Int) - 1) - 0 + 1)).toNat (UInt8.ofNat (bits .xor .u8 ((((encL noSum ws).getD (0 + a % (IntKind.i64.wrap (((encL noSum ws).length : Int) - 1) - 0 + 1)).toNat (El.dflt .u8)).toNat : Nat) : Int) ((to.toNat : Nat) : Int)).toNat))).2 ∧ (parseF ((encL noSum ws).set (0 + a % (IntKind.i64.wrap (((encL noSum ws).length : Int) - 1) - 0 + 1)).toNat (UInt8.ofNat (bits .xor .u8 ((((encL noSum ws).getD (0 + a % (IntKind.i64.wrap (((encL noSum ws).length : Int) - 1) - 0 + 1)).toNat (El.dflt .u8)).toNat : Nat) : Int) ((to.toNat : Nat) : Int)).toNat))).2 ≤ 0 + a % (IntKind.i64.wrap (((encL noSum ws).length : Int) - 1) - 0 + 1) ∧
      (parseF ((encL noSum ws).set (0 + a % (IntKind.i64.wrap (((encL noSum ws).length : Int) - 1) - 0 + 1)).toNat (UInt8.ofNat (bits .xor .u8 ((((encL noSum ws).getD (0 + a % (IntKind.i64.wrap (((encL noSum ws).length : Int) - 1) - 0 + 1)).toNat (El.dflt .u8)).toNat : Nat) : Int) ((to.toNat : Nat) : Int)).toNat))).1.length < ws.length ∧
      (parseF ((encL noSum ws).set (0 + a % (IntKind.i64.wrap (((encL noSum ws).length : Int) - 1) - 0 + 1)).toNat (UInt8.ofNat (bits .xor .u8 ((((encL noSum ws).getD (0 + a % (IntKind.i64.wrap (((encL noSum ws).length : Int) - 1) - 0 + 1)).toNat (El.dflt .u8)).toNat : Nat) : Int) ((to.toNat : Nat) : Int)).toNat))).1 = ws.take (parseF ((encL noSum ws).set (0 + a % (IntKind.i64.wrap (((encL noSum ws).length : Int) - 1) - 0 + 1)).toNat (UInt8.ofNat (bits .xor .u8 ((((encL noSum ws).getD (0 + a % (IntKind.i64.wrap (((encL noSum ws).length : Int) - 1) - 0 + 1)).toNat (El.dflt .u8)).toNat : Nat) : Int) ((to.toNat : Nat) : Int)).toNat))).1.length) ∨
    ((parseF ((encL noSum ws).set (0 + a % (IntKind.i64.wrap (((encL noSum ws).length : Int) - 1) - 0 + 1)).toNat (UInt8.ofNat (bits .xor .u8 ((((encL noSum ws).getD (0 + a % (IntKind.i64.wrap (((encL noSum ws).length : Int) - 1) - 0 + 1)).toNat (El.dflt .u8)).toNat : Nat) : Int) ((to.toNat : Nat) : Int)).toNat))).2 = -1 ∧ (parseF ((encL noSum ws).set (0 + a % (IntKind.i64.wrap (((encL noSum ws).length : Int) - 1) - 0 + 1)).toNat (UInt8.ofNat (bits .xor .u8 ((((encL noSum ws).getD (0 + a % (IntKind.i64.wrap (((encL noSum ws).length : Int) - 1) - 0 + 1)).toNat (El.dflt .u8)).toNat : Nat) : Int) ((to.toNat : Nat) : Int)).toNat))).1.length = ws.length ∧
      ∃ j : Nat, j < ws.length ∧ (linksF (ws.map aputR)).getD j (El.dflt sumE) = (linksF ((parseF ((encL noSum ws).set (0 + a % (IntKind.i64.wrap (((encL noSum ws).length : Int) - 1) - 0 + 1)).toNat (UInt8.ofNat (bits .xor .u8 ((((encL noSum ws).getD (0 + a % (IntKind.i64.wrap (((encL noSum ws).length : Int) - 1) - 0 + 1)).toNat (El.dflt .u8)).toNat : Nat) : Int) ((to.toNat : Nat) : Int)).toNat))).1.map aputR)).getD j (El.dflt sumE) ∧
      (ws.map aputR).getD j [] ≠ ((parseF ((encL noSum ws).set (0 + a % (IntKind.i64.wrap (((encL noSum ws).length : Int) - 1) - 0 + 1)).toNat (UInt8.ofNat (bits .xor .u8 ((((encL noSum ws).getD (0 + a % (IntKind.i64.wrap (((encL noSum ws).length : Int) - 1) - 0 + 1)).toNat (El.dflt .u8)).toNat : Nat) : Int) ((to.toNat : Nat) : Int)).toNat))).1.map aputR).getD j []) := by
  have hc := cut1 a (Nat.le_trans hb (by decide)) hE
  have hn := cut1n a (Nat.le_trans hb (by decide)) hE
  generalize 0 + a % (IntKind.i64.wrap (((encL noSum ws).length : Int) - 1) - 0 + 1) = K at *
  have ht : to ≠ 0 := fun e => hto (by rw [e]; rfl)
  have hl := turned_law h hn (xor_ne _ to ht)
  rw [Int.toNat_of_nonneg hc.2.1] at hl
  exact hl
theorem wrap_ok {i : Int} {n : Nat} (h0 : 0 ≤ i) (h : i < (n : Int)) (hn : n ≤ 1000) : 0 ≤ IntKind.i64.wrap (i + 1) ∧ IntKind.i64.wrap (i + 1) ≤ n ∧ n - (IntKind.i64.wrap (i + 1)).toNat < n - i.toNat := by
  rw [wi (by omega) (by omega)]
  omega
theorem map_next {ws : List recE.ty} {i : Int} (h0 : 0 ≤ i) (h : i < (ws.length : Int)) (hn : ws.length ≤ 1000) : List.map aputR (List.take i.toNat ws) ++ [aputR (ws.getD i.toNat recE.dflt)] = List.map aputR (List.take (IntKind.i64.wrap (i + 1)).toNat ws) := by
  rw [wi (by omega) (by omega), show (i + 1).toNat = i.toNat + 1 by omega, take_next2 (d := recE.dflt) h0 h, List.map_append]
  rfl
theorem body_facts {l : List recE.ty} (hf : ∀ r ∈ l, RFit r) {i : Int} (h0 : 0 ≤ i) (h : i < (l.length : Int)) (h12 : l.length ≤ 12) :
    RFit (l.getD i.toNat recE.dflt) ∧ (encL noSum (rightsL (List.take i.toNat l))).length ≤ 1200 ∧ (rightsL (List.take i.toNat l)).length ≤ 12 := by
  have h1 := encL_le (rights_right (fit_take hf i.toNat)) noSum
  have h2 := rights_le2 l i.toNat
  exact ⟨hf _ (getD_mem' h0 h), by omega, by omega⟩
theorem add_next {l : List recE.ty} {i : Int} (h0 : 0 ≤ i) (h : i < (l.length : Int)) (h12 : l.length ≤ 12) :
    (addF (encL noSum (rightsL (List.take i.toNat l))) (endL noSum (rightsL (List.take i.toNat l))) ((rightsL (List.take i.toNat l)).length : Int) (l.getD i.toNat recE.dflt)).1 = encL noSum (rightsL (List.take (IntKind.i64.wrap (i + 1)).toNat l)) ∧
    (addF (encL noSum (rightsL (List.take i.toNat l))) (endL noSum (rightsL (List.take i.toNat l))) ((rightsL (List.take i.toNat l)).length : Int) (l.getD i.toNat recE.dflt)).2.1 = endL noSum (rightsL (List.take (IntKind.i64.wrap (i + 1)).toNat l)) ∧
    (addF (encL noSum (rightsL (List.take i.toNat l))) (endL noSum (rightsL (List.take i.toNat l))) ((rightsL (List.take i.toNat l)).length : Int) (l.getD i.toNat recE.dflt)).2.2.1 = ((rightsL (List.take (IntKind.i64.wrap (i + 1)).toNat l)).length : Int) := by
  rw [wi (by omega) (by omega), show (i + 1).toNat = i.toNat + 1 by omega, rights_next h0 h]
  cases hq : arightR (l.getD i.toNat recE.dflt)
  · rw [addF_no2 hq, if_neg (by simp), List.append_nil]
    exact ⟨rfl, rfl, rfl⟩
  · rw [addF_yes3 hq, if_pos rfl]
    refine ⟨rfl, rfl, ?_⟩
    rw [List.length_append, List.length_singleton]
    rfl
theorem turned_fin1 {ws y : List recE.ty} {K bad : Int} {Q : Prop} (hT : (0 ≤ bad ∧ bad ≤ K ∧ y.length < ws.length ∧ y = ws.take y.length) ∨ (bad = -1 ∧ Q)) (h0 : 0 ≤ bad) (h : rsameF y (List.take ((y.length : Int) - 0).toNat (List.drop (Int.toNat 0) ws)) = false) : False := by
  rcases hT with ⟨_, _, _, e⟩ | ⟨e, _⟩
  · rw [show ((y.length : Int) - 0).toNat = y.length by omega, show Int.toNat 0 = 0 from rfl, List.drop_zero, ← e, rsame_iff.2 rfl] at h
    cases h
  · omega
theorem turned_fin2 {ws y : List recE.ty} {K bad x i1 i2 : Int} (hT : (0 ≤ bad ∧ bad ≤ K ∧ y.length < ws.length ∧ y = ws.take y.length) ∨ (bad = -1 ∧ y.length = ws.length ∧ ∃ j : Nat, j < ws.length ∧ (linksF (ws.map aputR)).getD j (El.dflt sumE) = (linksF (y.map aputR)).getD j (El.dflt sumE) ∧ (ws.map aputR).getD j [] ≠ (y.map aputR).getD j [])) (h0 : ¬ 0 ≤ bad)
    (hc : ∀ j : Nat, j < (List.map aputR (List.take i1.toNat ws)).length → j < (List.map aputR (List.take i2.toNat y)).length → (linksF (List.map aputR (List.take i1.toNat ws))).getD j (El.dflt sumE) = (linksF (List.map aputR (List.take i2.toNat y))).getD j (El.dflt sumE) → (List.map aputR (List.take i1.toNat ws)).getD j [] ≠ (List.map aputR (List.take i2.toNat y)).getD j [] → 0 ≤ x)
    (hx : ¬ 0 ≤ x) (e1 : ¬ i1 < (ws.length : Int)) (b1 : i1 ≤ ws.length) (e2 : ¬ i2 < (y.length : Int)) (b2 : i2 ≤ y.length) : False := by
  rw [take_end e1 b1, take_end e2 b2] at hc
  rcases hT with ⟨e, _⟩ | ⟨_, hl, j, j1, j2, j3⟩
  · exact h0 e
  · exact hx (hc j (by rw [List.length_map]; exact j1) (by rw [List.length_map]; omega) j2 j3)
theorem mp1 {ws : List recE.ty} {n : Nat} {x : List UInt8} (h : ws.length ≤ 1000) : (List.map aputR (List.take n ws)).length + [x].length ≤ 2 ^ 63 - 1 := by
  have := List.length_take_le' n ws
  rw [List.length_map, List.length_singleton]
  omega
theorem mp2 {ws : List recE.ty} {n : Nat} {x : List UInt8} (h : ws.length ≤ 1000) : ((List.map aputR (List.take n ws)).length + [x].length) * 24 ≤ 140737488355328 := by
  have := List.length_take_le' n ws
  rw [List.length_map, List.length_singleton]
  omega
theorem map_0 (ws : List recE.ty) : [] = List.map aputR (List.take (Int.toNat 0) ws) := rfl
theorem map_fit {ws : List recE.ty} (h : ∀ r ∈ ws, RFit r) (n : Nat) : ∀ x ∈ List.map aputR (List.take n ws), x.length ≤ 1000 := fun x hx => by
  obtain ⟨r, hr, rfl⟩ := List.mem_map.1 hx
  have := aput_len (h r (List.mem_of_mem_take hr)).out
  omega
theorem map_len (ws : List recE.ty) (n : Nat) (h : ws.length ≤ 1000) : (List.map aputR (List.take n ws)).length ≤ 1000 := by
  rw [List.length_map]
  exact Nat.le_trans (List.length_take_le' _ _) h
attribute [local irreducible] rightsL RightL List.getD addF parseF linkF entB aputR arightR agetF rsameF encL endL linksF
@[reducible] def auditTurned_s : Spec where
  n := 0
  cs := []
  ar := [.el (.rd doE), .el iE, .el .u8]
  pre := fun (l, at_, to, _) => (∀ d ∈ l, DFit d) ∧ fit64 at_
  n' := 0
  cs' := []
  rs := [.el .bool]
  post := .fn fun _ => (true, ())
@[reducible] def turned_a : Ann where
  nx := 2
  cs := [(0, .row 30 recE), (1, .own logSh)]
  ss := [(1, .el iE), (2, .el .u8), (7, .ref 1), (28, .own 0), (29, .el iE), (30, .el iE)]
  inv := fun (rs0, _, _, _, at0, to0, ln0, _, _) (rs, b, lk, n, at_, to, ln, i, _) => rs = rs0 ∧ at_ = at0 ∧ to = to0 ∧ ln = ln0 ∧ 0 ≤ i ∧ i ≤ rs.length ∧ b = encL noSum (rightsL (rs.take i.toNat)) ∧ lk = endL noSum (rightsL (rs.take i.toNat)) ∧ n = (rightsL (rs.take i.toNat)).length
  mu := fun (rs, _, _, _, _, _, _, i, _) => rs.length - i.toNat
@[reducible] def turned_b : Ann where
  nx := 4
  cs := [(0, .row 30 recE), (1, .row 30 recE), (2, .row 31 (.rd .u8)), (3, .row 31 (.rd .u8))]
  ss := [(13, .own 1), (17, .own 2), (18, .own 3), (96, .own 0), (97, .el iE), (98, .el iE)]
  inv := fun (was0, y0, _, q0, ln0, _, _) (was, y, p, q, ln, i, _) => was = was0 ∧ y = y0 ∧ q = q0 ∧ ln = ln0 ∧ 0 ≤ i ∧ i ≤ was.length ∧ p = (was.take i.toNat).map aputR
  mu := fun (was, _, _, _, _, i, _) => was.length - i.toNat
@[reducible] def turned_c : Ann where
  nx := 4
  cs := [(1, .row 30 recE), (2, .row 31 (.rd .u8)), (3, .row 31 (.rd .u8))]
  ss := [(17, .own 2), (18, .own 3), (108, .own 1), (109, .el iE), (110, .el iE)]
  inv := fun (y0, p0, _, ln0, _, _) (y, p, q, ln, i, _) => y = y0 ∧ p = p0 ∧ ln = ln0 ∧ 0 ≤ i ∧ i ≤ y.length ∧ q = (y.take i.toNat).map aputR
  mu := fun (y, _, _, _, i, _) => y.length - i.toNat
@[reducible] def auditTurned_h : Hints := ⟨[], [(5, turned_a), (21, turned_b), (26, turned_c)], []⟩
@[reducible] noncomputable def auditTurned_e : Env := ⟨tys, [(8, anew_s.call), (18, recs_s.call), (9, aaddw_s.call), (10, abytes_s.call), (3, auditRuns_s.call), (17, within_s.call), (12, parse_s.call), (19, rsame_s.call), (15, aputw_s.call), (24, clash_s.call)]⟩
set_option maxHeartbeats 4000000 in
set_option maxRecDepth 100000 in
theorem auditTurned_d : denF auditTurned_e auditTurned_s auditTurned_h Try.f7 := by
  intro l at_ to
  intro hpre
  dsimp only [auditTurned_s] at hpre
  obtain ⟨hd, hat⟩ := hpre
  repeat' (first | (conv => whnf); first | done | exact True.intro | refine And.intro ?_ ?_ | refine Is.mk ?_ | (intro h; cases h; done) | (intro _))
  all_goals try dsimp only [maxLen, El.ty, turned_a, turned_b, turned_c] at *
  all_goals repeat (with_reducible cases ‹_ ∧ _›)
  all_goals try subst_vars
  all_goals try (with_reducible assumption)
  all_goals try exact hd _ (by assumption)
  all_goals try exact zero_fit
  all_goals try (rename ∀ r : recE.ty, _ → RFit r => hf)
  all_goals try (with_reducible exact hf _ (by assumption))
  all_goals try simp only [decide_eq_true_eq, decide_eq_false_iff_not] at *
  all_goals try (with_reducible exact (xor_in _ _).1)
  all_goals try (with_reducible exact (xor_in _ _).2)
  all_goals try (with_reducible exact u8lt _)
  all_goals try (with_reducible rfl)
  all_goals try omega
  all_goals try simp only [Int.toNat_natCast, UInt8.ofNat_toNat] at *
  all_goals first
    | have te := take_end_f hf (by assumption) (by assumption)
    | skip
  all_goals first
    | have hlt := body_lt hf (by assumption)
    | skip
  all_goals try simp only [te, List.nil_append] at *
  all_goals try (have te0 := te; clear te0; have hL := rights_right hf; have hb := enc_le2 hf (by assumption); have hw := Nat.le_trans (rights_le _) (by assumption : List.length _ ≤ 12); have hfw := rights_fit hf; generalize rightsL _ = ws at *)
  all_goals first
    | have hP := parse_all hL
    | skip
  all_goals try simp only [hP] at *
  all_goals try (have hE : 0 < (encL noSum ws).length := by omega)
  all_goals try (with_reducible exact (cut1 _ (Nat.le_trans hb (by decide)) hE).2.1)
  all_goals try (with_reducible exact (cut1 _ (Nat.le_trans hb (by decide)) hE).2.2)
  all_goals try (with_reducible exact cut1n _ (Nat.le_trans hb (by decide)) hE)
  all_goals try (rw [(cut1 0 (Nat.le_trans hb (by decide)) hE).1]; omega)
  all_goals try (rw [rights_0]; first | exact enc_nil | exact end_nil | exact rfl)
  all_goals try (with_reducible exact map_0 _)
  all_goals try omega
  all_goals try (rename (-9223372036854775808 : Int) ≤ _ => h64)
  all_goals first
    | have hT := turned_goal hL hb hE (by assumption) h64
    | skip
  all_goals try (have hT0 := hT; clear hT0; generalize hC : (encL noSum ws).set _ _ = C at *)
  all_goals try (have hC0 := hC; clear hC0; have hfy := parse_fit C; have hCl : C.length ≤ 1200 := by rw [← hC, List.length_set]; exact hb)
  all_goals try (have hC0 := hC; clear hC0; generalize (parseF C).1 = y at *; generalize (parseF C).2 = bad at *)
  all_goals try (have hy : y.length ≤ 12 := by rcases hT with ⟨_, _, h, _⟩ | ⟨_, h, _⟩ <;> omega)
  all_goals try omega
  all_goals try (with_reducible exact (wrap_ok (by assumption) (by assumption) (Nat.le_trans hw (by decide))).1)
  all_goals try (with_reducible exact (wrap_ok (by assumption) (by assumption) (Nat.le_trans hw (by decide))).2.1)
  all_goals try (with_reducible exact (wrap_ok (by assumption) (by assumption) (Nat.le_trans hw (by decide))).2.2)
  all_goals try (with_reducible exact (wrap_ok (by assumption) (by assumption) (Nat.le_trans hy (by decide))).1)
  all_goals try (with_reducible exact (wrap_ok (by assumption) (by assumption) (Nat.le_trans hy (by decide))).2.1)
  all_goals try (with_reducible exact (wrap_ok (by assumption) (by assumption) (Nat.le_trans hy (by decide))).2.2)
  all_goals try exact map_next (by assumption) (by assumption) (Nat.le_trans hw (by decide))
  all_goals try exact map_next (by assumption) (by assumption) (Nat.le_trans hy (by decide))
  all_goals try (with_reducible exact map_len _ _ (Nat.le_trans hw (by decide)))
  all_goals try (with_reducible exact map_len _ _ (Nat.le_trans hy (by decide)))
  all_goals try (with_reducible exact map_fit hfw _ _ (by assumption))
  all_goals try (with_reducible exact map_fit hfy _ _ (by assumption))
  all_goals try (rw [List.length_set]; omega)
  all_goals try (rw [List.length_nil]; omega)
  all_goals try exact endL_len0 _
  all_goals try (with_reducible exact mp1 (Nat.le_trans hw (by decide)))
  all_goals try (with_reducible exact mp1 (Nat.le_trans hy (by decide)))
  all_goals try (with_reducible exact mp2 (Nat.le_trans hw (by decide)))
  all_goals try (with_reducible exact mp2 (Nat.le_trans hy (by decide)))
  all_goals try exact hfw _ (getD_mem' (by assumption) (by assumption))
  all_goals try exact hfy _ (getD_mem' (by assumption) (by assumption))
  all_goals try (have hlt0 := hlt; clear hlt0; have w1 := wrap_ok (by assumption) hlt (Nat.le_trans (by assumption : List.length _ ≤ 12) (by decide)))
  all_goals try omega
  all_goals try exact (body_facts hf (by assumption) hlt (by assumption)).1
  all_goals try exact Nat.le_trans (body_facts hf (by assumption) hlt (by assumption)).2.1 (by decide)
  all_goals try exact (add_next (by assumption) hlt (by assumption)).1
  all_goals try exact (add_next (by assumption) hlt (by assumption)).2.1
  all_goals try exact (add_next (by assumption) hlt (by assumption)).2.2
  all_goals try exact Int.le_trans (Int.ofNat_le.2 (body_facts hf (by assumption) hlt (by assumption)).2.2) (by decide)
  all_goals exfalso
  all_goals first
    | exact turned_fin1 hT (by assumption) (by assumption)
    | exact turned_fin2 hT (by assumption) (by assumption) (by assumption) (by assumption) (by assumption) (by assumption) (by assumption)
set_option maxRecDepth 100000 in
theorem auditTurned_p : (FnIs Try.prog 7 ∧ FnOk Try.prog 7 auditTurned_s) ∧ (idsOk auditTurned_s.cs && idsOk auditTurned_s.cs' && Nat.ble auditTurned_s.n auditTurned_s.n') = true :=
  fn_of (l := [(8, anew_s.call), (18, recs_s.call), (9, aaddw_s.call), (10, abytes_s.call), (3, auditRuns_s.call), (17, within_s.call), (12, parse_s.call), (19, rsame_s.call), (15, aputw_s.call), (24, clash_s.call)]) (hi := auditTurned_h) (S := auditTurned_s) (fn := Try.f7) (c := Try.f7.body.get!) tysOk mixOk ⟨.inl anew_m, .inl recs_m, .inl aaddw_m, .inl abytes_m, .inl auditRuns_m, .inl within_m, .inl parse_m, .inl rsame_m, .inl aputw_m, .inl clash_m, trivial⟩ (by kernel_rfl) (by kernel_rfl) (by kernel_rfl) (by kernel_rfl) (by kernel_rfl) auditTurned_d
theorem auditTurned_m : May Try.prog (7, auditTurned_s.call) := may_call auditTurned_p
theorem auditTurned_n : May Try.prog (7, auditTurned_s.callN) := may_callN auditTurned_p
end Go.J

set_option linter.unusedSimpArgs false
set_option linter.unusedVariables false
set_option linter.unusedSectionVars false

namespace Go.J
open Go.RowKit

/-- The world as a call finds it: nothing that is there is written. -/
def cxOf (w : World) : Cx := ⟨fun _ => none, fun b => b < w.heap.size, w⟩
theorem mdl_start (w : World) (n : Nat) : Mdl w ⟨fun _ => False, fun b => b < w.heap.size⟩ (cxOf w) [] n :=
  ⟨rfl, rfl, rfl, Nat.le_refl _, fun _ _ _ => rfl, fun _ h => h, fun _ _ => rfl, fun _ _ h => (nomatch h), (by simp), fun _ _ _ _ _ _ h => (nomatch h), fun _ _ _ h => (nomatch h), fun _ h => .inl h⟩
theorem Mdl.below {w : World} {im : Nat → Prop} {G : Cx} {hp : Hp} {nx : Nat} (h : Mdl w ⟨fun _ => False, im⟩ G hp nx) : RowKit.Below w.heap.size w G.w :=
  ⟨h.os, h.tape, h.output, h.size, fun k hk => h.keep k hk (fun hf => hf)⟩

/-- A law's walk. -/
theorem law_walk {P : Program} {f : FuncId} {g : List T → Hp → Nat → (T → Hp → Nat → Prop) → Prop} (h : CallOk P f g) (w : World) (args : List T) (vs : List Value) (n : Nat) (hv : frOk (cxOf w) args ⟨vs⟩)
    (hg : ∀ k : T → Hp → Nat → Prop, (∀ hp nx, k (.v (.bool true)) hp nx) → g args [] n k) : Calls P f ⟨vs⟩ w fun e w' => e = .returned (.bool true) ∧ RowKit.Below w.heap.size w w' := by
  refine Calls.mono (h w _ (cxOf w) [] n args vs (fun x _ _ => x = .v (.bool true)) (mdl_start w n) hv (hg _ fun _ _ => rfl)) ?_
  rintro e w' ⟨G', x, v, hp', nx', rfl, rfl, _, hm, hv, rfl⟩
  have hv : v = .bool true := hv
  subst hv
  exact ⟨rfl, hm.below⟩

end Go.J

set_option linter.unusedSimpArgs false
set_option linter.unusedVariables false
namespace Go.J
open Go.RowKit Go.ChangeShapes Go.WideShapes

theorem wf_int {k : IntKind} {n : Int} (h : (Lit.int k n).wf = true) : k.min ≤ n ∧ n ≤ k.max := by simpa [Lit.wf] using h

/-- How great a value that comes in may be. -/
def El.fits : (e : El) → e.ty → Prop
  | .u8, _ => True
  | .int k, n => k.min ≤ n ∧ n ≤ k.max
  | .bool, _ => True
  | .str, s => s.length ≤ maxLen
  | .rd e, xs => xs.length ≤ maxLen ∧ ∀ x ∈ xs, e.fits x
  | .nil, _ => True
  | .cons e es, x => e.fits x.1 ∧ es.fits x.2
  | .ar n e, xs => xs.length = n ∧ ∀ x ∈ xs, e.fits x

/-- Is a type's value told so? -/
def elTys (f : TypeId → El → Bool) : List (TypeId × Nat) → Nat → El → Bool
  | [], _, .nil => true
  | (t, d) :: fs, d', .cons e es => Nat.beq d d' && f t e && elTys f fs (d' + e.sz) es
  | _, _, _ => false
def elTy (l : List (Nat × TyI)) : Nat → TypeId → El → Bool
  | 0, _, _ => false
  | n + 1, t, e => match lookTy l t with
    | none => false
    | some y => Nat.beq y.size e.sz && (match y.k, e with
      | .int k, .int k' => k == k'
      | .int k, .u8 => k == .u8
      | .bool, .bool => true
      | .str, .str => true
      | .sl et, .rd e => Nat.blt 0 e.sz && elTy l n et e
      | .st fs, e => elTys (elTy l n) fs 0 e
      | .ar m et, .ar m' e => Nat.beq m m' && elTy l n et e
      | _, _ => false)

section
variable {H : Type} {enc : TypeId × Value → H} {P : Program} {l : List (Nat × TyI)} {w : World}

theorem cellsOf_size {t : TypeId} {y : TyI} (h : TyOk P t y) : P.cellsOf t = y.size := by
  have := ty_size h
  unfold Program.cellsOf
  rw [this]
  rfl
theorem elTy_size (hty : ∀ t i, (t, i) ∈ l → TyOk P t i) {n : Nat} {t : TypeId} {e : El} (h : elTy l n t e = true) : P.cellsOf t = e.sz := by
  cases n with
  | zero => simp [elTy] at h
  | succ n =>
    unfold elTy at h
    split at h
    · cases h
    · next y hy =>
      simp only [Bool.and_eq_true] at h
      rw [cellsOf_size (hty t y (lookTy_out hy)), nat_beq_eq h.1]

theorem addr_add_add (a : Addr) (m n : Nat) : (a.add m).add n = a.add (m + n) := by
  unfold Addr.add
  by_cases h1 : m = 0 <;> by_cases h2 : n = 0 <;> simp [h1, h2, Nat.add_assoc]

theorem rows_of {α : Type} {R : α → List Value → Prop} {F : α → Prop} {a : Addr} {sz : Nat} : ∀ (len : Nat), (∀ i, i < len → ∃ x css, w.cells? 0 (a.add (i * sz)) sz = some css ∧ R x css ∧ F x) →
    ∃ xs css, xs.length = len ∧ css.length = len * sz ∧ listOf R xs css ∧ (∀ j v, css[j]? = some v → w.cell? (a.add j) = some v) ∧ ∀ x ∈ xs, F x
  | 0, _ => ⟨[], [], rfl, by simp, rfl, fun j v h => by simp at h, fun x h => by cases h⟩
  | len + 1, h => by
    obtain ⟨xs, css, h1, h2, h3, h4, h5⟩ := rows_of len fun i hi => h i (by omega)
    obtain ⟨x, c, k1, k2, k3⟩ := h len (by omega)
    obtain ⟨_, m1, m2⟩ := World.cells?_some k1
    refine ⟨xs ++ [x], css ++ c, by simp [h1], by rw [List.length_append, h2, m1, Nat.add_mul, Nat.one_mul], listOf_append h3 ⟨c, [], by simp, k2, rfl⟩, fun j v hj => ?_, fun y hy => ?_⟩
    · by_cases hlt : j < css.length
      · rw [List.getElem?_append_left hlt] at hj
        exact h4 j v hj
      · rw [List.getElem?_append_right (by omega)] at hj
        have hlt2 : j - css.length < c.length := (List.getElem?_eq_some_iff.1 hj).1
        have := m2 (j - css.length) (by omega)
        rw [addr_add_add, h2, show len * sz + (j - len * sz) = j by omega] at this
        rw [this, ← h2]
        exact hj
    · rcases List.mem_append.1 hy with hy | hy
      · exact h5 y hy
      · simp at hy; subst hy; exact k3

theorem trod_el (hty : ∀ t i, (t, i) ∈ l → TyOk P t i) : ∀ (n fuel : Nat) (t : TypeId) (e : El) (cs : List Value) (r : DataW H × List MemPlace), elTy l n t e = true → DataW.trod enc P w 0 (fun _ => true) true fuel t cs = some r →
    ∃ x : e.ty, cellsOf (fun b => b < w.heap.size) w e x cs ∧ e.fits x := by
  intro n
  induction n with
  | zero => intro fuel t e cs r he; simp [elTy] at he
  | succ n ih =>
    intro fuel t e cs r he h
    have hsz : P.cellsOf t = e.sz := elTy_size hty he
    unfold elTy at he
    split at he
    · cases he
    · next y hy =>
      have hT := hty t y (lookTy_out hy)
      have und := hT.und
      rw [Bool.and_eq_true] at he
      obtain ⟨hsz0, he⟩ := he
      clear hsz0
      revert he
      generalize hyk : y.k = yk
      rw [hyk] at und
      intro he
      split at he
      · next k k' =>
        obtain rfl := eq_of_beq he
        obtain ⟨m, rfl, _, hw⟩ := DataW.trod_int und h
        exact ⟨m, rfl, wf_int hw⟩
      · next k =>
        obtain rfl := eq_of_beq he
        obtain ⟨m, rfl, _, hw⟩ := DataW.trod_int und h
        have hb := wf_int hw
        have e1 : IntKind.u8.min = 0 := by decide
        have e2 : IntKind.u8.max = 255 := by decide
        refine ⟨UInt8.ofNat m.toNat, ?_, trivial⟩
        show [Value.int .u8 m] = [.int .u8 ((UInt8.ofNat m.toNat).toNat : Int)]
        rw [UInt8.toNat_ofNat_of_lt' (by show m.toNat < 256; omega), Int.toNat_of_nonneg (by omega)]
      · obtain ⟨b, rfl, _⟩ := DataW.trod_bool und h
        exact ⟨b, rfl, trivial⟩
      · obtain ⟨s, rfl, _, hs⟩ := DataW.trod_string und h
        exact ⟨s.data.toList, rfl, by show s.data.toList.length ≤ maxLen; simpa using hs⟩
      · next et e' =>
        simp only [Bool.and_eq_true] at he
        obtain ⟨he0, he⟩ := he
        have he0 : 0 < e'.sz := by simpa [Nat.blt_eq] using he0
        have hsz' := elTy_size hty he
        rcases DataW.trod_slice und h with ⟨rfl, _⟩ | ⟨a, len, cap, elems, rest, m, _, rfl, _, _, hl, hm, hlen, hel, _, _⟩
        · exact ⟨[], ⟨none, 0, rfl, Nat.le_refl _, Nat.zero_le _, fun hp => absurd hp (by simp)⟩, by simp [El.fits]⟩
        · obtain ⟨xs, css, h1, h2, h3, h4, h5⟩ := rows_of (w := w) (a := a) (sz := e'.sz) (R := cellsOf (fun b => b < w.heap.size) w e') (F := e'.fits) len fun i hi => by
            have := hel i hi
            rw [List.getElem?_eq_getElem (by omega), Option.bind_eq_some_iff, hsz'] at this
            obtain ⟨c, hc, ht⟩ := this
            obtain ⟨x, k1, k2⟩ := ih m et e' c _ he ht
            exact ⟨x, c, hc, k1, k2⟩
          refine ⟨xs, ⟨some a, cap, by rw [h1], by omega, hm, fun hp => ?_⟩, by omega, h5⟩
          have hc0 : 0 < css.length := by rw [h2]; exact Nat.mul_pos (by omega) he0
          have hv := h4 0 css[0] (List.getElem?_eq_getElem hc0)
          have ha0 : a.add 0 = a := by simp [Addr.add]
          rw [ha0] at hv
          obtain ⟨b, o, sp⟩ := a
          have hsp : sp = none := World.cell?_spot hv
          subst hsp
          refine ⟨b, o, css, rfl, ?_, ?_, fun j v hj => ?_, h3⟩
          · exact World.block_lt_of_cell? w _ hv
          · exact World.block_lt_of_cell? w _ hv
          · have := h4 j v hj
            rwa [show (⟨b, o, none⟩ : Addr).add j = ⟨b, o + j, none⟩ by unfold Addr.add; split <;> simp_all] at this
      · next fs =>
        obtain ⟨fields, hu, hfs, _⟩ := und
        obtain ⟨xs, m, _, _, hcl, hxl, hf⟩ := DataW.trod_struct hu h
        have walk : ∀ (fs' : List (TypeId × Nat)) (i d' : Nat) (e' : El), (fields.toList.drop i).map (fun f => (f.type, f.offset)) = fs' → elTys (elTy l n) fs' d' e' = true → d' + e'.sz = cs.length →
            ∃ x : e'.ty, cellsOf (fun b => b < w.heap.size) w e' x (cs.drop d') ∧ e'.fits x := by
          intro fs'
          induction fs' with
          | nil =>
            intro i d' e' _ h2 h3
            cases e' <;> simp [elTys] at h2
            exact ⟨(), by simp only [El.sz] at h3; simp [cellsOf]; omega, trivial⟩
          | cons p fs' ih2 =>
            intro i d' e' h1 h2 h3
            obtain ⟨t', d⟩ := p
            cases e' <;> simp [elTys] at h2
            next e1 es =>
              obtain ⟨⟨hd, ht⟩, hr⟩ := h2
              subst hd
              cases hfi : fields.toList.drop i with
              | nil => rw [hfi] at h1; simp at h1
              | cons f rest =>
                rw [hfi, List.map_cons] at h1
                injection h1 with h11 h12
                injection h11 with h13 h14
                have hget : fields[i]? = some f := by
                  have : (fields.toList.drop i)[0]? = some f := by rw [hfi]; rfl
                  rw [List.getElem?_drop] at this
                  simpa using this
                have hlt : i < fields.size := (Array.getElem?_eq_some_iff.1 hget).1
                have := hf i f hget
                rw [List.getElem?_eq_getElem (by omega), h13, h14, elTy_size hty ht] at this
                obtain ⟨x1, k1, k2⟩ := ih m t' e1 _ _ ht this
                simp only [El.sz] at h3
                obtain ⟨x2, k3, k4⟩ := ih2 (i + 1) (d + e1.sz) es (by rw [← h12, ← List.drop_drop, hfi]; rfl) hr (by omega)
                exact ⟨(x1, x2), ⟨_, _, by rw [← List.drop_drop]; exact (List.take_append_drop e1.sz (cs.drop d)).symm, k1, k3⟩, k2, k4⟩
        have := walk fs 0 0 e (by simpa using hfs) he (by rw [hcl, hsz]; omega)
        simpa using this
      · next m et m' e' =>
        simp only [Bool.and_eq_true] at he
        obtain ⟨hm, he⟩ := he
        obtain rfl := nat_beq_eq hm
        have hsz' := elTy_size hty he
        obtain ⟨xs, q, _, _, hcl, hxl, hf⟩ := DataW.trod_array und h
        have walk : ∀ k, k ≤ m → ∃ ys : List e'.ty, ys.length = k ∧ listOf (cellsOf (fun b => b < w.heap.size) w e') ys (cs.take (k * e'.sz)) ∧ ∀ y ∈ ys, e'.fits y := by
          intro k
          induction k with
          | zero => intro _; exact ⟨[], rfl, by simp [listOf], fun y hy => by cases hy⟩
          | succ k ihk =>
            intro hk
            obtain ⟨ys, g1, g2, g3⟩ := ihk (by omega)
            have := hf k (by omega)
            rw [List.getElem?_eq_getElem (by omega), hsz'] at this
            obtain ⟨x, k1, k2⟩ := ih q et e' _ _ he this
            refine ⟨ys ++ [x], by simp [g1], ?_, fun y hy => ?_⟩
            · rw [Nat.add_mul, Nat.one_mul, List.take_add]
              exact listOf_append g2 ⟨_, [], by simp, k1, rfl⟩
            · rcases List.mem_append.1 hy with hy | hy
              · exact g3 y hy
              · simp at hy; subst hy; exact k2
        obtain ⟨ys, g1, g2, g3⟩ := walk m (Nat.le_refl _)
        have hlen : cs.length = m * e'.sz := by rw [hcl, hsz]; rfl
        rw [← hlen, List.take_length] at g2
        exact ⟨ys, ⟨g1, g2⟩, g1, g3⟩
      · cases he

/-- An argument, told by its content. -/
theorem arg_el {n : Nat} {t : TypeId} {e : El} {v : Value} {d : DataW H} {p : List MemPlace} (h1 : tysB P l = true) (he : elTy l n t e = true) (hv : Value.okWide P w .any 0 t v) (h : DataW.Trod enc P w 0 (fun _ => true) true t v d p) :
    ∃ x : e.ty, tVal (cxOf w) (e.enc x) v ∧ e.fits x := by
  have hty := tysB_out h1
  obtain ⟨fuel, hf⟩ := h
  obtain ⟨x, hc, hx⟩ := trod_el hty n fuel t e _ _ he hf
  refine ⟨x, ?_, hx⟩
  have hcells : tCells (cxOf w) (e.enc x) v.cells.toList := (tCells_enc (G := cxOf w) e x _).2 hc
  have one : ∀ y : V, (∃ u : Value, v = u ∧ u.cells = #[u]) → e.enc x = .v y → tVal (cxOf w) (e.enc x) v := by
    rintro y ⟨u, rfl, hu⟩ hy
    rw [hy] at hcells ⊢
    obtain ⟨c, e1, _, e3⟩ := hcells
    rw [hu] at e1
    simp at e1
    subst e1
    exact e3
  cases n with
  | zero => simp [elTy] at he
  | succ n =>
    unfold elTy at he
    split at he
    · cases he
    · next y hy =>
      have und := (hty t y (lookTy_out hy)).und
      rw [Bool.and_eq_true] at he
      obtain ⟨hsz0, he⟩ := he
      clear hsz0
      revert he
      generalize hyk : y.k = yk
      rw [hyk] at und
      intro he
      split at he
      · next k k' =>
        obtain ⟨m, rfl⟩ := okWide_int und hv
        exact one _ ⟨_, rfl, rfl⟩ rfl
      · next k =>
        obtain ⟨m, rfl⟩ := okWide_int und hv
        exact one _ ⟨_, rfl, rfl⟩ rfl
      · obtain ⟨m, rfl⟩ := okWide_bool und hv
        exact one _ ⟨_, rfl, rfl⟩ rfl
      · obtain ⟨m, rfl⟩ := okWide_string und hv
        exact one _ ⟨_, rfl, rfl⟩ rfl
      · next et e' =>
        obtain ⟨a, len, cap, rfl⟩ := okWide_slice und hv
        exact one _ ⟨_, rfl, rfl⟩ rfl
      · next fs =>
        obtain ⟨fields, hu, hfs, _⟩ := und
        obtain ⟨cs, rfl, _⟩ := okWide_struct hu hv
        cases e <;> first | exact ⟨cs.toList, by simp, hcells⟩ | (cases fs <;> simp [elTys] at he)
      · next m et m' e' =>
        have : ∃ cs, v = .agg cs := by
          unfold Value.okWide at hv
          rw [und] at hv
          obtain ⟨cs, h, _⟩ := hv
          exact ⟨cs, h⟩
        obtain ⟨cs, rfl⟩ := this
        exact ⟨cs.toList, by simp, hcells⟩
      · cases he
end
end Go.J

set_option linter.unusedSimpArgs false
set_option linter.unusedVariables false
set_option linter.unusedSectionVars false
namespace Go.J
open Go.Proofs

theorem h64 {n : Int} (h : IntKind.i64.min ≤ n ∧ n ≤ IntKind.i64.max) : -9223372036854775808 ≤ n ∧ n ≤ 9223372036854775807 := h
theorem rfit_of {r : recE.ty} (h : El.fits recE r) : RFit r := by
  obtain ⟨k, n, t, ⟨k, seq, tr, inst, id, side, ord, pr, q, sh, st, wh, a, b, tag, _⟩, _⟩ := r
  obtain ⟨g0, g1, g2, ⟨h0, h1, h2, h3, h4, h5, h6, h7, h8, h9, h10, h11, h12, h13, ⟨ht, _⟩, _⟩, _⟩ := h
  exact RFit.in ⟨h64 g0, h64 g1, h64 g2, ht, h64 h0, h64 h1, h64 h2, h64 h3, h64 h4, h64 h5, h64 h6, h64 h7, h64 h8, h64 h9, h64 h10, h64 h11, h64 h12, h64 h13⟩
theorem dfit_of {d : doE.ty} (h : El.fits doE d) : DFit d := by
  obtain ⟨k, t, w, a, b, ⟨q0, q1, q2, q3, q4, q5, q6, _⟩, _⟩ := d
  obtain ⟨g0, g1, g2, g3, g4, ⟨h0, h1, h2, h3, h4, h5, h6, _⟩, _⟩ := h
  exact DFit.in ⟨h64 g0, h64 g1, h64 g2, h64 g3, h64 g4, h64 h0, h64 h1, h64 h2, h64 h3, h64 h4, h64 h5, h64 h6⟩
theorem auditApart_pre {a b : recE.ty} {d : doE.ty} {raw : Bool} {n : Int} {c : UInt8} (h1 : El.fits recE a) (h2 : El.fits recE b) (h3 : El.fits doE d) (_ : El.fits .bool raw) (h4 : IntKind.i64.min ≤ n ∧ n ≤ IntKind.i64.max) (_ : El.fits .u8 c) : auditApart_s.pre (a, b, d, raw, n, c, ()) := ⟨rfit_of h1, rfit_of h2, dfit_of h3, h64 h4⟩
theorem auditBack_pre {l : List doE.ty} {n : Int} (h1 : El.fits (.rd doE) l) (h2 : IntKind.i64.min ≤ n ∧ n ≤ IntKind.i64.max) : auditBack_s.pre (l, n, ()) := ⟨fun d hd => dfit_of (h1.2 d hd), h64 h2⟩
theorem auditLinks_pre {l : List doE.ty} {r : recE.ty} (h1 : El.fits (.rd doE) l) (h2 : El.fits recE r) : auditLinks_s.pre (l, r, ()) := ⟨fun d hd => dfit_of (h1.2 d hd), rfit_of h2⟩
end Go.J

set_option linter.unusedSimpArgs false
set_option linter.unusedVariables false
set_option linter.unusedSectionVars false
namespace Go.J
open Go.Proofs

theorem auditTurned_pre {l : List doE.ty} {n : Int} {t : UInt8} (h1 : El.fits (.rd doE) l) (h2 : IntKind.i64.min ≤ n ∧ n ≤ IntKind.i64.max) (_ : El.fits .u8 t) : auditTurned_s.pre (l, n, t, ()) := ⟨fun d hd => dfit_of (h1.2 d hd), h64 h2⟩
end Go.J

