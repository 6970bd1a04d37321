/-
  JOBBER: the engine and the functions of this claim, part 6.
-/
import Derived.Test.YtfeaoffmpphkdaaGreatK5
import Derived.KernelRfl
import Derived.Tactics
import Derived.Tactics2
import Derived.Defers
import Derived.Laws.Pointers
import Derived.Laws.LoneSync
import Derived.RegionTactic
import Derived.RegionCalls
import Derived.ChangeAlike
import Derived.WalkKit
import Derived.Lib.Walk
import Derived.Lib.SliceRun
import Derived.Lib.AppendZerosOnto
set_option linter.unusedSimpArgs false
set_option linter.unusedVariables false
set_option linter.unusedSectionVars false
namespace Go.J
open Go.Proofs

theorem oDisable (w : World) : (callFunc 98 #[]).run Tryz.prog w = .ok (.value (.tuple #[])) w := run_call_mark0 Tryz.func98 (by kernel_rfl) (by kernel_rfl) (by kernel_rfl) .disable (by kernel_rfl) w
theorem oEnable (w : World) : (callFunc 100 #[]).run Tryz.prog w = .ok (.value (.tuple #[])) w := run_call_mark0 Tryz.func100 (by kernel_rfl) (by kernel_rfl) (by kernel_rfl) .enable (by kernel_rfl) w
theorem oAcquire (a : Addr) (w : World) : (callFunc 101 #[.pointer (some a)]).run Tryz.prog w = .ok (.value (.tuple #[])) w := run_call_marked Tryz.func101 (by kernel_rfl) (by kernel_rfl) (by kernel_rfl) .acquire (by kernel_rfl) a w
theorem oReleaseMerge (a : Addr) (w : World) : (callFunc 103 #[.pointer (some a)]).run Tryz.prog w = .ok (.value (.tuple #[])) w := run_call_marked Tryz.func103 (by kernel_rfl) (by kernel_rfl) (by kernel_rfl) .releaseMerge (by kernel_rfl) a w

set_option maxRecDepth 100000 in
set_option maxHeartbeats 1600000 in
theorem oStore (a : Addr) (x : Value) (u : FrameMode) (w : World) (hc : w.cell? a = some x) (hz : w.frozen? a = false) :
    CallsD Tryz.prog 93 #[.pointer (some a), .bool true] u w fun e u' w' => u' = u ∧ (e = .returned (.tuple #[]) ∧ w' = w.drew.setCell a (.int .u32 1)) := by
  have hc' : w.drew.cell? a = some x := by go_simp
  have hz' : w.drew.frozen? a = false := by go_simp
  have hst := run_call_store (P := Tryz.prog) Tryz.func96 (by kernel_rfl) (by kernel_rfl) (by kernel_rfl) (by kernel_rfl) (k := .u32) (y := 1) hc' hz'
  go_enter_d Tryz.func93, Tryz.ntmps93
  go_wp2
  go_region_calls
  all_goals (go_end0; exact ⟨rfl, rfl⟩)

set_option maxRecDepth 100000 in
set_option maxHeartbeats 1600000 in
theorem oUnlock (a : Addr) (u : FrameMode) (w : World) (hc : w.cell? a = some (.int .i32 1)) (hz : w.frozen? a = false) :
    CallsD Tryz.prog 92 #[.pointer (some a)] u w fun e u' w' => u' = u ∧ (e = .returned (.tuple #[]) ∧ w' = w.setCell a (.int .i32 0)) := by
  have hd := oDisable
  have he := oEnable
  have hr := oReleaseMerge
  have hadd := run_call_add (P := Tryz.prog) Tryz.func104 (by kernel_rfl) (by kernel_rfl) (by kernel_rfl) .i32 (by kernel_rfl) (y := -1) (s := 0) hc hz (by simp [go_sem]; rfl)
  have hcv := run_convert_to_unsafe (P := Tryz.prog) (src := 141) (dst := 145) Tryz.underlying141 Tryz.underlying145 (by kernel_rfl) hc
  go_enter_d Tryz.func92, Tryz.ntmps92
  go_wp2
  go_end0
  go_wp2
  go_end0
  exact ⟨rfl, rfl⟩

set_option maxRecDepth 100000 in
set_option maxHeartbeats 1600000 in
theorem oLock (a : Addr) (w : World) (hc : w.cell? a = some (.int .i32 0)) (hz : w.frozen? a = false) :
    Calls Tryz.prog 91 #[.pointer (some a)] w fun e w' => e = .returned (.tuple #[]) ∧ w' = w.setCell a (.int .i32 1) := by
  have hd := oDisable
  have he := oEnable
  have ha := oAcquire
  have hcas := run_call_cas_hit (P := Tryz.prog) Tryz.func99 (by kernel_rfl) (by kernel_rfl) (by kernel_rfl) .i32 (by kernel_rfl) (y := 1) hc hz
  have hc' : (w.setCell a (.int .i32 1)).cell? a = some (.int .i32 1) := World.cell?_setCell_same w a _ hc
  have hcv := run_convert_to_unsafe (P := Tryz.prog) (src := 141) (dst := 145) Tryz.underlying141 Tryz.underlying145 (by kernel_rfl) hc'
  go_enter Tryz.func91, Tryz.ntmps91
  go_wp2
  first | go_end0 | (simp only [Exit.inBlock, Exit.then]; refine bodyPost_ret (results_none rfl _ _ _) rfl ?_) | refine bodyPost_ret (results_none rfl _ _ _) rfl ?_
  go_wp2
  go_end0
  exact ⟨rfl, rfl⟩
end Go.J

set_option linter.unusedSimpArgs false
set_option linter.unusedVariables false
set_option linter.unusedSectionVars false
namespace Go.J
open Go.Proofs

def onceDone (p : List Stp) : List Stp := appPath (appPath p (.f 1 0)) (.f 1 0)
def onceState (p : List Stp) : List Stp := appPath (appPath (appPath p (.f 2 1)) (.f 1 0)) (.f 0 0)
theorem poff_appPath : ∀ (p : List Stp) (s : Stp), poff (appPath p s) = poff p + poff [s]
  | [], s => by simp [appPath, poff]
  | .f i o :: p, s => by simp only [appPath, poff]; rw [poff_appPath p s]; omega
  | .x i sz :: p, s => by simp only [appPath, poff]; rw [poff_appPath p s]; omega
theorem done_off (p : List Stp) : poff (onceDone p) = poff p := by unfold onceDone; rw [poff_appPath, poff_appPath]; rfl
theorem state_off (p : List Stp) : poff (onceState p) = poff p + 1 := by unfold onceState; rw [poff_appPath, poff_appPath, poff_appPath]; rfl
/-- (*sync.Once).doSlow: not yet done, the lock free, a function that captures one variable. -/
noncomputable def gSlow (F : Nat) (g : List T → Hp → Nat → (T → Hp → Nat → Prop) → Prop) (args : List T) (hp : Hp) (nx : Nat) (k : T → Hp → Nat → Prop) : Prop :=
  match args with
  | [.v (.ptr r p), .v (.fn f [q])] => match Nat.beq f F with
    | true => lookK hp r fun
      | .own t => tgetK (onceDone p) t fun
        | .v (.int .u32 d) => d = 0 ∧ tgetK (onceState p) t fun
          | .v (.int .i32 s) => s = 0 ∧ tsetK (onceState p) t (.v (.int .i32 1)) hp fun t1 => updK hp r (.own t1) fun hp1 => g [.v (.ptr q [])] hp1 nx fun _ hp2 nx2 => lookK hp2 r fun
            | .own t2 => tgetK (onceDone p) t2 fun
              | .v (.int .u32 _) => tsetK (onceDone p) t2 (.v (.int .u32 1)) hp2 fun t3 => updK hp2 r (.own t3) fun hp3 => lookK hp3 r fun
                | .own t5 => tgetK (onceState p) t5 fun
                  | .v (.int .i32 s') => s' = 1 ∧ tsetK (onceState p) t5 (.v (.int .i32 0)) hp3 fun t4 => updK hp3 r (.own t4) fun hp4 => k (.tup .nil) hp4 nx2
                  | _ => False
                | _ => False
              | _ => False
            | _ => False
          | _ => False
        | _ => False
      | _ => False
    | false => False
  | _ => False

set_option maxRecDepth 100000 in
set_option maxHeartbeats 3200000 in
theorem slow_ok {g : List T → Hp → Nat → (T → Hp → Nat → Prop) → Prop} (hF : CallOk Tryz.prog 83 g) : CallOk Tryz.prog 88 (gSlow 83 g) := by
  intro w0 F0 G hp nx args vs k hm hv h
  unfold gSlow at h
  split at h
  · next r p f q =>
    split at h
    · next hb0 =>
      obtain rfl := nat_beq_eq hb0
      obtain ⟨c, hc, h1⟩ := lookK_out h
      clear h hb0
      split at h1
      · next t =>
        match vs, hv with
        | [], hv => have := hv.1; simp at this
        | [_], hv => have := hv.1; simp at this
        | v1 :: v2 :: vs, hv =>
        obtain ⟨⟨b, hr, hbn, hv1⟩, hv'⟩ := frOk_cons.1 hv
        obtain ⟨⟨ps, hv2, hps⟩, hv''⟩ := frOk_cons.1 hv'
        have hvs : vs = [] := by have := hv''.1; simp at this; exact List.eq_nil_of_length_eq_zero this.symm
        subst hv1 hv2 hvs
        clear hv hv' hv''
        obtain ⟨x, h2, hx⟩ := ptr_at hm hc hr hbn h1
        clear h1
        split at h2
        · next d =>
          obtain ⟨rfl, h3⟩ := h2
          obtain ⟨u, hu, hvu⟩ := hx _ rfl
          obtain rfl : u = .int .u32 0 := hvu
          obtain ⟨x2, h4, hx2⟩ := ptr_at hm hc hr hbn h3
          split at h4
          · next s =>
            obtain ⟨rfl, h5⟩ := h4
            obtain ⟨u2, hu2, hvu2⟩ := hx2 _ rfl
            obtain rfl : u2 = .int .i32 0 := hvu2
            obtain ⟨hp1, h6, he1, hm1, hz1⟩ := ptr_set hm hc hr hbn (y := .int .i32 1) (u := .int .i32 1) rfl rfl h5
            rw [done_off] at hu
            rw [state_off] at hu2 hz1 he1 hm1
            obtain ⟨p1, ps', rfl, hq, rfl⟩ := hps
            have hcl := hF w0 F0 _ hp1 nx [.v (.ptr q [])] [p1] _ hm1 (frOk_cons.2 ⟨he1.vOk (x := .ptr q []) hq, ⟨rfl, fun i t h => by simp at h⟩⟩) h6
            have hl := run_call_load (P := Tryz.prog) Tryz.func90 (by kernel_rfl) (by kernel_rfl) (by kernel_rfl) .u32 (by kernel_rfl) (w := G.w.setCell ⟨b.blk, poff p + 1, none⟩ (.int .i32 1)) (a := ⟨b.blk, poff p, none⟩) (x := 0) ((World.cell?_setCell_other _ ⟨b.blk, poff p + 1, none⟩ ⟨b.blk, poff p, none⟩ _ (by simp)).trans hu)
            have hnot : ∀ (x : Bool) (w : World), (Op.unary .not (.bool x)).run Tryz.prog w = .ok (.bool (!x)) w := fun _ _ => rfl
            clear h5 h6 hx hx2 h3 hF
            go_enter_defers Tryz.func88, Tryz.ntmps88
            go_wp2_with (first | (go_at_call 87; go_in) | (go_at_call 91; refine (oLock ⟨b.blk, poff p + 1, none⟩ _ hu2 hz1).mono ?_; rintro e w' ⟨rfl, rfl⟩) | (go_at_call 83; refine hcl.mono ?_; rintro e w' ⟨G2, x5, v5, hp2, nx2, rfl, rfl, he2, hm2, hv5, h7⟩))
            have hr2 : G2.rho r = some b := he2.rho r b hr
            obtain ⟨c2, hc2, h8⟩ := lookK_out h7
            clear h7
            split at h8
            · next t2 =>
              obtain ⟨x6, h9, hx6⟩ := ptr_at hm2 hc2 hr2 hbn h8
              split at h9
              · next n =>
                obtain ⟨u3, hu3, hvu3⟩ := hx6 _ rfl
                obtain rfl : u3 = .int .u32 n := hvu3
                obtain ⟨hed, hmd⟩ := hm2.drew
                obtain ⟨hp3, h10, he3, hm3, hz3⟩ := ptr_set hmd hc2 hr2 hbn (y := .int .u32 1) (u := .int .u32 1) rfl rfl h9
                rw [done_off] at hu3 hz3 he3 hm3
                obtain ⟨c4, hc4, h11⟩ := lookK_out h10
                split at h11
                · next t5 =>
                  obtain ⟨x7, h12, hx7⟩ := ptr_at hm3 hc4 hr2 hbn h11
                  split at h12
                  · next s' =>
                    obtain ⟨rfl, h13⟩ := h12
                    obtain ⟨u4, hu4, hvu4⟩ := hx7 _ rfl
                    obtain rfl : u4 = .int .i32 1 := hvu4
                    obtain ⟨hp4, h14, he4, hm4, hz4⟩ := ptr_set hm3 hc4 hr2 hbn (y := .int .i32 0) (u := .int .i32 0) rfl rfl h13
                    rw [state_off] at hu4 hz4 he4 hm4
                    have hz3' : G2.w.frozen? ⟨b.blk, poff p, none⟩ = false := hz3
                    clear h8 h9 h10 h11 h13 hx6 hx7
                    refine leaves_cons (f := 93) (args := #[.pointer (some ⟨b.blk, poff p, none⟩), .bool true]) (by simp) (by simp [go_sem]) ?_
                    refine (oStore ⟨b.blk, poff p, none⟩ (.int .u32 n) .returning _ hu3 hz3').mono ?_
                    rintro e u' w'' ⟨rfl, rfl, rfl⟩
                    refine leaves_cons (f := 92) (args := #[.pointer (some ⟨b.blk, poff p + 1, none⟩)]) (by simp [settle]) (by simp [go_sem]) ?_
                    refine (oUnlock ⟨b.blk, poff p + 1, none⟩ _ _ hu4 hz4).mono ?_
                    rintro e u' w'' ⟨rfl, rfl, rfl⟩
                    simp [Leaves, settle, results, Tryz.results88]
                    exact ⟨_, rfl, he1.trans (he2.trans (hed.trans (he3.trans he4))), .tup .nil, hp4, nx2, hm4, ⟨[], rfl, rfl⟩, h14⟩
                  · exact h12.elim
                · exact h11.elim
              · exact h9.elim
            · exact h8.elim
          · exact h4.elim
        · exact h2.elim
      · exact h1.elim
    · exact h.elim
  · exact h.elim
theorem slow_may {g : List T → Hp → Nat → (T → Hp → Nat → Prop) → Prop} (hF : May Tryz.prog (83, g)) : May Tryz.prog (88, gSlow 83 g) :=
  ⟨⟨Tryz.f88, Tryz.func88, by kernel_rfl, by kernel_rfl⟩, slow_ok hF.2⟩
end Go.J

set_option linter.unusedSimpArgs false
set_option linter.unusedVariables false
set_option linter.unusedSectionVars false
namespace Go.J
open Go.Proofs

/-- (*sync.Once).Do of a function that captures one variable. -/
noncomputable def gDo (F : Nat) (g : List T → Hp → Nat → (T → Hp → Nat → Prop) → Prop) (args : List T) (hp : Hp) (nx : Nat) (k : T → Hp → Nat → Prop) : Prop :=
  match args with
  | [.v (.ptr r p), .v (.fn f cs)] => lookK hp r fun
    | .own t => tgetK (onceDone p) t fun
      | .v (.int .u32 d) => (d = 0 → gSlow F g [.v (.ptr r p), .v (.fn f cs)] hp nx k) ∧ (d ≠ 0 → k (.tup .nil) hp nx)
      | _ => False
    | _ => False
  | _ => False

theorem gSlow_k {F : Nat} {g : List T → Hp → Nat → (T → Hp → Nat → Prop) → Prop} {args : List T} {hp : Hp} {nx : Nat} {k : T → Hp → Nat → Prop} (h : gSlow F g args hp nx k) : gSlow F g args hp nx (fun _ hp nx => k (.tup .nil) hp nx) := by
  unfold gSlow at h ⊢
  exact h
set_option maxRecDepth 100000 in
set_option maxHeartbeats 3200000 in
theorem do_ok {g : List T → Hp → Nat → (T → Hp → Nat → Prop) → Prop} (hF : CallOk Tryz.prog 83 g) : CallOk Tryz.prog 82 (gDo 83 g) := by
  intro w0 F0 G hp nx args vs k hm hv h
  unfold gDo at h
  split at h
  · next r p f cs =>
    obtain ⟨c, hc, h1⟩ := lookK_out h
    clear h
    split at h1
    · next t =>
      match vs, hv with
      | [], hv => have := hv.1; simp at this
      | [_], hv => have := hv.1; simp at this
      | v1 :: v2 :: vs, hv =>
      have hv0 := hv
      obtain ⟨⟨b, hr, hbn, hv1⟩, hv'⟩ := frOk_cons.1 hv
      obtain ⟨hv2, hv''⟩ := frOk_cons.1 hv'
      have hvs : vs = [] := by have := hv''.1; simp at this; exact List.eq_nil_of_length_eq_zero this.symm
      subst hv1 hvs
      obtain ⟨x, h2, hx⟩ := ptr_at hm hc hr hbn h1
      clear h1
      split at h2
      · next d =>
        obtain ⟨h3, h4⟩ := h2
        obtain ⟨u, hu, hvu⟩ := hx _ rfl
        obtain rfl : u = .int .u32 d := hvu
        rw [done_off] at hu
        have hl := run_call_load (P := Tryz.prog) Tryz.func90 (by kernel_rfl) (by kernel_rfl) (by kernel_rfl) .u32 (by kernel_rfl) hu
        have hnot : ∀ (x : Bool) (w : World), (Op.unary .not (.bool x)).run Tryz.prog w = .ok (.bool (!x)) w := fun _ _ => rfl
        by_cases hd : d = 0
        · subst hd
          have hsl := slow_ok hF w0 F0 G hp nx _ _ _ hm hv0 (gSlow_k (h3 rfl))
          clear h3 h4 hx hv hv' hv'' hF hv0
          go_enter Tryz.func82, Tryz.ntmps82
          go_wp2_with (first | (go_at_call 87; go_in) | (go_at_call 88; refine hsl.mono ?_; rintro e w' ⟨G2, x5, v5, hp2, nx2, rfl, rfl, he2, hm2, hv5, h7⟩))
          go_end0
          exact ⟨G2, .tup .nil, _, hp2, nx2, rfl, rfl, he2, hm2, ⟨[], rfl, rfl⟩, h7⟩
        · have hk := h4 hd
          have hd' : (d != 0) = true := by simp [hd]
          clear h3 h4 hx hv hv' hv'' hF hv0
          go_enter Tryz.func82, Tryz.ntmps82
          go_wp2
          go_end0
          exact ⟨G, .tup .nil, _, hp, nx, rfl, rfl, Ext.refl G, hm, ⟨[], rfl, rfl⟩, hk⟩
      · exact h2.elim
    · exact h1.elim
  · exact h.elim
theorem do_may {g : List T → Hp → Nat → (T → Hp → Nat → Prop) → Prop} (hF : May Tryz.prog (83, g)) : May Tryz.prog (82, gDo 83 g) :=
  ⟨⟨Tryz.f82, Tryz.func82, by kernel_rfl, by kernel_rfl⟩, do_ok hF.2⟩
end Go.J

set_option linter.unusedSimpArgs false
set_option linter.unusedVariables false
set_option linter.unusedSectionVars false
namespace Go.J
open Go.Proofs

@[reducible] noncomputable def ready1_c := inl ⟨tys, [(84, words_s.call)]⟩ ⟨[(0, (.take 0 false (.last 1 false [0] (tks 2 2 (.last 4 false [] .done)))))], [], []⟩ Tryz.f83 Tryz.f83.body.get!
theorem ready1_m : May Tryz.prog (83, ready1_c) :=
  may_inl tysOk mixOk ⟨.inl words_m, trivial⟩ (by kernel_rfl) (by kernel_rfl) (by kernel_rfl) (by kernel_rfl)
@[reducible] noncomputable def odo_c := gDo 83 ready1_c
theorem odo_m : May Tryz.prog (82, odo_c) := do_may ready1_m
@[reducible] noncomputable def ready_c := inl ⟨tys, [(82, odo_c)]⟩ ⟨[], [], []⟩ Tryz.f80 Tryz.f80.body.get!
theorem ready_m : May Tryz.prog (80, ready_c) :=
  may_inl tysOk mixOk ⟨.inl odo_m, trivial⟩ (by kernel_rfl) (by kernel_rfl) (by kernel_rfl) (by kernel_rfl)
@[reducible] noncomputable def shaNew_c := inl ⟨tys, [(79, first_s.call)]⟩ ⟨[], [], []⟩ Tryz.f74 Tryz.f74.body.get!
theorem shaNew_m : May Tryz.prog (74, shaNew_c) :=
  may_inl tysOk mixOk ⟨.inl first_m, trivial⟩ (by kernel_rfl) (by kernel_rfl) (by kernel_rfl) (by kernel_rfl)
@[reducible] def onceE : El := .cons .nil (.cons (.cons .nil (.cons u32E .nil)) (.cons (.cons .nil (.cons (.cons (.int .i32) (.cons u32E .nil)) .nil)) .nil))
def onceT (done : Int) : onceE.ty := ((), ((), done, ()), ((), (0, 0, ()), ()), ())
/-- A hash: its bytes are not written. -/
@[reducible] def hashSh : Sh := .cons (.el onceE) (.cons (.el a64) (.cons (.el a8) (.cons (.el (.rd .u8)) (.cons (.el iE) .nil))))
/-- A hash whose bytes are its own. -/
@[reducible] def hashO (q : Nat) : Sh := .cons (.el onceE) (.cons (.el a64) (.cons (.el a8) (.cons (.own q) (.cons (.el iE) .nil))))
/-- Blocks are mixed into a state, as long as there are. -/
def absorb (s : List Int) (xs : List UInt8) : List Int × List UInt8 :=
  if 64 ≤ xs.length then absorb (mixW s kW (xs.take 64)) (xs.drop 64) else (s, xs)
termination_by xs.length
decreasing_by rw [List.length_drop]; omega
theorem absorb_step {s : List Int} {xs : List UInt8} (h : 64 ≤ xs.length) : absorb s xs = absorb (mixW s kW (xs.take 64)) (xs.drop 64) := by
  rw [absorb, if_pos h]
theorem absorb_done {s : List Int} {xs : List UInt8} (h : xs.length < 64) : absorb s xs = (s, xs) := by
  rw [absorb, if_neg (by omega)]

@[reducible] def hwrite_s : Spec where
  n := 2
  cs := [(0, .own (hashO 1)), (1, .row 5 .u8)]
  ar := [.ref 0, .lend .u8]
  pre := fun ((_, (_, done, _), (_, (st, _, _), _), _), k, s, n, ys, xs, _) => (done = 0 ∧ st = 0 ∧ k.length = 64 ∨ done = 1 ∧ k = kW) ∧ s.length = 8 ∧ ys.length ≤ 1000000000 ∧ xs.length ≤ 1000000000 ∧ 0 ≤ n ∧ n ≤ 1000000000000
  n' := 3
  cs' := [(0, .own (hashO 2)), (2, .row 5 .u8)]
  rs := []
  post := .fn fun ((_, (_, done, _), (_, (st, sema, _), _), _), k, s, n, ys, xs, _) => (((), ((), 1, ()), ((), (st, sema, ()), ()), ()), kW, (absorb s (ys ++ xs)).1, n + xs.length, (absorb s (ys ++ xs)).2, ())
@[reducible] def hwrite_a : Ann where
  nx := 2
  cs := [(0, .own hashSh)]
  ss := [(0, .ref 0)]
  inv := fun (o0, k0, s0, xs0, n0, _) (o, k, s, xs, n, _) => o = o0 ∧ k = k0 ∧ n = n0 ∧ s.length = 8 ∧ absorb s xs = absorb s0 xs0 ∧ xs.length ≤ xs0.length
  mu := fun (_, _, _, xs, _, _) => xs.length
theorem cut64 (xs : List UInt8) : List.take ((64 : Int) - 0).toNat (List.drop (Int.toNat 0) xs) = xs.take 64 := rfl
theorem rest64 (xs : List UInt8) : List.take ((xs.length : Int) - 64).toNat (List.drop (Int.toNat 64) xs) = xs.drop 64 := by
  rw [show Int.toNat 64 = 64 from rfl, List.take_of_length_le]
  rw [List.length_drop]
  omega
@[reducible] def hwrite_h : Hints := ⟨[(4, (tks 0 13 (.last 13 false [] (tks 14 2 (.last 16 false [] .done)))))], [(3, hwrite_a)], []⟩
@[reducible] noncomputable def hwrite_e : Env := ⟨tys, [(80, ready_c), (81, mixed_s.call)]⟩
set_option maxHeartbeats 1000000 in
set_option maxRecDepth 100000 in
theorem hwrite_d : denF hwrite_e hwrite_s hwrite_h Tryz.f75 := by
  intro done st sema k s n ys xs
  intro hpre
  dsimp only [hwrite_s] at hpre
  obtain ⟨hd, hs, hy, hx, hn0, hn1⟩ := hpre
  rcases hd with ⟨rfl, rfl, hk⟩ | ⟨rfl, rfl⟩
  all_goals repeat' (first | (conv => whnf); first | done | exact True.intro | refine And.intro ?_ ?_ | refine Is.mk ?_ | (intro h; cases h; done) | (intro _))
  all_goals try dsimp only [maxLen, El.ty, El.dflt, hwrite_a, hwrite_s] at *
  all_goals repeat (with_reducible cases ‹_ ∧ _›)
  all_goals try subst_vars
  all_goals try simp only [cut64, rest64, IntKind.wrap_i64, decide_eq_true_eq, decide_eq_false_iff_not, List.length_append, List.length_drop, List.length_take] at *
  all_goals try first
    | omega
    | (with_reducible rfl)
    | (rw [mixW_len (by assumption)]; done)
    | (rw [← absorb_step (by omega)]; assumption)
  all_goals first
    | exact (rfl : kW.length = 64)
    | (rename absorb _ _ = _ => h; rw [← h, absorb_done (by omega)])
set_option maxRecDepth 100000 in
theorem hwrite_p : (FnIs Tryz.prog 75 ∧ FnOk Tryz.prog 75 hwrite_s) ∧ (idsOk hwrite_s.cs && idsOk hwrite_s.cs' && Nat.ble hwrite_s.n hwrite_s.n') = true :=
  fn_of (l := [(80, ready_c), (81, mixed_s.call)]) (hi := hwrite_h) (S := hwrite_s) (fn := Tryz.f75) (c := Tryz.f75.body.get!) tysOk mixOk ⟨.inl ready_m, .inl mixed_m, trivial⟩ (by kernel_rfl) (by kernel_rfl) (by kernel_rfl) (by kernel_rfl) (by kernel_rfl) hwrite_d
theorem hwrite_m : May Tryz.prog (75, hwrite_s.call) := may_call hwrite_p
theorem hwrite_n : May Tryz.prog (75, hwrite_s.callN) := may_callN hwrite_p
end Go.J

set_option linter.unusedSimpArgs false
set_option linter.unusedVariables false
set_option linter.unusedSectionVars false
namespace Go.J
open Go.Proofs

def padW (xs : List UInt8) : List UInt8 := xs ++ List.replicate ((120 - xs.length % 64) % 64) 0
def byteO (x : Int) (n : Nat) : UInt8 := UInt8.ofNat (IntKind.u8.wrap (x.fdiv (2 ^ min n IntKind.u32.bits))).toNat
def outW (s : List Int) (o : List UInt8) (i : Nat) : List UInt8 :=
  (((o.set (4 * i) (byteO (s.getD i 0) 24)).set (4 * i + 1) (byteO (s.getD i 0) 16)).set (4 * i + 2) (byteO (s.getD i 0) 8)).set (4 * i + 3) (UInt8.ofNat (IntKind.u8.wrap (s.getD i 0)).toNat)
def outs (s : List Int) (n : Nat) : List UInt8 := (List.range n).foldl (outW s) (List.replicate 32 0)
theorem outs_succ (s : List Int) (n : Nat) : outs s (n + 1) = outW s (outs s n) n := by
  unfold outs
  rw [List.range_succ, List.foldl_append, List.foldl_cons, List.foldl_nil]
theorem outs_len (s : List Int) : ∀ n, (outs s n).length = 32
  | 0 => by simp [outs]
  | n + 1 => by rw [outs_succ, outW, List.length_set, List.length_set, List.length_set, List.length_set]; exact outs_len s n
/-- The digest of a state, the bytes that are left, how many there were. -/
def sumF (s : List Int) (ys : List UInt8) (n : Int) : List UInt8 := outs (absorb s (padW (ys ++ [128]) ++ be 8 (n % 18446744073709551616 * 8 % 18446744073709551616))).1 8
theorem sumF_len (s : List Int) (ys : List UInt8) (n : Int) : (sumF s ys n).length = 32 := outs_len _ _

theorem tm64 (n : Nat) : (n : Int).tmod 64 = ((n % 64 : Nat) : Int) := by
  rw [Int.tmod_eq_emod_of_nonneg (Int.natCast_nonneg n)]
  omega
theorem padW_step {xs : List UInt8} (h : ¬ xs.length % 64 = 56) : padW (xs ++ [UInt8.ofNat (Int.toNat 0)]) = padW xs := by
  unfold padW
  rw [List.length_append, List.length_singleton, List.append_assoc]
  congr 1
  have e : (120 - xs.length % 64) % 64 = (120 - (xs.length + 1) % 64) % 64 + 1 := by omega
  rw [e, List.replicate_succ]
  rfl
theorem padW_done {xs : List UInt8} (h : xs.length % 64 = 56) : padW xs = xs := by
  unfold padW
  rw [h]
  simp
theorem pow_8 : ∀ i : Fin 8, (2 : Int) ^ min (IntKind.u64.wrap (8 * (i.1 : Int))).toNat IntKind.u64.bits = 256 ^ i.1 := by decide
theorem byte_at {b i : Int} (h0 : 0 ≤ i) (h1 : i ≤ 7) : UInt8.ofNat (IntKind.u8.wrap (b.fdiv (2 ^ min (IntKind.u64.wrap (8 * i)).toNat IntKind.u64.bits))).toNat = UInt8.ofNat (b / 256 ^ i.toNat % 256).toNat := by
  have h := pow_8 ⟨i.toNat, by omega⟩
  simp only [show ((i.toNat : Nat) : Int) = i by omega] at h
  rw [h, IntKind.wrap_u8, Int.fdiv_eq_ediv_of_nonneg _ (Int.le_of_lt (Int.pow_pos (by decide)))]
theorem byte_in (x : Int) : 0 ≤ IntKind.u8.wrap x ∧ IntKind.u8.wrap x < 256 := by rw [IntKind.wrap_u8]; omega
@[reducible] def hsum_s : Spec where
  n := 2
  cs := [(0, .own (hashO 1)), (1, .row 5 .u8)]
  ar := [.ref 0]
  pre := fun ((_, (_, done, _), _, _), k, s, n, ys, _) => done = 1 ∧ k = kW ∧ s.length = 8 ∧ ys.length ≤ 1000000000 ∧ 0 ≤ n ∧ n ≤ 1000000000000
  n' := 2
  cs' := [(0, .own (hashO 1)), (1, .row 5 .u8)]
  rs := [.el (.ar 32 .u8)]
  post := .fn fun (o, k, s, n, ys, _) => (o, k, s, n, ys, sumF s ys n, ())
@[reducible] def hsumA : Ann where
  nx := 4
  cs := [(0, .own (hashO 1)), (1, .row 5 .u8), (2, .own (.el (.ar 32 .u8))), (3, .row 5 .u8)]
  ss := [(0, .ref 0), (2, .ref 2), (3, .own 3)]
  inv := fun (o0, k0, s0, n0, ys0, r0, xs0, _) (o, k, s, n, ys, r, xs, _) => o = o0 ∧ k = k0 ∧ s = s0 ∧ n = n0 ∧ ys = ys0 ∧ padW xs = padW xs0 ∧ xs.length + (120 - xs.length % 64) % 64 = xs0.length + (120 - xs0.length % 64) % 64
  mu := fun (_, _, _, _, _, _, xs, _) => (120 - xs.length % 64) % 64
@[reducible] def hsumB : Ann where
  nx := 4
  cs := [(0, .own (hashO 1)), (1, .row 5 .u8), (2, .own (.el (.ar 32 .u8))), (3, .row 5 .u8)]
  ss := [(0, .ref 0), (2, .ref 2), (3, .own 3), (4, .el (.int .u64)), (5, .el iE)]
  inv := fun (o0, k0, s0, n0, ys0, r0, xs0, b0, i0, _) (o, k, s, n, ys, r, xs, b, i, _) => o = o0 ∧ k = k0 ∧ s = s0 ∧ n = n0 ∧ ys = ys0 ∧ b = b0 ∧ -1 ≤ i ∧ i ≤ i0 ∧ xs ++ be (i + 1).toNat b = xs0 ++ be (i0 + 1).toNat b0
  mu := fun (_, _, _, _, _, _, _, _, i, _) => (i + 1).toNat
@[reducible] def hsumC : Ann where
  nx := 5
  cs := [(0, .own (hashO 1)), (1, .row 5 .u8), (2, .own (.el (.ar 32 .u8))), (4, .own (.el a8))]
  ss := [(0, .ref 0), (2, .ref 2), (3, .el (.rd .u8)), (6, .ref 4)]
  inv := fun (o0, k0, s0, n0, ys0, r0, t0, xs0, _) (o, k, s, n, ys, r, t, xs, _) => o = o0 ∧ k = k0 ∧ s = s0 ∧ n = n0 ∧ ys = ys0 ∧ t.length = 8 ∧ xs.length % 64 = 0 ∧ absorb t xs = absorb t0 xs0
  mu := fun (_, _, _, _, _, _, _, xs, _) => xs.length
@[reducible] def hsumD : Ann where
  nx := 6
  cs := [(0, .own (hashO 1)), (1, .row 5 .u8), (2, .own (.el (.ar 32 .u8))), (5, .own (.el (.ar 32 .u8)))]
  ss := [(2, .ref 2), (7, .ref 5), (62, .el a8), (63, .el iE)]
  inv := fun (o0, k0, s0, n0, ys0, r0, u0, t0, _, _) (o, k, s, n, ys, r, u, t, i, _) => o = o0 ∧ k = k0 ∧ s = s0 ∧ n = n0 ∧ ys = ys0 ∧ t = t0 ∧ 0 ≤ i ∧ i ≤ 8 ∧ u = outs t0 i.toNat
  mu := fun (_, _, _, _, _, _, _, _, i, _) => (8 - i).toNat
@[reducible] def hsum_h : Hints := ⟨[(14, (tks 0 6 (.last 6 false [] (.last 7 false [] .done))))], [(4, hsumA), (8, hsumB), (12, hsumC), (17, hsumD)], []⟩
@[reducible] noncomputable def hsum_e : Env := ⟨tys, [(80, ready_c), (81, mixed_s.call)]⟩
set_option maxHeartbeats 1000000 in
set_option maxRecDepth 100000 in
theorem hsum_d : denF hsum_e hsum_s hsum_h Tryz.f76 := by
  intro done st sema k s n ys
  intro hpre
  dsimp only [hsum_s] at hpre
  obtain ⟨rfl, rfl, hs, hy, hn0, hn1⟩ := hpre
  all_goals repeat' (first | (conv => whnf); first | done | exact True.intro | refine And.intro ?_ ?_ | refine Is.mk ?_ | (intro h; cases h; done) | (intro _))
  all_goals try dsimp only [maxLen, El.ty, El.dflt, hsumA, hsumB, hsumC, hsumD, hsum_s] at *
  all_goals repeat (with_reducible cases ‹_ ∧ _›)
  all_goals try subst_vars
  all_goals try simp only [cut64, rest64, tm64, IntKind.wrap_i64, Bool.not_eq_true', Bool.not_eq_false', decide_eq_true_eq, decide_eq_false_iff_not, List.length_append, List.length_drop, List.length_take, List.length_cons, List.length_nil] at *
  all_goals try first
    | omega
    | (with_reducible rfl)
    | exact (byte_in _).1
    | exact (byte_in _).2
    | exact (rfl : kW.length = 64)
    | (simp only [List.length_set, outs_len]; omega)
    | (rw [mixW_len (by assumption)]; done)
    | (rw [← absorb_step (by omega)]; assumption)
    | (rw [IntKind.wrap_u64]; omega)
    | (rw [padW_step (by omega)]; assumption)
  all_goals try (rename _ ++ be _ _ = _ => h; have hl := congrArg List.length h; simp only [List.length_append, be_length] at hl; omega)
  · rename Int => i
    rename _ ++ be _ _ = _ => h
    rw [show ((i - 1 + 9223372036854775808) % 18446744073709551616 - 9223372036854775808 + 1).toNat = i.toNat by omega, show (8 * i + 9223372036854775808) % 18446744073709551616 - 9223372036854775808 = 8 * i by omega, byte_at (by omega) (by omega), List.append_assoc, ← h, show (i + 1).toNat = i.toNat + 1 by omega]
    rfl
  · rfl
  · rename Int => i
    rw [show ((4 * i + 9223372036854775808) % 18446744073709551616 - 9223372036854775808).toNat = 4 * i.toNat by omega,
      show (((4 * i + 9223372036854775808) % 18446744073709551616 - 9223372036854775808 + 1 + 9223372036854775808) % 18446744073709551616 - 9223372036854775808).toNat = 4 * i.toNat + 1 by omega,
      show (((4 * i + 9223372036854775808) % 18446744073709551616 - 9223372036854775808 + 2 + 9223372036854775808) % 18446744073709551616 - 9223372036854775808).toNat = 4 * i.toNat + 2 by omega,
      show (((4 * i + 9223372036854775808) % 18446744073709551616 - 9223372036854775808 + 3 + 9223372036854775808) % 18446744073709551616 - 9223372036854775808).toNat = 4 * i.toNat + 3 by omega,
      show ((i + 1 + 9223372036854775808) % 18446744073709551616 - 9223372036854775808).toNat = i.toNat + 1 by omega, outs_succ]
    rfl
  · refine Eq.trans (by assumption) (Eq.trans (by assumption) (Eq.trans (by assumption) (by assumption)))
  · rename absorb _ _ = absorb _ _ => ha
    rename _ ++ be _ _ = _ ++ _ => hb
    rename padW _ = padW _ => hp
    rename Int => i
    have hz : ∀ j : Int, ¬ 0 ≤ j → -1 ≤ j → (j + 1).toNat = 0 := by omega
    rw [hz _ (by assumption) (by assumption), show ∀ b, be 0 b = [] from fun _ => rfl, List.append_nil] at hb
    rw [absorb_done (by omega), hb] at ha
    rw [padW_done (by omega)] at hp
    rw [hp, IntKind.wrap_u64, IntKind.wrap_u64] at ha
    have ht := congrArg Prod.fst ha
    dsimp only at ht
    rw [ht, show i.toNat = 8 by omega]
    rfl
set_option maxRecDepth 100000 in
theorem hsum_p : (FnIs Tryz.prog 76 ∧ FnOk Tryz.prog 76 hsum_s) ∧ (idsOk hsum_s.cs && idsOk hsum_s.cs' && Nat.ble hsum_s.n hsum_s.n') = true :=
  fn_of (l := [(80, ready_c), (81, mixed_s.call)]) (hi := hsum_h) (S := hsum_s) (fn := Tryz.f76) (c := Tryz.f76.body.get!) tysOk mixOk ⟨.inl ready_m, .inl mixed_m, trivial⟩ (by kernel_rfl) (by kernel_rfl) (by kernel_rfl) (by kernel_rfl) (by kernel_rfl) hsum_d
theorem hsum_m : May Tryz.prog (76, hsum_s.call) := may_call hsum_p
theorem hsum_n : May Tryz.prog (76, hsum_s.callN) := may_callN hsum_p
end Go.J

set_option linter.unusedSimpArgs false
set_option linter.unusedVariables false
set_option linter.unusedSectionVars false
namespace Go.J
open Go.Proofs Go.RowKit Go.Lib

theorem byte_info : ∃ i : TypeInfo, Tryz.prog.info? 5 = some i ∧ i.size = 1 ∧ i.bytes = 1 ∧ i.zero = some (.int .u8 0) := by
  have h1 : (Tryz.prog.info? 5).map (fun i => (i.size, i.bytes)) = some (1, 1) := by kernel_rfl
  have h2 : (Tryz.prog.info? 5).bind (fun i => i.zero) = some (.int .u8 0) := by kernel_rfl
  obtain ⟨i, hi, h3⟩ := Option.map_eq_some_iff.1 h1
  rw [hi] at h2
  simp only [Prod.mk.injEq] at h3
  exact ⟨i, hi, h3.1, h3.2, h2⟩
set_option maxHeartbeats 4000000 in
set_option maxRecDepth 100000 in
theorem grow_more (n : Nat) (w : World) (h0 : 0 < n) (hn : n ≤ 1000000000000) :
    Calls Tryz.prog 60 #[.slice none 0 0, .int .i64 n] w fun e w' => ∃ cap cells, n ≤ cap ∧ cap ≤ maxLen ∧ cells.size = cap ∧ e = .returned (.slice (some ⟨w.heap.size, 0, none⟩) 0 cap) ∧
      w' = w.drew.alloc (.cells cells 5) := by
  obtain ⟨i0, hi0, hs0, hb0, hz0⟩ := byte_info
  have hold : (Builtin.firstCells i0.size 0 (.slice none 0 0)).run Tryz.prog w.drew = .ok (([] : List Value).toArray) w.drew := run_firstCells_none w.drew i0.size 0 0 0
  have hrz : ∀ ty, (Builtin.append_ #[23, 3] ty #[.slice none 0 0, .int .i64 n]).run Tryz.prog w =
      .ok (.slice (some ⟨w.heap.size, 0, none⟩) n (grownCap w n 0 5)) (w.drew.alloc (.cells (([] : List Value).toArray ++ Builtin.zeroCells (Value.cells (.int .u8 0)) n ++ Builtin.zeroCells (Value.cells (.int .u8 0)) (grownCap w n 0 5 - n)) 5)) := fun ty => by
    have h := Lib.run_append_grow_zeros w 23 3 ty 5 i0 (.int .u8 0) .i64 .i64 Tryz.underlying23 Tryz.underlying3 hi0 hz0 none 0 0 [] hold n h0 (by omega) (by omega) (by omega)
      (by rw [hb0]; omega)
      (by exact growslice_fits (by omega) (by rw [hb0]; omega))
    rw [Nat.zero_add] at h
    exact h
  have hGn : n ≤ grownCap w n 0 5 := grownCap_ge w _ _ _
  have hGm : grownCap w n 0 5 ≤ maxLen := grownCap_le_maxLen w n 0 5 (by unfold maxLen; omega)
  obtain ⟨K, hK⟩ : ∃ K, K = grownCap w n 0 5 := ⟨_, rfl⟩
  rw [← hK] at hrz hGn hGm
  have hG63 : K ≤ 9223372036854775807 := by unfold maxLen at hGm; omega
  have h1 : ¬ ((n : Int) < 0) := by omega
  have h3 : wrap64 ((n : Int) - 0) = (n : Int) := by unfold wrap64; omega
  have h4 : (n : Int) > 0 := by omega
  obtain ⟨cells, hc⟩ : ∃ cells, cells = ([] : List Value).toArray ++ Builtin.zeroCells (Value.cells (.int .u8 0)) n ++ Builtin.zeroCells (Value.cells (.int .u8 0)) (K - n) := ⟨_, rfl⟩
  have hcs : cells.size = K := by
    rw [hc]
    simp [Builtin.zeroCells, Value.cells]
    omega
  rw [← hc] at hrz
  clear hold hc hK
  go_enter Tryz.func60, Tryz.ntmps60
  go_wp2_with (at_builtin; refine Lib.wpList_append_run _ rfl _ _ _ _ rfl _ _ rfl rfl _ _ (hrz _) ?_)
  all_goals (go_ret; first | exact ⟨K, hGn, hGm, cells, hcs, rfl, rfl⟩ | exact ⟨K, cells, hGn, hGm, hcs, rfl, rfl⟩)
set_option maxHeartbeats 4000000 in
set_option maxRecDepth 100000 in
theorem grow_none (w : World) : Calls Tryz.prog 60 #[.slice none 0 0, .int .i64 0] w fun e w' => e = .returned (.slice none 0 0) ∧ w' = w := by
  have h3 : wrap64 ((0 : Int) - 0) = 0 := by unfold wrap64; omega
  go_enter Tryz.func60, Tryz.ntmps60
  go_wp2
  go_ret
  exact ⟨rfl, rfl⟩

/-- slices.Grow of the nil slice: a slice of no bytes. -/
noncomputable def gGrow (args : List T) (hp : Hp) (nx : Nat) (k : T → Hp → Nat → Prop) : Prop :=
  match args with
  | [.v .nils, .v (.int .i64 n)] => (0 ≤ n ∧ n ≤ 1000000000000) ∧ lappK hp [(nx, .row 5 .u8 [])] fun hp => k (.v (.own nx)) hp (nx + 1)
  | _ => False
theorem grow_ok : CallOk Tryz.prog 60 gGrow := by
  intro w0 F0 G hp nx args vs k hm hv h
  unfold gGrow at h
  split at h
  · next n =>
    obtain ⟨⟨h0, h1⟩, h2⟩ := h
    match vs, hv with
    | [], hv => have := hv.1; simp at this
    | [_], hv => have := hv.1; simp at this
    | v1 :: v2 :: vs, hv =>
    obtain ⟨hv1, hv'⟩ := frOk_cons.1 hv
    obtain ⟨hv2, hv''⟩ := frOk_cons.1 hv'
    have hvs : vs = [] := by have := hv''.1; simp at this; exact List.eq_nil_of_length_eq_zero this.symm
    obtain rfl : v1 = .slice none 0 0 := hv1
    obtain rfl : v2 = .int .i64 n := hv2
    subst hvs
    have h2 := lappK_out h2
    obtain ⟨m, rfl⟩ : ∃ m : Nat, n = (m : Int) := ⟨n.toNat, by omega⟩
    by_cases hm0 : m = 0
    · subst hm0
      refine (grow_none G.w).mono ?_
      rintro e w' ⟨rfl, rfl⟩
      obtain ⟨G', x1, x2, x3, x4⟩ := hm.new (w' := G.w) rfl rfl rfl (Nat.le_refl _) (fun _ _ => rfl) (.row 5 .u8 []) ⟨0, true, 0, 0⟩ (by simp)
        (fun G' _ _ _ => ⟨rfl, by simp, [], ⟨by simp, .inl ⟨rfl, rfl⟩⟩, rfl⟩) rfl
      exact ⟨G', .v (.own nx), _, _, _, rfl, x2, x1, x4, ⟨_, x3, rfl⟩, h2⟩
    · refine (grow_more m G.w (by omega) (by omega)).mono ?_
      rintro e w' ⟨cap, cells, hc1, hc2, hc3, rfl, rfl⟩
      obtain ⟨G', x1, x2, x3, x4⟩ := hm.new (w' := G.w.drew.alloc (.cells cells 5)) rfl rfl rfl (by simp) (fun b hb => by show (G.w.heap.push _)[b]? = _; rw [Array.getElem?_push, if_neg (by omega)]) (.row 5 .u8 []) ⟨G.w.heap.size, false, 0, cap⟩ (by simp)
        (fun G' hx hw _ => ⟨rfl, hc2, [], ⟨by simp, .inr ⟨G.w.heap.size, cap, cells, rfl, Nat.zero_le _, by rw [hw]; show (G.w.heap.push _)[G.w.heap.size]? = _; simp, Nat.zero_le _, hc2, by rw [hc3]; exact (Nat.mul_one _).symm, by simp⟩⟩, rfl⟩) rfl
      exact ⟨G', .v (.own nx), _, _, _, rfl, x2, x1, x4, ⟨_, x3, rfl⟩, h2⟩
  · exact h.elim
theorem grow_may : May Tryz.prog (60, gGrow) :=
  ⟨⟨Tryz.f60, Tryz.func60, by kernel_rfl, by kernel_rfl⟩, grow_ok⟩
end Go.J

set_option linter.unusedSimpArgs false
set_option linter.unusedVariables false
set_option linter.unusedSectionVars false
namespace Go.J
open Go.Proofs

def w4 (n : Int) : Bool := decide (0 ≤ n) && decide (n ≤ 1073741824)
def w1 (lo hi n : Int) : Bool := decide (lo ≤ n) && decide (n ≤ hi)
/-- All are nought. -/
def zs : List Int → Bool
  | [] => true
  | n :: l => decide (n = 0) && zs l
def zt (tag : List UInt8) : Bool := decide (tag = List.replicate 32 0)
/-- May a command be? -/
def rightF (k seq tr inst id side ord pr q sh st wh a b : Int) (tag : List UInt8) : Bool :=
  if k = 1 then w1 0 31 tr && (zs [seq, inst, id, side, ord, pr, q, sh, st, wh, a, b] && zt tag)
  else if k = 2 then zs [seq, tr, inst, id, side, ord, pr, q, sh, st, wh, a, b]
  else if k = 3 then w4 seq && (w1 0 7 inst && (w4 id && (w1 0 255 side && (w1 0 255 ord && (w4 pr && (w4 q && (w4 sh && (w4 st && (zs [tr, wh, a, b] && zt tag)))))))))
  else if k = 4 then w4 seq && (w1 0 7 inst && (w4 id && (w1 0 31 tr && (zs [side, ord, pr, q, sh, st, wh, a, b] && zt tag))))
  else if k = 5 then w4 seq && (w1 0 7 inst && (w4 id && (w4 pr && (w4 q && (zs [tr, side, ord, sh, st, wh, a, b] && zt tag)))))
  else if k = 6 then w4 seq && (w1 0 8 inst && (w1 1 3 wh && (zs [tr, id, side, ord, pr, q, sh, st, a, b] && zt tag)))
  else if k = 7 then zs [seq, tr, inst, id, side, ord, pr, q, sh, st, wh, a, b] && zt tag
  else if k = 8 then zs [seq, tr, inst, id, side, ord, pr, q, sh, st, wh, a, b] && zt tag
  else if k = 9 then w4 seq && (w1 1 9 wh && (w1 0 255 a && (w1 0 255 b && (zs [tr, inst, id, side, ord, pr, q, sh, st] && zt tag))))
  else false

@[reducible] def right_s : Spec where
  n := 0
  cs := []
  ar := [.el cmdE]
  pre := fun ((_, _, _, _, _, _, _, _, _, _, _, _, _, _, tag, _), _) => tag.length = 32
  n' := 0
  cs' := []
  rs := [.el .bool]
  post := .fn fun ((k, seq, tr, inst, id, side, ord, pr, q, sh, st, wh, a, b, tag, _), _) => (rightF k seq tr inst id side ord pr q sh st wh a b tag, ())
theorem kinds (k : Int) : k = 1 ∨ k = 2 ∨ k = 3 ∨ k = 4 ∨ k = 5 ∨ k = 6 ∨ k = 7 ∨ k = 8 ∨ k = 9 ∨ (k ≠ 1 ∧ k ≠ 2 ∧ k ≠ 3 ∧ k ≠ 4 ∧ k ≠ 5 ∧ k ≠ 6 ∧ k ≠ 7 ∧ k ≠ 8 ∧ k ≠ 9) := by omega
theorem absd {p : Prop} [Decidable p] (h : ¬ p) (k : decide p = true) : False := h (of_decide_eq_true k)
theorem zt_eq (tag : List UInt8) [i : Decidable (tag = List.replicate 32 El.u8.dflt)] : decide (tag = List.replicate 32 El.u8.dflt) = zt tag := by
  unfold zt
  congr
@[reducible] def right_h : Hints := ⟨[(5, (.take 0 false (.take 1 true (tks 2 8 (.take 10 true (tks 11 8 (.last 19 false [] .done)))))))], [], [(3, 10)]⟩
@[reducible] noncomputable def right_e : Env := ⟨tys, [(58, fields_c)]⟩
set_option maxHeartbeats 2000000 in
set_option maxRecDepth 100000 in
theorem right_k1 (k seq tr inst id side ord pr q sh st wh a b : Int) (tag : List UInt8) (hk : k = 1) : denX right_e right_s right_h Tryz.f31 ((k, seq, tr, inst, id, side, ord, pr, q, sh, st, wh, a, b, tag, ()), ()) := by
  subst hk
  intro htag
  repeat' (first | (conv => whnf); first | refine And.intro ?_ ?_ | refine Is.mk ?_ | (intro h; cases h; done) | (intro _))
  all_goals try trivial
  all_goals first | omega | (with_reducible rfl) | (simp only [rightF]; first | decide | (simp only [if_pos, if_neg, Int.reduceEq, reduceIte, w1, w4, zs, zt_eq, *, eq_self, decide_true, Bool.and_true, Bool.true_and, Bool.and_false, Bool.false_and, Bool.and_assoc]; done) | (simp only [if_pos, if_neg, Int.reduceEq, reduceIte, w1, w4, zs, *, eq_self, decide_true, Bool.and_true, Bool.true_and, Bool.and_false, Bool.false_and, Bool.and_assoc]; rfl) | skip)
set_option maxHeartbeats 2000000 in
set_option maxRecDepth 100000 in
theorem right_k2 (k seq tr inst id side ord pr q sh st wh a b : Int) (tag : List UInt8) (hk : k = 2) : denX right_e right_s right_h Tryz.f31 ((k, seq, tr, inst, id, side, ord, pr, q, sh, st, wh, a, b, tag, ()), ()) := by
  subst hk
  intro htag
  repeat' (first | (conv => whnf); first | refine And.intro ?_ ?_ | refine Is.mk ?_ | (intro h; cases h; done) | (intro _))
  all_goals try trivial
  all_goals first | omega | (with_reducible rfl) | (simp only [rightF]; first | decide | (simp only [if_pos, if_neg, Int.reduceEq, reduceIte, w1, w4, zs, zt_eq, *, eq_self, decide_true, Bool.and_true, Bool.true_and, Bool.and_false, Bool.false_and, Bool.and_assoc]; done) | (simp only [if_pos, if_neg, Int.reduceEq, reduceIte, w1, w4, zs, *, eq_self, decide_true, Bool.and_true, Bool.true_and, Bool.and_false, Bool.false_and, Bool.and_assoc]; rfl) | skip)
set_option maxHeartbeats 2000000 in
set_option maxRecDepth 100000 in
theorem right_k3 (k seq tr inst id side ord pr q sh st wh a b : Int) (tag : List UInt8) (hk : k = 3) : denX right_e right_s right_h Tryz.f31 ((k, seq, tr, inst, id, side, ord, pr, q, sh, st, wh, a, b, tag, ()), ()) := by
  subst hk
  intro htag
  repeat' (first | (conv => whnf); first | refine And.intro ?_ ?_ | refine Is.mk ?_ | (intro h; cases h; done) | (intro _))
  all_goals try trivial
  all_goals first | omega | (with_reducible rfl) | (simp only [rightF]; first | decide | (simp only [if_pos, if_neg, Int.reduceEq, reduceIte, w1, w4, zs, zt_eq, *, eq_self, decide_true, Bool.and_true, Bool.true_and, Bool.and_false, Bool.false_and, Bool.and_assoc]; done) | (simp only [if_pos, if_neg, Int.reduceEq, reduceIte, w1, w4, zs, *, eq_self, decide_true, Bool.and_true, Bool.true_and, Bool.and_false, Bool.false_and, Bool.and_assoc]; rfl) | skip)
set_option maxHeartbeats 2000000 in
set_option maxRecDepth 100000 in
theorem right_k4 (k seq tr inst id side ord pr q sh st wh a b : Int) (tag : List UInt8) (hk : k = 4) : denX right_e right_s right_h Tryz.f31 ((k, seq, tr, inst, id, side, ord, pr, q, sh, st, wh, a, b, tag, ()), ()) := by
  subst hk
  intro htag
  repeat' (first | (conv => whnf); first | refine And.intro ?_ ?_ | refine Is.mk ?_ | (intro h; cases h; done) | (intro _))
  all_goals try trivial
  all_goals first | omega | (with_reducible rfl) | (simp only [rightF]; first | decide | (simp only [if_pos, if_neg, Int.reduceEq, reduceIte, w1, w4, zs, zt_eq, *, eq_self, decide_true, Bool.and_true, Bool.true_and, Bool.and_false, Bool.false_and, Bool.and_assoc]; done) | (simp only [if_pos, if_neg, Int.reduceEq, reduceIte, w1, w4, zs, *, eq_self, decide_true, Bool.and_true, Bool.true_and, Bool.and_false, Bool.false_and, Bool.and_assoc]; rfl) | skip)
set_option maxHeartbeats 2000000 in
set_option maxRecDepth 100000 in
theorem right_k5 (k seq tr inst id side ord pr q sh st wh a b : Int) (tag : List UInt8) (hk : k = 5) : denX right_e right_s right_h Tryz.f31 ((k, seq, tr, inst, id, side, ord, pr, q, sh, st, wh, a, b, tag, ()), ()) := by
  subst hk
  intro htag
  repeat' (first | (conv => whnf); first | refine And.intro ?_ ?_ | refine Is.mk ?_ | (intro h; cases h; done) | (intro _))
  all_goals try trivial
  all_goals first | omega | (with_reducible rfl) | (simp only [rightF]; first | decide | (simp only [if_pos, if_neg, Int.reduceEq, reduceIte, w1, w4, zs, zt_eq, *, eq_self, decide_true, Bool.and_true, Bool.true_and, Bool.and_false, Bool.false_and, Bool.and_assoc]; done) | (simp only [if_pos, if_neg, Int.reduceEq, reduceIte, w1, w4, zs, *, eq_self, decide_true, Bool.and_true, Bool.true_and, Bool.and_false, Bool.false_and, Bool.and_assoc]; rfl) | skip)
set_option maxHeartbeats 2000000 in
set_option maxRecDepth 100000 in
theorem right_k6 (k seq tr inst id side ord pr q sh st wh a b : Int) (tag : List UInt8) (hk : k = 6) : denX right_e right_s right_h Tryz.f31 ((k, seq, tr, inst, id, side, ord, pr, q, sh, st, wh, a, b, tag, ()), ()) := by
  subst hk
  intro htag
  repeat' (first | (conv => whnf); first | refine And.intro ?_ ?_ | refine Is.mk ?_ | (intro h; cases h; done) | (intro _))
  all_goals try trivial
  all_goals first | omega | (with_reducible rfl) | (simp only [rightF]; first | decide | (simp only [if_pos, if_neg, Int.reduceEq, reduceIte, w1, w4, zs, zt_eq, *, eq_self, decide_true, Bool.and_true, Bool.true_and, Bool.and_false, Bool.false_and, Bool.and_assoc]; done) | (simp only [if_pos, if_neg, Int.reduceEq, reduceIte, w1, w4, zs, *, eq_self, decide_true, Bool.and_true, Bool.true_and, Bool.and_false, Bool.false_and, Bool.and_assoc]; rfl) | skip)
set_option maxHeartbeats 2000000 in
set_option maxRecDepth 100000 in
theorem right_k7 (k seq tr inst id side ord pr q sh st wh a b : Int) (tag : List UInt8) (hk : k = 7) : denX right_e right_s right_h Tryz.f31 ((k, seq, tr, inst, id, side, ord, pr, q, sh, st, wh, a, b, tag, ()), ()) := by
  subst hk
  intro htag
  repeat' (first | (conv => whnf); first | refine And.intro ?_ ?_ | refine Is.mk ?_ | (intro h; cases h; done) | (intro _))
  all_goals try trivial
  all_goals first | omega | (with_reducible rfl) | (simp only [rightF]; first | decide | (simp only [if_pos, if_neg, Int.reduceEq, reduceIte, w1, w4, zs, zt_eq, *, eq_self, decide_true, Bool.and_true, Bool.true_and, Bool.and_false, Bool.false_and, Bool.and_assoc]; done) | (simp only [if_pos, if_neg, Int.reduceEq, reduceIte, w1, w4, zs, *, eq_self, decide_true, Bool.and_true, Bool.true_and, Bool.and_false, Bool.false_and, Bool.and_assoc]; rfl) | skip)
set_option maxHeartbeats 2000000 in
set_option maxRecDepth 100000 in
theorem right_k8 (k seq tr inst id side ord pr q sh st wh a b : Int) (tag : List UInt8) (hk : k = 8) : denX right_e right_s right_h Tryz.f31 ((k, seq, tr, inst, id, side, ord, pr, q, sh, st, wh, a, b, tag, ()), ()) := by
  subst hk
  intro htag
  repeat' (first | (conv => whnf); first | refine And.intro ?_ ?_ | refine Is.mk ?_ | (intro h; cases h; done) | (intro _))
  all_goals try trivial
  all_goals first | omega | (with_reducible rfl) | (simp only [rightF]; first | decide | (simp only [if_pos, if_neg, Int.reduceEq, reduceIte, w1, w4, zs, zt_eq, *, eq_self, decide_true, Bool.and_true, Bool.true_and, Bool.and_false, Bool.false_and, Bool.and_assoc]; done) | (simp only [if_pos, if_neg, Int.reduceEq, reduceIte, w1, w4, zs, *, eq_self, decide_true, Bool.and_true, Bool.true_and, Bool.and_false, Bool.false_and, Bool.and_assoc]; rfl) | skip)
set_option maxHeartbeats 2000000 in
set_option maxRecDepth 100000 in
theorem right_k9 (k seq tr inst id side ord pr q sh st wh a b : Int) (tag : List UInt8) (hk : k = 9) : denX right_e right_s right_h Tryz.f31 ((k, seq, tr, inst, id, side, ord, pr, q, sh, st, wh, a, b, tag, ()), ()) := by
  subst hk
  intro htag
  repeat' (first | (conv => whnf); first | refine And.intro ?_ ?_ | refine Is.mk ?_ | (intro h; cases h; done) | (intro _))
  all_goals try trivial
  all_goals first | omega | (with_reducible rfl) | (simp only [rightF]; first | decide | (simp only [if_pos, if_neg, Int.reduceEq, reduceIte, w1, w4, zs, zt_eq, *, eq_self, decide_true, Bool.and_true, Bool.true_and, Bool.and_false, Bool.false_and, Bool.and_assoc]; done) | (simp only [if_pos, if_neg, Int.reduceEq, reduceIte, w1, w4, zs, *, eq_self, decide_true, Bool.and_true, Bool.true_and, Bool.and_false, Bool.false_and, Bool.and_assoc]; rfl) | skip)
set_option maxHeartbeats 2000000 in
set_option maxRecDepth 100000 in
theorem right_k10 (k seq tr inst id side ord pr q sh st wh a b : Int) (tag : List UInt8) (hk : k ≠ 1 ∧ k ≠ 2 ∧ k ≠ 3 ∧ k ≠ 4 ∧ k ≠ 5 ∧ k ≠ 6 ∧ k ≠ 7 ∧ k ≠ 8 ∧ k ≠ 9) : denX right_e right_s right_h Tryz.f31 ((k, seq, tr, inst, id, side, ord, pr, q, sh, st, wh, a, b, tag, ()), ()) := by
  obtain ⟨n1, n2, n3, n4, n5, n6, n7, n8, n9⟩ := hk
  intro htag
  repeat' (first | (conv => whnf); first | refine And.intro ?_ ?_ | refine Is.mk ?_ | (intro h; exact absurd h (by simp only [decide_eq_true_eq]; assumption)) | (intro h; cases h; done) | (intro _))
  all_goals try trivial
  all_goals first | omega | (with_reducible rfl) | (simp only [rightF]; first | decide | (simp only [if_pos, if_neg, Int.reduceEq, reduceIte, w1, w4, zs, zt_eq, *, eq_self, decide_true, Bool.and_true, Bool.true_and, Bool.and_false, Bool.false_and, Bool.and_assoc]; done) | (simp only [if_pos, if_neg, Int.reduceEq, reduceIte, w1, w4, zs, *, eq_self, decide_true, Bool.and_true, Bool.true_and, Bool.and_false, Bool.false_and, Bool.and_assoc]; rfl) | skip)
set_option maxHeartbeats 1000000 in
set_option maxRecDepth 100000 in
theorem right_d : denF right_e right_s right_h Tryz.f31 := by
  intro k seq tr inst id side ord pr q sh st wh a b tag
  rcases kinds k with h | h | h | h | h | h | h | h | h | h
  · exact right_k1 k seq tr inst id side ord pr q sh st wh a b tag h
  · exact right_k2 k seq tr inst id side ord pr q sh st wh a b tag h
  · exact right_k3 k seq tr inst id side ord pr q sh st wh a b tag h
  · exact right_k4 k seq tr inst id side ord pr q sh st wh a b tag h
  · exact right_k5 k seq tr inst id side ord pr q sh st wh a b tag h
  · exact right_k6 k seq tr inst id side ord pr q sh st wh a b tag h
  · exact right_k7 k seq tr inst id side ord pr q sh st wh a b tag h
  · exact right_k8 k seq tr inst id side ord pr q sh st wh a b tag h
  · exact right_k9 k seq tr inst id side ord pr q sh st wh a b tag h
  · exact right_k10 k seq tr inst id side ord pr q sh st wh a b tag h
set_option maxRecDepth 100000 in
theorem right_p : (FnIs Tryz.prog 31 ∧ FnOk Tryz.prog 31 right_s) ∧ (idsOk right_s.cs && idsOk right_s.cs' && Nat.ble right_s.n right_s.n') = true :=
  fn_of (l := [(58, fields_c)]) (hi := right_h) (S := right_s) (fn := Tryz.f31) (c := Tryz.f31.body.get!) tysOk mixOk ⟨.inl fields_m, trivial⟩ (by kernel_rfl) (by kernel_rfl) (by kernel_rfl) (by kernel_rfl) (by kernel_rfl) right_d
theorem right_m : May Tryz.prog (31, right_s.call) := may_call right_p
theorem right_n : May Tryz.prog (31, right_s.callN) := may_callN right_p

end Go.J

set_option linter.unusedSimpArgs false
set_option linter.unusedVariables false
set_option linter.unusedSectionVars false
namespace Go.J
open Go.Proofs

@[reducible] def mnum_s : Spec where
  n := 0
  cs := []
  ar := [.lend .u8, .el (.int .i64), .el (.int .i64)]
  pre := fun (xs, n, _) => xs.length ≤ 1000000000000 ∧ -9223372036854775808 ≤ n ∧ n ≤ 9223372036854775807
  n' := 1
  cs' := [(0, .row 5 .u8)]
  rs := [.own 0]
  post := .fn fun (xs, n, size, _) => (xs ++ (if size = 1 then be 1 (n % 18446744073709551616) else be 4 (n % 4294967296)), ())
@[reducible] def mnum_h : Hints := ⟨[], [], []⟩
@[reducible] noncomputable def mnum_e : Env := ⟨tys, [(36, u8_s.call), (34, u32_s.call)]⟩
set_option maxHeartbeats 1000000 in
set_option maxRecDepth 100000 in
theorem mnum_d : denF mnum_e mnum_s mnum_h Tryz.f62 := by
  intro xs n size
  repeat' (first | (conv => whnf); first | refine And.intro ?_ ?_ | refine Is.mk ?_ | (intro h; cases h; done) | (intro _))
  all_goals try dsimp only [maxLen, El.ty] at *
  all_goals try trivial
  all_goals repeat (with_reducible cases ‹_ ∧ _›)
  all_goals try subst_eqs
  all_goals try simp only [IntKind.wrap_i64, IntKind.wrap_u64, IntKind.wrap_u32, IntKind.wrap_u8, decide_eq_true_eq, decide_eq_false_iff_not, Bool.not_eq_true', Bool.not_eq_false', Bool.not_not, Bool.not_true, Bool.not_false, List.length_cons, List.length_nil, Int.toNat_natCast, UInt8.ofNat_toNat] at *
  all_goals try first | omega | (with_reducible rfl) | (with_reducible exact u8lt _)
  all_goals simp only [*, if_true, if_false]
set_option maxRecDepth 100000 in
theorem mnum_p : (FnIs Tryz.prog 62 ∧ FnOk Tryz.prog 62 mnum_s) ∧ (idsOk mnum_s.cs && idsOk mnum_s.cs' && Nat.ble mnum_s.n mnum_s.n') = true :=
  fn_of (l := [(36, u8_s.call), (34, u32_s.call)]) (hi := mnum_h) (S := mnum_s) (fn := Tryz.f62) (c := Tryz.f62.body.get!) tysOk mixOk ⟨.inl u8_m, .inl u32_m, trivial⟩ (by kernel_rfl) (by kernel_rfl) (by kernel_rfl) (by kernel_rfl) (by kernel_rfl) mnum_d
theorem mnum_m : May Tryz.prog (62, mnum_s.call) := may_call mnum_p
theorem mnum_n : May Tryz.prog (62, mnum_s.callN) := may_callN mnum_p

/-- What a command's kind names, as bytes. -/
def restF (k seq tr inst id side ord pr q sh st wh a b : Int) (tag : List UInt8) : List UInt8 :=
  if k = 1 then be 1 tr
  else if k = 2 then tag
  else if k = 3 then be 4 seq ++ be 1 inst ++ be 4 id ++ be 1 side ++ be 1 ord ++ be 4 pr ++ be 4 q ++ be 4 sh ++ be 4 st
  else if k = 4 then be 4 seq ++ be 1 inst ++ be 4 id ++ be 1 tr
  else if k = 5 then be 4 seq ++ be 1 inst ++ be 4 id ++ be 4 pr ++ be 4 q
  else if k = 6 then be 4 seq ++ be 1 inst ++ be 1 wh
  else if k = 9 then be 4 seq ++ be 1 wh ++ be 1 a ++ be 1 b
  else []
def bytesF (k seq tr inst id side ord pr q sh st wh a b : Int) (tag : List UInt8) : List UInt8 := be 1 k ++ restF k seq tr inst id side ord pr q sh st wh a b tag
def putF (k seq tr inst id side ord pr q sh st wh a b : Int) (tag : List UInt8) : List UInt8 :=
  if rightF k seq tr inst id side ord pr q sh st wh a b tag = true then bytesF k seq tr inst id side ord pr q sh st wh a b tag else []

theorem be1_mod (n : Int) : be 1 (n % 18446744073709551616) = be 1 n := by
  simp only [be]
  rw [show n % 18446744073709551616 / 256 ^ 0 % 256 = n / 256 ^ 0 % 256 by omega]
theorem be1_mod4 (n : Int) : be 1 (n % 4294967296) = be 1 n := by
  simp only [be]
  rw [show n % 4294967296 / 256 ^ 0 % 256 = n / 256 ^ 0 % 256 by omega]
theorem be4_mod (n : Int) : be 4 (n % 4294967296) = be 4 n := by
  simp only [be]
  rw [show n % 4294967296 / 256 ^ 0 % 256 = n / 256 ^ 0 % 256 by omega, show n % 4294967296 / 256 ^ 1 % 256 = n / 256 ^ 1 % 256 by omega, show n % 4294967296 / 256 ^ 2 % 256 = n / 256 ^ 2 % 256 by omega, show n % 4294967296 / 256 ^ 3 % 256 = n / 256 ^ 3 % 256 by omega]
theorem take32 {tag : List UInt8} (h : tag.length = 32) : List.take (((32 : Nat) : Int) - 0).toNat (List.drop (Int.toNat 0) tag) = tag := by
  rw [show Int.toNat 0 = 0 from rfl, List.drop_zero, show (((32 : Nat) : Int) - 0).toNat = 32 from rfl, List.take_of_length_le (by omega)]

@[reducible] def cmdFit : cmdE.ty → Prop := fun (k, seq, tr, inst, id, side, ord, pr, q, sh, st, wh, a, b, tag, _) => tag.length = 32 ∧
  (-9223372036854775808 ≤ k ∧ k ≤ 9223372036854775807) ∧ (-9223372036854775808 ≤ seq ∧ seq ≤ 9223372036854775807) ∧ (-9223372036854775808 ≤ tr ∧ tr ≤ 9223372036854775807) ∧ (-9223372036854775808 ≤ inst ∧ inst ≤ 9223372036854775807) ∧
  (-9223372036854775808 ≤ id ∧ id ≤ 9223372036854775807) ∧ (-9223372036854775808 ≤ side ∧ side ≤ 9223372036854775807) ∧ (-9223372036854775808 ≤ ord ∧ ord ≤ 9223372036854775807) ∧ (-9223372036854775808 ≤ pr ∧ pr ≤ 9223372036854775807) ∧
  (-9223372036854775808 ≤ q ∧ q ≤ 9223372036854775807) ∧ (-9223372036854775808 ≤ sh ∧ sh ≤ 9223372036854775807) ∧ (-9223372036854775808 ≤ st ∧ st ≤ 9223372036854775807) ∧ (-9223372036854775808 ≤ wh ∧ wh ≤ 9223372036854775807) ∧
  (-9223372036854775808 ≤ a ∧ a ≤ 9223372036854775807) ∧ (-9223372036854775808 ≤ b ∧ b ≤ 9223372036854775807)

@[reducible] def put_s : Spec where
  n := 0
  cs := []
  ar := [.el cmdE]
  pre := fun (c, _) => cmdFit c
  n' := 1
  cs' := [(0, .row 5 .u8)]
  rs := [.own 0]
  post := .fn fun ((k, seq, tr, inst, id, side, ord, pr, q, sh, st, wh, a, b, tag, _), _) => (putF k seq tr inst id side ord pr q sh st wh a b tag, ())
@[reducible] def put_h : Hints := ⟨[(8, (tks 0 7 (.last 7 false [] (.last 8 false [] .done))))], [], [(6, 10)]⟩
@[reducible] noncomputable def put_e : Env := ⟨tys, [(31, right_s.call), (36, u8_s.call), (58, fields_c), (62, mnum_s.call)]⟩
set_option maxHeartbeats 2000000 in
set_option maxRecDepth 100000 in
theorem put_k1 (k seq tr inst id side ord pr q sh st wh a b : Int) (tag : List UInt8) (hk : k = 1) : denX put_e put_s put_h Tryz.f37 ((k, seq, tr, inst, id, side, ord, pr, q, sh, st, wh, a, b, tag, ()), ()) := by
  subst hk
  intro hpre
  repeat' (first | (conv => whnf); first | refine And.intro ?_ ?_ | refine Is.mk ?_ | (intro h; cases h; done) | (intro _))
  all_goals try dsimp only [maxLen, El.ty] at *
  all_goals try trivial
  all_goals obtain ⟨ht, hb⟩ := hpre
  all_goals try dsimp only [El.ty] at hb ⊢
  all_goals try (simp only [take32 ht])
  all_goals try (simp only [Int.reduceEq, reduceIte, be1_mod, be4_mod, List.nil_append])
  all_goals first
    | exact ht
    | omega
    | (simp only [List.length_append, be_length, List.length_nil, List.length_take, List.length_drop]; omega)
    | skip
  all_goals try (rename (!rightF _ _ _ _ _ _ _ _ _ _ _ _ _ _ _) = _ => h9; simp only [Bool.not_eq_true', Bool.not_eq_false'] at h9)
  all_goals first
    | (simp only [putF, h9, Bool.false_eq_true, if_false]; done)
    | (simp [rightF, n1, n2, n3, n4, n5, n6, n7, n8, n9] at h9; done)
    | (simp only [putF, h9, if_true, bytesF, restF, be1_mod, be4_mod, Int.reduceEq, reduceIte, List.nil_append, List.append_nil, List.append_assoc]; done)
    | skip
set_option maxHeartbeats 2000000 in
set_option maxRecDepth 100000 in
theorem put_k2 (k seq tr inst id side ord pr q sh st wh a b : Int) (tag : List UInt8) (hk : k = 2) : denX put_e put_s put_h Tryz.f37 ((k, seq, tr, inst, id, side, ord, pr, q, sh, st, wh, a, b, tag, ()), ()) := by
  subst hk
  intro hpre
  repeat' (first | (conv => whnf); first | refine And.intro ?_ ?_ | refine Is.mk ?_ | (intro h; cases h; done) | (intro _))
  all_goals try dsimp only [maxLen, El.ty] at *
  all_goals try trivial
  all_goals obtain ⟨ht, hb⟩ := hpre
  all_goals try dsimp only [El.ty] at hb ⊢
  all_goals try (simp only [take32 ht])
  all_goals try (simp only [Int.reduceEq, reduceIte, be1_mod, be4_mod, List.nil_append])
  all_goals first
    | exact ht
    | omega
    | (simp only [List.length_append, be_length, List.length_nil, List.length_take, List.length_drop]; omega)
    | skip
  all_goals try (rename (!rightF _ _ _ _ _ _ _ _ _ _ _ _ _ _ _) = _ => h9; simp only [Bool.not_eq_true', Bool.not_eq_false'] at h9)
  all_goals first
    | (simp only [putF, h9, Bool.false_eq_true, if_false]; done)
    | (simp [rightF, n1, n2, n3, n4, n5, n6, n7, n8, n9] at h9; done)
    | (simp only [putF, h9, if_true, bytesF, restF, be1_mod, be4_mod, Int.reduceEq, reduceIte, List.nil_append, List.append_nil, List.append_assoc]; done)
    | skip
set_option maxHeartbeats 2000000 in
set_option maxRecDepth 100000 in
theorem put_k3 (k seq tr inst id side ord pr q sh st wh a b : Int) (tag : List UInt8) (hk : k = 3) : denX put_e put_s put_h Tryz.f37 ((k, seq, tr, inst, id, side, ord, pr, q, sh, st, wh, a, b, tag, ()), ()) := by
  subst hk
  intro hpre
  repeat' (first | (conv => whnf); first | refine And.intro ?_ ?_ | refine Is.mk ?_ | (intro h; cases h; done) | (intro _))
  all_goals try dsimp only [maxLen, El.ty] at *
  all_goals try trivial
  all_goals obtain ⟨ht, hb⟩ := hpre
  all_goals try dsimp only [El.ty] at hb ⊢
  all_goals try (simp only [take32 ht])
  all_goals try (simp only [Int.reduceEq, reduceIte, be1_mod, be4_mod, List.nil_append])
  all_goals first
    | exact ht
    | omega
    | (simp only [List.length_append, be_length, List.length_nil, List.length_take, List.length_drop]; omega)
    | skip
  all_goals try (rename (!rightF _ _ _ _ _ _ _ _ _ _ _ _ _ _ _) = _ => h9; simp only [Bool.not_eq_true', Bool.not_eq_false'] at h9)
  all_goals first
    | (simp only [putF, h9, Bool.false_eq_true, if_false]; done)
    | (simp [rightF, n1, n2, n3, n4, n5, n6, n7, n8, n9] at h9; done)
    | (simp only [putF, h9, if_true, bytesF, restF, be1_mod, be4_mod, Int.reduceEq, reduceIte, List.nil_append, List.append_nil, List.append_assoc]; done)
    | skip
set_option maxHeartbeats 2000000 in
set_option maxRecDepth 100000 in
theorem put_k4 (k seq tr inst id side ord pr q sh st wh a b : Int) (tag : List UInt8) (hk : k = 4) : denX put_e put_s put_h Tryz.f37 ((k, seq, tr, inst, id, side, ord, pr, q, sh, st, wh, a, b, tag, ()), ()) := by
  subst hk
  intro hpre
  repeat' (first | (conv => whnf); first | refine And.intro ?_ ?_ | refine Is.mk ?_ | (intro h; cases h; done) | (intro _))
  all_goals try dsimp only [maxLen, El.ty] at *
  all_goals try trivial
  all_goals obtain ⟨ht, hb⟩ := hpre
  all_goals try dsimp only [El.ty] at hb ⊢
  all_goals try (simp only [take32 ht])
  all_goals try (simp only [Int.reduceEq, reduceIte, be1_mod, be4_mod, List.nil_append])
  all_goals first
    | exact ht
    | omega
    | (simp only [List.length_append, be_length, List.length_nil, List.length_take, List.length_drop]; omega)
    | skip
  all_goals try (rename (!rightF _ _ _ _ _ _ _ _ _ _ _ _ _ _ _) = _ => h9; simp only [Bool.not_eq_true', Bool.not_eq_false'] at h9)
  all_goals first
    | (simp only [putF, h9, Bool.false_eq_true, if_false]; done)
    | (simp [rightF, n1, n2, n3, n4, n5, n6, n7, n8, n9] at h9; done)
    | (simp only [putF, h9, if_true, bytesF, restF, be1_mod, be4_mod, Int.reduceEq, reduceIte, List.nil_append, List.append_nil, List.append_assoc]; done)
    | skip
set_option maxHeartbeats 2000000 in
set_option maxRecDepth 100000 in
theorem put_k5 (k seq tr inst id side ord pr q sh st wh a b : Int) (tag : List UInt8) (hk : k = 5) : denX put_e put_s put_h Tryz.f37 ((k, seq, tr, inst, id, side, ord, pr, q, sh, st, wh, a, b, tag, ()), ()) := by
  subst hk
  intro hpre
  repeat' (first | (conv => whnf); first | refine And.intro ?_ ?_ | refine Is.mk ?_ | (intro h; cases h; done) | (intro _))
  all_goals try dsimp only [maxLen, El.ty] at *
  all_goals try trivial
  all_goals obtain ⟨ht, hb⟩ := hpre
  all_goals try dsimp only [El.ty] at hb ⊢
  all_goals try (simp only [take32 ht])
  all_goals try (simp only [Int.reduceEq, reduceIte, be1_mod, be4_mod, List.nil_append])
  all_goals first
    | exact ht
    | omega
    | (simp only [List.length_append, be_length, List.length_nil, List.length_take, List.length_drop]; omega)
    | skip
  all_goals try (rename (!rightF _ _ _ _ _ _ _ _ _ _ _ _ _ _ _) = _ => h9; simp only [Bool.not_eq_true', Bool.not_eq_false'] at h9)
  all_goals first
    | (simp only [putF, h9, Bool.false_eq_true, if_false]; done)
    | (simp [rightF, n1, n2, n3, n4, n5, n6, n7, n8, n9] at h9; done)
    | (simp only [putF, h9, if_true, bytesF, restF, be1_mod, be4_mod, Int.reduceEq, reduceIte, List.nil_append, List.append_nil, List.append_assoc]; done)
    | skip
set_option maxHeartbeats 2000000 in
set_option maxRecDepth 100000 in
theorem put_k6 (k seq tr inst id side ord pr q sh st wh a b : Int) (tag : List UInt8) (hk : k = 6) : denX put_e put_s put_h Tryz.f37 ((k, seq, tr, inst, id, side, ord, pr, q, sh, st, wh, a, b, tag, ()), ()) := by
  subst hk
  intro hpre
  repeat' (first | (conv => whnf); first | refine And.intro ?_ ?_ | refine Is.mk ?_ | (intro h; cases h; done) | (intro _))
  all_goals try dsimp only [maxLen, El.ty] at *
  all_goals try trivial
  all_goals obtain ⟨ht, hb⟩ := hpre
  all_goals try dsimp only [El.ty] at hb ⊢
  all_goals try (simp only [take32 ht])
  all_goals try (simp only [Int.reduceEq, reduceIte, be1_mod, be4_mod, List.nil_append])
  all_goals first
    | exact ht
    | omega
    | (simp only [List.length_append, be_length, List.length_nil, List.length_take, List.length_drop]; omega)
    | skip
  all_goals try (rename (!rightF _ _ _ _ _ _ _ _ _ _ _ _ _ _ _) = _ => h9; simp only [Bool.not_eq_true', Bool.not_eq_false'] at h9)
  all_goals first
    | (simp only [putF, h9, Bool.false_eq_true, if_false]; done)
    | (simp [rightF, n1, n2, n3, n4, n5, n6, n7, n8, n9] at h9; done)
    | (simp only [putF, h9, if_true, bytesF, restF, be1_mod, be4_mod, Int.reduceEq, reduceIte, List.nil_append, List.append_nil, List.append_assoc]; done)
    | skip
set_option maxHeartbeats 2000000 in
set_option maxRecDepth 100000 in
theorem put_k7 (k seq tr inst id side ord pr q sh st wh a b : Int) (tag : List UInt8) (hk : k = 7) : denX put_e put_s put_h Tryz.f37 ((k, seq, tr, inst, id, side, ord, pr, q, sh, st, wh, a, b, tag, ()), ()) := by
  subst hk
  intro hpre
  repeat' (first | (conv => whnf); first | refine And.intro ?_ ?_ | refine Is.mk ?_ | (intro h; cases h; done) | (intro _))
  all_goals try dsimp only [maxLen, El.ty] at *
  all_goals try trivial
  all_goals obtain ⟨ht, hb⟩ := hpre
  all_goals try dsimp only [El.ty] at hb ⊢
  all_goals try (simp only [take32 ht])
  all_goals try (simp only [Int.reduceEq, reduceIte, be1_mod, be4_mod, List.nil_append])
  all_goals first
    | exact ht
    | omega
    | (simp only [List.length_append, be_length, List.length_nil, List.length_take, List.length_drop]; omega)
    | skip
  all_goals try (rename (!rightF _ _ _ _ _ _ _ _ _ _ _ _ _ _ _) = _ => h9; simp only [Bool.not_eq_true', Bool.not_eq_false'] at h9)
  all_goals first
    | (simp only [putF, h9, Bool.false_eq_true, if_false]; done)
    | (simp [rightF, n1, n2, n3, n4, n5, n6, n7, n8, n9] at h9; done)
    | (simp only [putF, h9, if_true, bytesF, restF, be1_mod, be4_mod, Int.reduceEq, reduceIte, List.nil_append, List.append_nil, List.append_assoc]; done)
    | skip
set_option maxHeartbeats 2000000 in
set_option maxRecDepth 100000 in
theorem put_k8 (k seq tr inst id side ord pr q sh st wh a b : Int) (tag : List UInt8) (hk : k = 8) : denX put_e put_s put_h Tryz.f37 ((k, seq, tr, inst, id, side, ord, pr, q, sh, st, wh, a, b, tag, ()), ()) := by
  subst hk
  intro hpre
  repeat' (first | (conv => whnf); first | refine And.intro ?_ ?_ | refine Is.mk ?_ | (intro h; cases h; done) | (intro _))
  all_goals try dsimp only [maxLen, El.ty] at *
  all_goals try trivial
  all_goals obtain ⟨ht, hb⟩ := hpre
  all_goals try dsimp only [El.ty] at hb ⊢
  all_goals try (simp only [take32 ht])
  all_goals try (simp only [Int.reduceEq, reduceIte, be1_mod, be4_mod, List.nil_append])
  all_goals first
    | exact ht
    | omega
    | (simp only [List.length_append, be_length, List.length_nil, List.length_take, List.length_drop]; omega)
    | skip
  all_goals try (rename (!rightF _ _ _ _ _ _ _ _ _ _ _ _ _ _ _) = _ => h9; simp only [Bool.not_eq_true', Bool.not_eq_false'] at h9)
  all_goals first
    | (simp only [putF, h9, Bool.false_eq_true, if_false]; done)
    | (simp [rightF, n1, n2, n3, n4, n5, n6, n7, n8, n9] at h9; done)
    | (simp only [putF, h9, if_true, bytesF, restF, be1_mod, be4_mod, Int.reduceEq, reduceIte, List.nil_append, List.append_nil, List.append_assoc]; done)
    | skip
set_option maxHeartbeats 2000000 in
set_option maxRecDepth 100000 in
theorem put_k9 (k seq tr inst id side ord pr q sh st wh a b : Int) (tag : List UInt8) (hk : k = 9) : denX put_e put_s put_h Tryz.f37 ((k, seq, tr, inst, id, side, ord, pr, q, sh, st, wh, a, b, tag, ()), ()) := by
  subst hk
  intro hpre
  repeat' (first | (conv => whnf); first | refine And.intro ?_ ?_ | refine Is.mk ?_ | (intro h; cases h; done) | (intro _))
  all_goals try dsimp only [maxLen, El.ty] at *
  all_goals try trivial
  all_goals obtain ⟨ht, hb⟩ := hpre
  all_goals try dsimp only [El.ty] at hb ⊢
  all_goals try (simp only [take32 ht])
  all_goals try (simp only [Int.reduceEq, reduceIte, be1_mod, be4_mod, List.nil_append])
  all_goals first
    | exact ht
    | omega
    | (simp only [List.length_append, be_length, List.length_nil, List.length_take, List.length_drop]; omega)
    | skip
  all_goals try (rename (!rightF _ _ _ _ _ _ _ _ _ _ _ _ _ _ _) = _ => h9; simp only [Bool.not_eq_true', Bool.not_eq_false'] at h9)
  all_goals first
    | (simp only [putF, h9, Bool.false_eq_true, if_false]; done)
    | (simp [rightF, n1, n2, n3, n4, n5, n6, n7, n8, n9] at h9; done)
    | (simp only [putF, h9, if_true, bytesF, restF, be1_mod, be4_mod, Int.reduceEq, reduceIte, List.nil_append, List.append_nil, List.append_assoc]; done)
    | skip
set_option maxHeartbeats 2000000 in
set_option maxRecDepth 100000 in
theorem put_k10 (k seq tr inst id side ord pr q sh st wh a b : Int) (tag : List UInt8) (hk : k ≠ 1 ∧ k ≠ 2 ∧ k ≠ 3 ∧ k ≠ 4 ∧ k ≠ 5 ∧ k ≠ 6 ∧ k ≠ 7 ∧ k ≠ 8 ∧ k ≠ 9) : denX put_e put_s put_h Tryz.f37 ((k, seq, tr, inst, id, side, ord, pr, q, sh, st, wh, a, b, tag, ()), ()) := by
  obtain ⟨n1, n2, n3, n4, n5, n6, n7, n8, n9⟩ := hk
  intro hpre
  repeat' (first | (conv => whnf); first | refine And.intro ?_ ?_ | refine Is.mk ?_ | (intro h; exact absurd h (by simp only [decide_eq_true_eq]; assumption)) | (intro h; cases h; done) | (intro _))
  all_goals try dsimp only [maxLen, El.ty] at *
  all_goals try trivial
  all_goals obtain ⟨ht, hb⟩ := hpre
  all_goals try dsimp only [El.ty] at hb ⊢
  all_goals try (simp only [take32 ht])
  all_goals try (simp only [Int.reduceEq, reduceIte, be1_mod, be4_mod, List.nil_append])
  all_goals first
    | exact ht
    | omega
    | (simp only [List.length_append, be_length, List.length_nil, List.length_take, List.length_drop]; omega)
    | skip
  all_goals try (rename (!rightF _ _ _ _ _ _ _ _ _ _ _ _ _ _ _) = _ => h9; simp only [Bool.not_eq_true', Bool.not_eq_false'] at h9)
  all_goals first
    | (simp only [putF, h9, Bool.false_eq_true, if_false]; done)
    | (simp [rightF, n1, n2, n3, n4, n5, n6, n7, n8, n9] at h9; done)
    | (simp only [putF, h9, if_true, bytesF, restF, be1_mod, be4_mod, Int.reduceEq, reduceIte, List.nil_append, List.append_nil, List.append_assoc]; done)
    | skip
set_option maxHeartbeats 1000000 in
set_option maxRecDepth 100000 in
theorem put_d : denF put_e put_s put_h Tryz.f37 := by
  intro k seq tr inst id side ord pr q sh st wh a b tag
  rcases kinds k with h | h | h | h | h | h | h | h | h | h
  · exact put_k1 k seq tr inst id side ord pr q sh st wh a b tag h
  · exact put_k2 k seq tr inst id side ord pr q sh st wh a b tag h
  · exact put_k3 k seq tr inst id side ord pr q sh st wh a b tag h
  · exact put_k4 k seq tr inst id side ord pr q sh st wh a b tag h
  · exact put_k5 k seq tr inst id side ord pr q sh st wh a b tag h
  · exact put_k6 k seq tr inst id side ord pr q sh st wh a b tag h
  · exact put_k7 k seq tr inst id side ord pr q sh st wh a b tag h
  · exact put_k8 k seq tr inst id side ord pr q sh st wh a b tag h
  · exact put_k9 k seq tr inst id side ord pr q sh st wh a b tag h
  · exact put_k10 k seq tr inst id side ord pr q sh st wh a b tag h
set_option maxRecDepth 100000 in
theorem put_p : (FnIs Tryz.prog 37 ∧ FnOk Tryz.prog 37 put_s) ∧ (idsOk put_s.cs && idsOk put_s.cs' && Nat.ble put_s.n put_s.n') = true :=
  fn_of (l := [(31, right_s.call), (36, u8_s.call), (58, fields_c), (62, mnum_s.call)]) (hi := put_h) (S := put_s) (fn := Tryz.f37) (c := Tryz.f37.body.get!) tysOk mixOk ⟨.inl right_m, .inl u8_m, .inl fields_m, .inl mnum_m, trivial⟩ (by kernel_rfl) (by kernel_rfl) (by kernel_rfl) (by kernel_rfl) (by kernel_rfl) put_d
theorem put_m : May Tryz.prog (37, put_s.call) := may_call put_p
theorem put_n : May Tryz.prog (37, put_s.callN) := may_callN put_p

end Go.J

set_option linter.unusedSimpArgs false
set_option linter.unusedVariables false
set_option linter.unusedSectionVars false
namespace Go.J
open Go.Proofs

theorem absorb_len : ∀ (n : Nat) (s : List Int) (xs : List UInt8), xs.length ≤ n → s.length = 8 → (absorb s xs).1.length = 8 ∧ (absorb s xs).2.length < 64 := by
  intro n
  induction n with
  | zero =>
    intro s xs h hs
    rw [absorb_done (by omega)]
    exact ⟨hs, by show xs.length < 64; omega⟩
  | succ n ih =>
    intro s xs h hs
    by_cases hl : 64 ≤ xs.length
    · rw [absorb_step hl]
      exact ih _ _ (by rw [List.length_drop]; omega) (mixW_len hs)
    · rw [absorb_done (by omega)]
      exact ⟨hs, by show xs.length < 64; omega⟩
theorem first_len : firstW.length = 8 := rfl
theorem sum_len0 (xs : List UInt8) : (absorb firstW ([] ++ xs)).1.length = 8 := (absorb_len _ _ _ (Nat.le_refl _) first_len).1
theorem rest_len0 (xs : List UInt8) : (absorb firstW ([] ++ xs)).2.length ≤ 1000000000 := by
  have := (absorb_len _ firstW ([] ++ xs) (Nat.le_refl _) first_len).2
  omega
/-- The digest of bytes. -/
def shaF (xs : List UInt8) : List UInt8 := sumF (absorb firstW xs).1 (absorb firstW xs).2 xs.length
theorem shaF_len (xs : List UInt8) : (shaF xs).length = 32 := sumF_len _ _ _
@[reducible] def sha_s : Spec where
  n := 0
  cs := []
  ar := [.lend .u8]
  pre := fun (xs, _) => xs.length ≤ 1000000000
  n' := 0
  cs' := []
  rs := [.el (.ar 32 .u8)]
  post := .fn fun (xs, _) => (shaF xs, ())
@[reducible] def sha_h : Hints := ⟨[], [], []⟩
@[reducible] noncomputable def sha_e : Env := ⟨tys, [(74, shaNew_c), (75, hwrite_s.call), (76, hsum_s.call)]⟩
set_option maxHeartbeats 1000000 in
set_option maxRecDepth 100000 in
theorem sha_d : denF sha_e sha_s sha_h Tryz.f59 := by
  intro xs
  intro hpre
  dsimp only [sha_s] at hpre
  repeat' (first | (conv => whnf); first | done | exact True.intro | refine And.intro ?_ ?_ | refine Is.mk ?_ | (intro h; cases h; done) | (intro _))
  all_goals try dsimp only [maxLen, El.ty, El.dflt] at *
  all_goals first
    | omega
    | (with_reducible exact first_len)
    | (with_reducible exact sum_len0 _)
    | (with_reducible exact rest_len0 _)
    | (with_reducible refine Or.inl ⟨rfl, rfl, ?_⟩; simp)
    | (simp only [List.length_nil]; omega)
    | (rw [Int.zero_add, List.nil_append]; rfl)
set_option maxRecDepth 100000 in
theorem sha_p : (FnIs Tryz.prog 59 ∧ FnOk Tryz.prog 59 sha_s) ∧ (idsOk sha_s.cs && idsOk sha_s.cs' && Nat.ble sha_s.n sha_s.n') = true :=
  fn_of (l := [(74, shaNew_c), (75, hwrite_s.call), (76, hsum_s.call)]) (hi := sha_h) (S := sha_s) (fn := Tryz.f59) (c := Tryz.f59.body.get!) tysOk mixOk ⟨.inl shaNew_m, .inl hwrite_m, .inl hsum_m, trivial⟩ (by kernel_rfl) (by kernel_rfl) (by kernel_rfl) (by kernel_rfl) (by kernel_rfl) sha_d
theorem sha_m : May Tryz.prog (59, sha_s.call) := may_call sha_p
theorem sha_n : May Tryz.prog (59, sha_s.callN) := may_callN sha_p

@[reducible] noncomputable def grow_c := gGrow
theorem grow_m : May Tryz.prog (60, grow_c) := grow_may
@[reducible] noncomputable def concat_c := inl ⟨tys, [(60, grow_c)]⟩ ⟨[], [], [(3, 6), (11, 6)]⟩ Tryz.f33 Tryz.f33.body.get!
theorem concat_m : May Tryz.prog (33, concat_c) :=
  may_inl tysOk mixOk ⟨.inl grow_m, trivial⟩ (by kernel_rfl) (by kernel_rfl) (by kernel_rfl) (by kernel_rfl)
/-- The link of the one ahead and bytes. -/
def linkF (prev xs : List UInt8) : List UInt8 := shaF (prev ++ be 4 (xs.length : Int) ++ xs)
@[reducible] def link_s : Spec where
  n := 0
  cs := []
  ar := [.el (.ar 32 .u8), .lend .u8]
  pre := fun (prev, xs, _) => prev.length = 32 ∧ xs.length ≤ 100000000
  n' := 0
  cs' := []
  rs := [.el (.ar 32 .u8)]
  post := .fn fun (prev, xs, _) => (linkF prev xs, ())
@[reducible] def link_h : Hints := ⟨[], [], []⟩
@[reducible] noncomputable def link_e : Env := ⟨tys, [(34, u32_s.call), (33, concat_c), (59, sha_s.call)]⟩
set_option maxHeartbeats 1000000 in
set_option maxRecDepth 100000 in
theorem link_d : denF link_e link_s link_h Tryz.f32 := by
  intro prev xs
  intro hpre
  dsimp only [link_s] at hpre
  obtain ⟨hp, hx⟩ := hpre
  repeat' (first | (conv => whnf); first | done | exact True.intro | refine And.intro ?_ ?_ | refine Is.mk ?_ | (intro h; cases h; done) | (intro _))
  all_goals try dsimp only [maxLen, El.ty, El.dflt] at *
  all_goals have e4 : IntKind.u32.wrap (xs.length : Int) = (xs.length : Int) := by rw [IntKind.wrap_u32]; omega
  all_goals try simp only [take32 hp, e4, List.nil_append, List.length_append, List.length_nil, be_length, IntKind.wrap_i64, decide_eq_true_eq, decide_eq_false_iff_not] at *
  all_goals first
    | omega
    | (exfalso; omega)
    | (with_reducible rfl)
    | (unfold linkF; rfl)
set_option maxRecDepth 100000 in
theorem link_p : (FnIs Tryz.prog 32 ∧ FnOk Tryz.prog 32 link_s) ∧ (idsOk link_s.cs && idsOk link_s.cs' && Nat.ble link_s.n link_s.n') = true :=
  fn_of (l := [(34, u32_s.call), (33, concat_c), (59, sha_s.call)]) (hi := link_h) (S := link_s) (fn := Tryz.f32) (c := Tryz.f32.body.get!) tysOk mixOk ⟨.inl u32_m, .inl concat_m, .inl sha_m, trivial⟩ (by kernel_rfl) (by kernel_rfl) (by kernel_rfl) (by kernel_rfl) (by kernel_rfl) link_d
theorem link_m : May Tryz.prog (32, link_s.call) := may_call link_p
theorem link_n : May Tryz.prog (32, link_s.callN) := may_callN link_p
end Go.J

set_option linter.unusedSimpArgs false
set_option linter.unusedVariables false
set_option linter.unusedSectionVars false
namespace Go.J
open Go.Proofs

section
attribute [local irreducible] mixW
theorem absorb_pad : ∀ (n : Nat) (s : List Int) (xs L : List UInt8), xs.length ≤ n → absorb s (padW (xs ++ [128]) ++ L) = absorb (absorb s xs).1 (padW ((absorb s xs).2 ++ [128]) ++ L) := by
  intro n
  induction n with
  | zero =>
    intro s xs L h
    rw [absorb_done (xs := xs) (by omega)]
  | succ n ih =>
    intro s xs L h
    by_cases hl : 64 ≤ xs.length
    · have e : padW (xs ++ [128]) ++ L = xs.take 64 ++ (padW (xs.drop 64 ++ [128]) ++ L) := by
        unfold padW
        simp only [List.length_append, List.length_singleton, List.length_drop]
        rw [show (120 - (xs.length - 64 + 1) % 64) % 64 = (120 - (xs.length + 1) % 64) % 64 by omega]
        simp only [← List.append_assoc, List.take_append_drop]
      have hlen : (xs.take 64).length = 64 := by rw [List.length_take]; omega
      rw [e, absorb_step (by rw [List.length_append]; omega), List.take_left' hlen, List.drop_left' hlen, absorb_step hl]
      exact ih _ _ _ (by rw [List.length_drop]; omega)
    · rw [absorb_done (xs := xs) (by omega)]
end
section
attribute [local irreducible] mixW outs
theorem sha_eq (xs : List UInt8) : shaF xs = outs (absorb firstW (padW (xs ++ [128]) ++ be 8 ((xs.length : Int) % 18446744073709551616 * 8 % 18446744073709551616))).1 8 := by
  unfold shaF sumF
  rw [absorb_pad _ firstW xs _ (Nat.le_refl _)]
end
theorem or_comm' (a b : Int) : orW a b = orW b a := by
  unfold orW
  simp [bits, Nat.or_comm]
@[reducible] def fturn_s : Spec := { sright_s with }
@[reducible] def fturn_h : Hints := ⟨[(1, (tks 0 8 (.last 8 false [] .done)))], [], []⟩
@[reducible] noncomputable def fturn_e : Env := ⟨tys, []⟩
set_option maxHeartbeats 1000000 in
set_option maxRecDepth 100000 in
theorem fturn_d : denF fturn_e fturn_s fturn_h Tryz.f71 := by
  intro x n
  repeat' (first | (conv => whnf); first | refine And.intro ?_ ?_ | refine Is.mk ?_ | (intro h; cases h; done) | (intro _))
  all_goals try dsimp only [maxLen, El.ty] at *
  all_goals try trivial
  all_goals repeat (with_reducible cases ‹_ ∧ _›)
  all_goals try subst_eqs
  all_goals try simp only [IntKind.wrap_i64, IntKind.wrap_u64, IntKind.wrap_u32, IntKind.wrap_u8, decide_eq_true_eq, decide_eq_false_iff_not, Bool.not_eq_true', Bool.not_eq_false', Bool.not_not, Bool.not_true, Bool.not_false, List.length_cons, List.length_nil, Int.toNat_natCast, UInt8.ofNat_toNat] at *
  all_goals try first | omega | (with_reducible rfl) | (with_reducible exact u8lt _)
  all_goals try omega
  have e1 : min n.toNat IntKind.u32.bits = n.toNat := by show min n.toNat 32 = _; omega
  have e2 : min (32 - n).toNat IntKind.u32.bits = 32 - n.toNat := by show min (32 - n).toNat 32 = _; omega
  have e3 : ((32 - n + 9223372036854775808) % 18446744073709551616 - 9223372036854775808) = 32 - n := by omega
  rw [e3, e1, e2]
  exact or_comm' _ _
set_option maxRecDepth 100000 in
theorem fturn_p : (FnIs Tryz.prog 71 ∧ FnOk Tryz.prog 71 fturn_s) ∧ (idsOk fturn_s.cs && idsOk fturn_s.cs' && Nat.ble fturn_s.n fturn_s.n') = true :=
  fn_of (l := []) (hi := fturn_h) (S := fturn_s) (fn := Tryz.f71) (c := Tryz.f71.body.get!) tysOk mixOk trivial (by kernel_rfl) (by kernel_rfl) (by kernel_rfl) (by kernel_rfl) (by kernel_rfl) fturn_d
theorem fturn_m : May Tryz.prog (71, fturn_s.call) := may_call fturn_p
theorem fturn_n : May Tryz.prog (71, fturn_s.callN) := may_callN fturn_p
@[reducible] def fwords_s : Spec := { words_s with }
@[reducible] def fwords_h : Hints := ⟨[], [], []⟩
@[reducible] noncomputable def fwords_e : Env := ⟨tys, []⟩
set_option maxHeartbeats 1000000 in
set_option maxRecDepth 100000 in
theorem fwords_d : denF fwords_e fwords_s fwords_h Tryz.f70 := by
  repeat' (first | (conv => whnf); first | refine And.intro ?_ ?_ | refine Is.mk ?_ | (intro h; cases h; done) | (intro _))
  all_goals try dsimp only [maxLen, El.ty] at *
  all_goals try trivial
  all_goals repeat (with_reducible cases ‹_ ∧ _›)
  all_goals try subst_eqs
  all_goals try simp only [IntKind.wrap_i64, IntKind.wrap_u64, IntKind.wrap_u32, IntKind.wrap_u8, decide_eq_true_eq, decide_eq_false_iff_not, Bool.not_eq_true', Bool.not_eq_false', Bool.not_not, Bool.not_true, Bool.not_false, List.length_cons, List.length_nil, Int.toNat_natCast, UInt8.ofNat_toNat] at *
  all_goals try first | omega | (with_reducible rfl) | (with_reducible exact u8lt _)
set_option maxRecDepth 100000 in
theorem fwords_p : (FnIs Tryz.prog 70 ∧ FnOk Tryz.prog 70 fwords_s) ∧ (idsOk fwords_s.cs && idsOk fwords_s.cs' && Nat.ble fwords_s.n fwords_s.n') = true :=
  fn_of (l := []) (hi := fwords_h) (S := fwords_s) (fn := Tryz.f70) (c := Tryz.f70.body.get!) tysOk mixOk trivial (by kernel_rfl) (by kernel_rfl) (by kernel_rfl) (by kernel_rfl) (by kernel_rfl) fwords_d
theorem fwords_m : May Tryz.prog (70, fwords_s.call) := may_call fwords_p
theorem fwords_n : May Tryz.prog (70, fwords_s.callN) := may_callN fwords_p
section
attribute [local irreducible] spread0 spread1 nextW wordW
def spreadN (xs : List UInt8) (n : Nat) : List Int := if n ≤ 16 then spread0 xs n else spread1 (spread0 xs 16) (n - 16)
theorem spreadN_len (xs : List UInt8) (n : Nat) : (spreadN xs n).length = 64 := by
  unfold spreadN
  split
  · exact spread0_len _ _
  · rw [spread1_len, spread0_len]
theorem spreadN_lo (xs : List UInt8) {n : Nat} (h : n < 16) : spreadN xs (n + 1) = wordW xs (spreadN xs n) n := by
  unfold spreadN
  rw [if_pos (by omega), if_pos (by omega), spread0_succ]
theorem spreadN_hi (xs : List UInt8) {n : Nat} (h : ¬ n < 16) : spreadN xs (n + 1) = nextW (spreadN xs n) n := by
  unfold spreadN
  rw [if_neg (by omega)]
  by_cases e : n = 16
  · subst e
    rw [if_pos (by omega)]
    have e := spread1_succ (spread0 xs 16) 0
    rw [show spread1 (spread0 xs 16) 0 = spread0 xs 16 from by unfold spread1; rfl] at e
    exact e
  · rw [if_neg (by omega), show n + 1 - 16 = (n - 16) + 1 by omega, spread1_succ, show 16 + (n - 16) = n by omega]
theorem spreadN_64 (xs : List UInt8) : spreadN xs 64 = spreadW xs := by
  unfold spreadN spreadW
  rw [if_neg (by omega)]
end
@[reducible] def w64 (x : Int) : Int := (x + 9223372036854775808) % 18446744073709551616 - 9223372036854775808
theorem spreadN_0 (xs : List UInt8) : List.replicate 64 0 = spreadN xs (Int.toNat 0) := by
  unfold spreadN
  rw [if_pos (by decide)]
  rfl
theorem outs_0 (s : List Int) : List.replicate 32 0 = outs s (Int.toNat 0) := rfl
theorem sums_0 (t s : List Int) : s = sums t s (Int.toNat 0) := rfl
theorem rounds_0 (k w t : List Int) : t = rounds k w t (Int.toNat 0) := rfl
theorem getD_cut {M : List UInt8} {a j : Nat} {d : UInt8} (h : j < 64) : (List.take 64 (List.drop a M)).getD j d = M.getD (a + j) d := by
  rw [List.getD_eq_getElem?_getD, List.getD_eq_getElem?_getD, List.getElem?_take, if_pos h, List.getElem?_drop]
theorem add_swap (a b c d : Int) : addW (addW (addW a b) c) d = addW (addW (addW a c) b) d := by
  unfold addW
  simp only [IntKind.wrap_u32]
  omega
theorem sha_lo {M : List UInt8} {a i : Int} (h64 : a % 64 = 0) (hM : M.length % 64 = 0) (a0 : 0 ≤ a) (ha : a < (M.length : Int)) (hl : M.length ≤ 2 ^ 63 - 1) (i0 : 0 ≤ i) (i1 : i < 16) :
    (spreadN (List.take 64 (List.drop a.toNat M)) i.toNat).set i.toNat (orW (orW (orW (byteL (M.getD (w64 (a + w64 (4 * i))).toNat 0) 24) (byteL (M.getD (w64 (w64 (a + w64 (4 * i)) + 1)).toNat 0) 16)) (byteL (M.getD (w64 (w64 (a + w64 (4 * i)) + 2)).toNat 0) 8)) (byteW (M.getD (w64 (w64 (a + w64 (4 * i)) + 3)).toNat 0))) =
    spreadN (List.take 64 (List.drop a.toNat M)) (w64 (i + 1)).toNat := by
  have e : w64 (a + w64 (4 * i)) = a + 4 * i := by unfold w64; omega
  rw [e, show (w64 (i + 1)).toNat = i.toNat + 1 by unfold w64; omega, spreadN_lo _ (by omega)]
  unfold wordW word4
  rw [getD_cut (by omega), getD_cut (by omega), getD_cut (by omega), getD_cut (by omega)]
  rw [show (a + 4 * i).toNat = a.toNat + 4 * i.toNat by omega, show (w64 (a + 4 * i + 1)).toNat = a.toNat + (4 * i.toNat + 1) by unfold w64; omega, show (w64 (a + 4 * i + 2)).toNat = a.toNat + (4 * i.toNat + 2) by unfold w64; omega, show (w64 (a + 4 * i + 3)).toNat = a.toNat + (4 * i.toNat + 3) by unfold w64; omega]
theorem sha_hi {X : List UInt8} {i : Int} (i0 : 0 ≤ i) (i1 : ¬ i < 16) (i2 : i < 64) :
    (spreadN X i.toNat).set i.toNat (addW (addW (addW ((spreadN X i.toNat).getD (w64 (i - 16)).toNat 0) ((spreadN X i.toNat).getD (w64 (i - 7)).toNat 0)) (xorW (xorW (rotW ((spreadN X i.toNat).getD (w64 (i - 15)).toNat 0) 7) (rotW ((spreadN X i.toNat).getD (w64 (i - 15)).toNat 0) 18)) (shrW ((spreadN X i.toNat).getD (w64 (i - 15)).toNat 0) 3))) (xorW (xorW (rotW ((spreadN X i.toNat).getD (w64 (i - 2)).toNat 0) 17) (rotW ((spreadN X i.toNat).getD (w64 (i - 2)).toNat 0) 19)) (shrW ((spreadN X i.toNat).getD (w64 (i - 2)).toNat 0) 10))) =
    spreadN X (w64 (i + 1)).toNat := by
  rw [show (w64 (i + 1)).toNat = i.toNat + 1 by unfold w64; omega, spreadN_hi _ (by omega)]
  unfold nextW
  rw [show (w64 (i - 16)).toNat = i.toNat - 16 by unfold w64; omega, show (w64 (i - 7)).toNat = i.toNat - 7 by unfold w64; omega, show (w64 (i - 15)).toNat = i.toNat - 15 by unfold w64; omega, show (w64 (i - 2)).toNat = i.toNat - 2 by unfold w64; omega, add_swap]
theorem sha_rnd (k w t : List Int) {i : Int} (i0 : 0 ≤ i) (i1 : i < 64) : roundW k w (rounds k w t i.toNat) i.toNat = rounds k w t (w64 (i + 1)).toNat := by
  rw [show (w64 (i + 1)).toNat = i.toNat + 1 by unfold w64; omega, rounds_succ]
theorem sha_sum (t s : List Int) {i : Int} (i0 : 0 ≤ i) (i1 : i < 8) : (sums t s i.toNat).set i.toNat (addW ((sums t s i.toNat).getD i.toNat 0) (t.getD i.toNat 0)) = sums t s (w64 (i + 1)).toNat := by
  rw [show (w64 (i + 1)).toNat = i.toNat + 1 by unfold w64; omega, sums_succ]
  rfl
theorem sha_out (s : List Int) {i : Int} (i0 : 0 ≤ i) (i1 : i < 8) :
    ((((outs s i.toNat).set (w64 (4 * i)).toNat (byteO (s.getD i.toNat 0) 24)).set (w64 (w64 (4 * i) + 1)).toNat (byteO (s.getD i.toNat 0) 16)).set (w64 (w64 (4 * i) + 2)).toNat (byteO (s.getD i.toNat 0) 8)).set (w64 (w64 (4 * i) + 3)).toNat (UInt8.ofNat (IntKind.u8.wrap (s.getD i.toNat 0)).toNat) = outs s (w64 (i + 1)).toNat := by
  have e : w64 (4 * i) = 4 * i := by unfold w64; omega
  rw [e, show (w64 (i + 1)).toNat = i.toNat + 1 by unfold w64; omega, outs_succ]
  unfold outW
  rw [show (4 * i).toNat = 4 * i.toNat by omega, show (w64 (4 * i + 1)).toNat = 4 * i.toNat + 1 by unfold w64; omega, show (w64 (4 * i + 2)).toNat = 4 * i.toNat + 2 by unfold w64; omega, show (w64 (4 * i + 3)).toNat = 4 * i.toNat + 3 by unfold w64; omega]
section
attribute [local irreducible] mixW spreadW rounds sums spreadN
theorem sha_step {M : List UInt8} {h F : List Int} {a i j l : Int} (h64 : a % 64 = 0) (hM : M.length % 64 = 0) (a0 : 0 ≤ a) (ha : a < (M.length : Int)) (hl : M.length ≤ 2 ^ 63 - 1) (hi : ¬ i < 64) (hi2 : i ≤ 64) (hj : ¬ j < 64) (hj2 : j ≤ 64) (hn : ¬ l < 8) (hn2 : l ≤ 8) {z : List UInt8} (hr : absorb h (List.drop a.toNat M) = absorb F z) :
    absorb (sums (rounds kW (spreadN (List.take 64 (List.drop a.toNat M)) i.toNat) h j.toNat) h l.toNat) (List.drop (w64 (a + 64)).toNat M) = absorb F z := by
  rw [← hr, absorb_step (s := h) (by rw [List.length_drop]; omega), List.drop_drop, show (w64 (a + 64)).toNat = a.toNat + 64 by unfold w64; omega]
  rw [show i.toNat = 64 by omega, show j.toNat = 64 by omega, show l.toNat = 8 by omega, spreadN_64]
  unfold mixW
  rfl
end
section
attribute [local irreducible] mixW outs padW
theorem sha_fin {xs m : List UInt8} {h : List Int} {a i : Int} (hx : xs.length ≤ 1000000000) (hp : padW m = padW ([] ++ xs ++ [UInt8.ofNat (Int.toNat 128)])) (hm : ((m.length % 64 : Nat) : Int) = 56) (a0 : 0 ≤ a)
    (ha : ¬ a < ((m ++ be 8 (IntKind.u64.wrap (8 * IntKind.u64.wrap (xs.length : Int)))).length : Int)) (hr : absorb h (List.drop a.toNat (m ++ be 8 (IntKind.u64.wrap (8 * IntKind.u64.wrap (xs.length : Int))))) = absorb firstW (List.drop (Int.toNat 0) (m ++ be 8 (IntKind.u64.wrap (8 * IntKind.u64.wrap (xs.length : Int)))))) (hi : ¬ i < 8) (hi2 : i ≤ 8) :
    outs h i.toNat = shaF xs := by
  rw [sha_eq, show i.toNat = 8 by omega]
  rw [padW_done (by omega)] at hp
  have e : IntKind.u64.wrap (8 * IntKind.u64.wrap (xs.length : Int)) = (xs.length : Int) % 18446744073709551616 * 8 % 18446744073709551616 := by
    rw [IntKind.wrap_u64, IntKind.wrap_u64]; omega
  rw [e] at hr ha
  have hd : List.drop a.toNat (m ++ be 8 ((xs.length : Int) % 18446744073709551616 * 8 % 18446744073709551616)) = [] := List.drop_of_length_le (by omega)
  have h0 : List.drop (Int.toNat 0) (m ++ be 8 ((xs.length : Int) % 18446744073709551616 * 8 % 18446744073709551616)) = m ++ be 8 ((xs.length : Int) % 18446744073709551616 * 8 % 18446744073709551616) := rfl
  rw [hd, h0, absorb_done (by decide), hp] at hr
  exact congrArg (fun p => outs p.1 8) hr
end
@[reducible] def fsha_s : Spec := { sha_s with }
@[reducible] def fshaA : Ann where
  nx := 2
  cs := [(0, .own (.el (.ar 32 .u8))), (1, .row 5 .u8)]
  ss := [(0, .lend .u8), (2, .ref 0), (3, .own 1)]
  inv := fun (_, m0, xs0, _) (_, m, xs, _) => xs = xs0 ∧ padW m = padW m0 ∧ m.length + (120 - m.length % 64) % 64 = m0.length + (120 - m0.length % 64) % 64
  mu := fun (_, m, _) => (120 - m.length % 64) % 64
@[reducible] def fshaB : Ann where
  nx := 4
  cs := [(0, .own (.el (.ar 32 .u8))), (1, .row 5 .u8), (2, .own (.el a8)), (3, .own (.el a64))]
  ss := [(2, .ref 0), (3, .own 1), (4, .ref 2), (5, .ref 3), (6, .el iE)]
  inv := fun (_, m0, h0, k0, a0, _) (_, m, h, k, a, _) => m = m0 ∧ k = k0 ∧ h.length = 8 ∧ m.length % 64 = 0 ∧ 0 ≤ a ∧ a ≤ m.length ∧ a % 64 = 0 ∧ absorb h (m.drop a.toNat) = absorb h0 (m0.drop a0.toNat)
  mu := fun (_, m, _, _, a, _) => m.length - a.toNat
@[reducible] def fshaC : Ann where
  nx := 5
  cs := [(0, .own (.el (.ar 32 .u8))), (1, .row 5 .u8), (2, .own (.el a8)), (3, .own (.el a64)), (4, .own (.el a64))]
  ss := [(2, .ref 0), (3, .own 1), (4, .ref 2), (5, .ref 3), (6, .el iE), (7, .ref 4), (8, .el iE)]
  inv := fun (_, m0, h0, k0, w0, a0, i0, _) (_, m, h, k, w, a, i, _) => m = m0 ∧ h = h0 ∧ k = k0 ∧ a = a0 ∧ 0 ≤ i ∧ i ≤ 64 ∧ w = spreadN ((m.drop a.toNat).take 64) i.toNat
  mu := fun (_, _, _, _, _, _, i, _) => (64 - i).toNat
@[reducible] def fshaD : Ann where
  nx := 6
  cs := [(0, .own (.el (.ar 32 .u8))), (1, .row 5 .u8), (2, .own (.el a8)), (3, .own (.el a64)), (4, .own (.el a64)), (5, .own (.el a8))]
  ss := [(2, .ref 0), (3, .own 1), (4, .ref 2), (5, .ref 3), (6, .el iE), (7, .ref 4), (11, .ref 5), (12, .el iE)]
  inv := fun (_, m0, h0, k0, w0, v0, a0, i0, _) (_, m, h, k, w, v, a, i, _) => m = m0 ∧ h = h0 ∧ k = k0 ∧ w = w0 ∧ a = a0 ∧ 0 ≤ i ∧ i ≤ 64 ∧ v = rounds k0 w0 v0 i.toNat
  mu := fun (_, _, _, _, _, _, _, i, _) => (64 - i).toNat
@[reducible] def fshaE : Ann where
  nx := 6
  cs := [(0, .own (.el (.ar 32 .u8))), (1, .row 5 .u8), (2, .own (.el a8)), (3, .own (.el a64)), (5, .own (.el a8))]
  ss := [(2, .ref 0), (3, .own 1), (4, .ref 2), (5, .ref 3), (6, .el iE), (11, .ref 5), (220, .el iE)]
  inv := fun (_, m0, h0, k0, v0, a0, i0, _) (_, m, h, k, v, a, i, _) => m = m0 ∧ k = k0 ∧ v = v0 ∧ a = a0 ∧ 0 ≤ i ∧ i ≤ 8 ∧ h = sums v0 h0 i.toNat
  mu := fun (_, _, _, _, _, _, i, _) => (8 - i).toNat
@[reducible] def fshaF : Ann where
  nx := 7
  cs := [(0, .own (.el (.ar 32 .u8))), (6, .own (.el (.ar 32 .u8)))]
  ss := [(2, .ref 0), (16, .ref 6), (233, .el a8), (234, .el iE)]
  inv := fun (_, _, t0, _, _) (_, o, t, i, _) => t = t0 ∧ 0 ≤ i ∧ i ≤ 8 ∧ o = outs t0 i.toNat
  mu := fun (_, _, _, i, _) => (8 - i).toNat
attribute [local irreducible] spreadN rounds sums outs padW mixW shaF
@[reducible] def fsha_h : Hints := ⟨[(15, (tks 0 43 (.last 43 false [] .done))), (16, (tks 0 8 (.last 8 false [6, 7] (.last 9 false [] .done)))), (17, (tks 0 11 (.take 12 false (tks 15 2 (.take 19 false (.take 21 false (tks 24 2 (.last 11 false [3, 4, 7, 8] (.last 13 false [3, 4, 7, 8] (.take 14 false (tks 17 2 (.last 20 false [3, 4, 7, 8] (.last 22 false [3, 4, 7, 8] (.take 23 false (tks 26 3 (.last 29 false [] .done)))))))))))))))), (22, (tks 0 4 (tks 5 2 (tks 9 2 (tks 14 12 (tks 27 3 (tks 31 3 (.last 4 false [0, 1, 5, 6, 9, 10, 14, 15, 16, 17, 19, 20, 22, 23, 28, 29, 32, 33] (.last 7 false [0, 1, 9, 10, 14, 15, 16, 17, 19, 20, 22, 23, 28, 29, 32, 33] (.take 8 false (.last 11 false [0, 1, 14, 15, 16, 17, 19, 20, 22, 23, 28, 29, 32, 33] (tks 12 2 (.take 26 false (.take 30 false (.take 34 false (.last 35 false [] .done)))))))))))))))), (23, (tks 0 2 (tks 3 2 (tks 7 2 (tks 11 17 (.last 2 false [3, 4, 7, 8, 11, 12, 13, 14, 16, 17, 18, 19, 22, 23, 24, 25] (.last 5 false [7, 8, 11, 12, 13, 14, 16, 17, 18, 19, 22, 23, 24, 25] (.take 6 false (.last 9 false [11, 12, 13, 14, 16, 17, 18, 19, 22, 23, 24, 25] (.take 10 false (.take 28 false (.last 29 false [] .done)))))))))))), (28, (tks 0 9 (.last 9 false [] .done)))], [(2, fshaA), (8, fshaB), (12, fshaC), (20, fshaD), (26, fshaE), (32, fshaF)], []⟩
@[reducible] noncomputable def fsha_e : Env := ⟨tys, [(38, fu64_s.call), (70, fwords_s.call), (71, fturn_s.call)]⟩
set_option maxHeartbeats 8000000 in
set_option maxRecDepth 100000 in
theorem fsha_d : denF fsha_e fsha_s fsha_h Tryz.f56 := by
  intro xs
  intro hpre
  dsimp only [fsha_s] at hpre
  repeat' (first | (conv => whnf); first | done | exact True.intro | refine And.intro ?_ ?_ | refine Is.mk ?_ | (intro h; cases h; done) | (intro _))
  all_goals try dsimp only [maxLen, El.ty, El.dflt, fshaA, fshaB, fshaC, fshaD, fshaE, fshaF] at *
  all_goals try (with_reducible rfl)
  all_goals try (with_reducible decide)
  all_goals repeat (with_reducible cases ‹_ ∧ _›)
  all_goals try subst_vars
  all_goals try (with_reducible rfl)
  all_goals try (with_reducible assumption)
  all_goals try simp only [tm64, spreadN_len, sums_len, IntKind.wrap_i64, decide_eq_true_eq, decide_eq_false_iff_not, Bool.not_eq_true', Bool.not_eq_false'] at *
  all_goals try omega
  all_goals try (rw [rounds_len _ _ _ (by assumption)]; first | omega | decide)
  all_goals try with_reducible exact (byte_in _).1
  all_goals try with_reducible exact (byte_in _).2
  all_goals try (rw [show kW.length = 64 from rfl]; omega)
  all_goals try (rw [padW_step (by omega)]; assumption)
  all_goals try with_reducible exact spreadN_0 _
  all_goals try with_reducible exact outs_0 _
  all_goals try with_reducible exact sums_0 _ _
  all_goals try with_reducible exact rounds_0 _ _ _
  all_goals try (refine Eq.trans ?_ (sha_rnd _ _ _ (by assumption) (by assumption)); generalize rounds _ _ _ _ = t; rfl)
  all_goals try exact sha_sum _ _ (by assumption) (by assumption)
  all_goals try exact sha_out _ (by assumption) (by assumption)
  all_goals try exact sha_lo (by assumption) (by assumption) (by assumption) (by assumption) (by assumption) (by assumption) (by assumption)
  all_goals try exact sha_hi (by assumption) (by assumption) (by assumption)
  all_goals try exact sha_step (by assumption) (by assumption) (by assumption) (by assumption) (by assumption) (by assumption) (by assumption) (by assumption) (by assumption) (by assumption) (by assumption) (by assumption)
  all_goals try exact sha_fin (by assumption) (by assumption) (by assumption) (by assumption) (by assumption) (by assumption) (by assumption) (by assumption)
  all_goals try (simp only [List.length_append, be_length, List.length_cons, List.length_nil, List.length_set, outs_len] at *; omega)
  all_goals (rw [IntKind.wrap_u64]; omega)
set_option maxRecDepth 100000 in
theorem fsha_p : (FnIs Tryz.prog 56 ∧ FnOk Tryz.prog 56 fsha_s) ∧ (idsOk fsha_s.cs && idsOk fsha_s.cs' && Nat.ble fsha_s.n fsha_s.n') = true :=
  fn_of (l := [(38, fu64_s.call), (70, fwords_s.call), (71, fturn_s.call)]) (hi := fsha_h) (S := fsha_s) (fn := Tryz.f56) (c := Tryz.f56.body.get!) tysOk mixOk ⟨.inl fu64_m, .inl fwords_m, .inl fturn_m, trivial⟩ (by kernel_rfl) (by kernel_rfl) (by kernel_rfl) (by kernel_rfl) (by kernel_rfl) fsha_d
theorem fsha_m : May Tryz.prog (56, fsha_s.call) := may_call fsha_p
theorem fsha_n : May Tryz.prog (56, fsha_s.callN) := may_callN fsha_p
end Go.J

set_option linter.unusedSimpArgs false
set_option linter.unusedVariables false
set_option linter.unusedSectionVars false
namespace Go.J
open Go.Proofs

/-- A function that meets a contract meets a weaker one. -/
theorem FnOk.weak {P : Program} {f : FuncId} {S : Spec} {q : PostK (Gh S.cs S.ar) (Gh S.cs' S.rs)} (h : FnOk P f S) (hw : ∀ x y, S.Post x y → Spec.Post { S with post := q } x y) : FnOk P f { S with post := q } := by
  intro w0 F0 G x vs hm hf hp
  refine Calls.mono (h w0 F0 G x vs hm hf hp) ?_
  rintro e w' ⟨rs, y, G', e1, e2, e3, e4, e5, e6⟩
  exact ⟨rs, y, G', e1, e2, e3, e4, e5, hw _ _ e6⟩
theorem weak_p {P : Program} {f : FuncId} {S : Spec} {q : PostK (Gh S.cs S.ar) (Gh S.cs' S.rs)} (h : (FnIs P f ∧ FnOk P f S) ∧ (idsOk S.cs && idsOk S.cs' && Nat.ble S.n S.n') = true) (hw : ∀ x y, S.Post x y → Spec.Post { S with post := q } x y) :
    (FnIs P f ∧ FnOk P f { S with post := q }) ∧ (idsOk S.cs && idsOk S.cs' && Nat.ble S.n S.n') = true := ⟨⟨h.1.1, h.1.2.weak hw⟩, h.2⟩

/-- The number that so many bytes from a place on tell. -/
def rv (xs : List UInt8) (o n : Nat) : Int := fb ((xs.drop o).take n)
/-- A number of n bytes is read. -/
structure Rd (xs : List UInt8) (at_ : Int) (bad : Bool) (n : Nat) (at' : Int) (bad' : Bool) (v : Int) : Prop where
  a : at' = adv xs at_ bad n
  b : bad' = !rdOk xs at_ bad n
  v : v = fb (tk xs at_ bad n)
theorem Rd.back {xs : List UInt8} {at_ at' v : Int} {bad : Bool} {n : Nat} (h : Rd xs at_ bad n at' false v) : bad = false ∧ at' = at_ + n ∧ at_ + n ≤ xs.length ∧ v = rv xs at_.toNat n := by
  have hb : rdOk xs at_ bad n = true := by have := h.b; simpa using this.symm
  have h2 := hb
  simp only [rdOk, Bool.and_eq_true, Bool.not_eq_true', decide_eq_true_eq] at h2
  refine ⟨h2.1, ?_, h2.2, ?_⟩
  · rw [h.a]; unfold adv; rw [if_pos hb]
  · rw [h.v]; unfold tk rv; rw [if_pos hb]; rfl
theorem Rd.fwd {xs : List UInt8} {at_ at' v : Int} {bad' : Bool} {n : Nat} (h : Rd xs at_ false n at' bad' v) (hl : at_ + n ≤ xs.length) : bad' = false ∧ at' = at_ + n ∧ v = rv xs at_.toNat n := by
  have hb : rdOk xs at_ false n = true := by simp [rdOk]; omega
  refine ⟨?_, ?_, ?_⟩
  · rw [h.b, hb]; rfl
  · rw [h.a]; unfold adv; rw [if_pos hb]
  · rw [h.v]; unfold tk rv; rw [if_pos hb]; rfl
theorem Rd.fwd1 {xs : List UInt8} {at_ at' v : Int} {bad' : Bool} (h : Rd xs at_ false 1 at' bad' v) (hl : at_ + 1 ≤ xs.length) : bad' = false ∧ at' = at_ + 1 ∧ v = rv xs at_.toNat 1 := h.fwd hl
theorem Rd.fwd4 {xs : List UInt8} {at_ at' v : Int} {bad' : Bool} (h : Rd xs at_ false 4 at' bad' v) (hl : at_ + 4 ≤ xs.length) : bad' = false ∧ at' = at_ + 4 ∧ v = rv xs at_.toNat 4 := h.fwd hl
theorem Rd.back1 {xs : List UInt8} {at_ at' v : Int} {bad : Bool} (h : Rd xs at_ bad 1 at' false v) : bad = false ∧ at' = at_ + 1 ∧ at_ + 1 ≤ xs.length := ⟨h.back.1, h.back.2.1, h.back.2.2.1⟩
theorem Rd.back4 {xs : List UInt8} {at_ at' v : Int} {bad : Bool} (h : Rd xs at_ bad 4 at' false v) : bad = false ∧ at' = at_ + 4 ∧ at_ + 4 ≤ xs.length := ⟨h.back.1, h.back.2.1, h.back.2.2.1⟩
theorem Rd.back1' {xs : List UInt8} {at_ at' v : Int} {bad : Bool} (h : Rd xs at_ bad 1 at' false v) : bad = false ∧ at' = at_ + 1 ∧ at_ + 1 ≤ xs.length ∧ v = rv xs at_.toNat 1 := h.back
theorem Rd.back4' {xs : List UInt8} {at_ at' v : Int} {bad : Bool} (h : Rd xs at_ bad 4 at' false v) : bad = false ∧ at' = at_ + 4 ∧ at_ + 4 ≤ xs.length ∧ v = rv xs at_.toNat 4 := h.back
theorem wrap_rv4 (xs : List UInt8) (o : Nat) : IntKind.i64.wrap (rv xs o 4) = rv xs o 4 := by
  have h1 := fb4 xs o false
  have h2 : 0 ≤ rv xs o 4 ∧ rv xs o 4 < 4294967296 := by
    unfold rv
    have h3 := fb_lt ((xs.drop o).take 4)
    refine ⟨h3.1, Int.lt_of_lt_of_le h3.2 ?_⟩
    have h4 : ((xs.drop o).take 4).length ≤ 4 := by rw [List.length_take]; omega
    have h5 : 256 ^ ((xs.drop o).take 4).length ≤ 256 ^ 4 := Nat.pow_le_pow_right (by decide) h4
    have h6 : ((256 ^ ((xs.drop o).take 4).length : Nat) : Int) = 256 ^ ((xs.drop o).take 4).length := Int.natCast_pow 256 _
    rw [← h6]
    exact Int.ofNat_le.2 (Nat.le_trans h5 (by decide))
  rw [IntKind.wrap_i64]
  omega
theorem Rd.in {xs : List UInt8} {at_ at' v : Int} {bad bad' : Bool} {n : Nat} (h : Rd xs at_ bad n at' bad' v) (h0 : 0 ≤ at_ ∧ at_ ≤ xs.length) : 0 ≤ at' ∧ at' ≤ xs.length := by
  rw [h.a]; exact adv_in xs at_ bad n h0 (by omega)
theorem Rd.first {xs : List UInt8} {at' v : Int} {bad' : Bool} (h : Rd xs 0 false 1 at' bad' v) : v = rv xs 0 1 := by
  rw [h.v]
  unfold tk rv rdOk
  cases xs with
  | nil => rfl
  | cons x xs => rw [if_pos (by rw [Bool.not_false, Bool.true_and, decide_eq_true_eq, List.length_cons]; omega)]; rfl
theorem Rd.lt {xs : List UInt8} {at_ at' v : Int} {bad bad' : Bool} {n : Nat} (h : Rd xs at_ bad n at' bad' v) : 0 ≤ v ∧ v < ((256 ^ n : Nat) : Int) := by
  rw [h.v]
  have := fb_tk_lt xs at_ bad n
  simpa using this
theorem in_l {a n : Int} (h : 0 ≤ a ∧ a ≤ n) : 0 ≤ a := h.1
theorem in_r {a n : Int} (h : 0 ≤ a ∧ a ≤ n) : a ≤ n := h.2
theorem in_z (xs : List UInt8) : (0 : Int) ≤ 0 ∧ (0 : Int) ≤ ((xs.length : Nat) : Int) := ⟨Int.le_refl _, Int.natCast_nonneg _⟩
/-- A digest is read. -/
structure RdS (xs : List UInt8) (at_ : Int) (bad : Bool) (at' : Int) (bad' : Bool) (v : List UInt8) : Prop where
  a : at' = adv xs at_ bad 32
  b : bad' = !rdOk xs at_ bad 32
  v : v = sumv xs at_ bad
theorem RdS.back {xs : List UInt8} {at_ at' : Int} {v : List UInt8} {bad : Bool} (h : RdS xs at_ bad at' false v) : bad = false ∧ at' = at_ + 32 ∧ at_ + 32 ≤ xs.length ∧ v = (xs.drop at_.toNat).take 32 := by
  have hb : rdOk xs at_ bad 32 = true := by have := h.b; simpa using this.symm
  have h2 := hb
  simp only [rdOk, Bool.and_eq_true, Bool.not_eq_true', decide_eq_true_eq] at h2
  refine ⟨h2.1, ?_, h2.2, ?_⟩
  · rw [h.a]; unfold adv; rw [if_pos hb]
  · rw [h.v]; unfold sumv; rw [if_pos hb]
theorem RdS.fwd {xs : List UInt8} {at_ at' : Int} {v : List UInt8} {bad' : Bool} (h : RdS xs at_ false at' bad' v) (hl : at_ + 32 ≤ xs.length) : bad' = false ∧ at' = at_ + 32 ∧ v = (xs.drop at_.toNat).take 32 := by
  have hb : rdOk xs at_ false 32 = true := by simp [rdOk]; omega
  refine ⟨?_, ?_, ?_⟩
  · rw [h.b, hb]; rfl
  · rw [h.a]; unfold adv; rw [if_pos hb]
  · rw [h.v]; unfold sumv; rw [if_pos hb]
theorem RdS.in {xs : List UInt8} {at_ at' : Int} {v : List UInt8} {bad bad' : Bool} (h : RdS xs at_ bad at' bad' v) (h0 : 0 ≤ at_ ∧ at_ ≤ xs.length) : 0 ≤ at' ∧ at' ≤ xs.length := by
  rw [h.a]; exact adv_in xs at_ bad 32 h0 (by omega)
theorem RdS.len {xs : List UInt8} {at_ at' : Int} {v : List UInt8} {bad bad' : Bool} (h : RdS xs at_ bad at' bad' v) (h0 : 0 ≤ at_) : v.length = 32 := by
  rw [h.v]
  unfold sumv
  split
  · next hb =>
    simp only [rdOk, Bool.and_eq_true, Bool.not_eq_true', decide_eq_true_eq] at hb
    simp only [List.length_take, List.length_drop]; omega
  · simp

@[reducible] def rr (n : Nat) (k : IntKind) : PostK (Gh [(0, .own rdr)] [.ref 0]) (Gh [(0, .own rdr)] [.el (.int k)]) := .rel fun (xs, at_, bad, _) (xs', at', bad', v, _) => xs' = xs ∧ Rd xs at_ bad n at' bad' v
@[reducible] def ru8r_s : Spec := { ru8_s with post := rr 1 .i64 }
theorem ru8r_m : May Tryz.prog (42, ru8r_s.call) := may_call (weak_p (q := rr 1 .i64) ru8_p fun x y h => by
  obtain ⟨xs, at_, bad, _⟩ := x; cases h; exact ⟨rfl, rfl, rfl, rfl⟩)
@[reducible] def ru32r_s : Spec := { ru32_s with post := rr 4 .u32 }
theorem ru32r_m : May Tryz.prog (54, ru32r_s.call) := may_call (weak_p (q := rr 4 .u32) ru32_p fun x y h => by
  obtain ⟨xs, at_, bad, _⟩ := x; cases h; exact ⟨rfl, rfl, rfl, rfl⟩)
@[reducible] def rrs : PostK (Gh [(0, .own rdr)] [.ref 0]) (Gh [(0, .own rdr)] [.el (.ar 32 .u8)]) := .rel fun (xs, at_, bad, _) (xs', at', bad', v, _) => xs' = xs ∧ RdS xs at_ bad at' bad' v
@[reducible] def rsumr_s : Spec := { rsum_s with post := rrs }
theorem rsumr_m : May Tryz.prog (65, rsumr_s.call) := may_call (weak_p (q := rrs) rsum_p fun x y h => by
  obtain ⟨xs, at_, bad, _⟩ := x; cases h; exact ⟨rfl, rfl, rfl, rfl⟩)
@[reducible] def fru8r_s : Spec := { fru8_s with post := rr 1 .i64 }
theorem fru8r_m : May Tryz.prog (48, fru8r_s.call) := may_call (weak_p (q := rr 1 .i64) fru8_p fun x y h => by
  obtain ⟨xs, at_, bad, _⟩ := x; cases h; exact ⟨rfl, rfl, rfl, rfl⟩)
@[reducible] def fru32r_s : Spec := { fru32_s with post := rr 4 .u32 }
theorem fru32r_m : May Tryz.prog (27, fru32r_s.call) := may_call (weak_p (q := rr 4 .u32) fru32_p fun x y h => by
  obtain ⟨xs, at_, bad, _⟩ := x; cases h; exact ⟨rfl, rfl, rfl, rfl⟩)
@[reducible] def frsumr_s : Spec := { frsum_s with post := rrs }
theorem frsumr_m : May Tryz.prog (28, frsumr_s.call) := may_call (weak_p (q := rrs) frsum_p fun x y h => by
  obtain ⟨xs, at_, bad, _⟩ := x; cases h; exact ⟨rfl, rfl, rfl, rfl⟩)

end Go.J

set_option linter.unusedSimpArgs false
set_option linter.unusedVariables false
set_option linter.unusedSectionVars false
namespace Go.J
open Go.Proofs

def rightC : cmdE.ty → Bool := fun (k, seq, tr, inst, id, side, ord, pr, q, sh, st, wh, a, b, tag, _) => rightF k seq tr inst id side ord pr q sh st wh a b tag
def noTag : List UInt8 := List.replicate 32 0
def zeroC : cmdE.ty := (0, 0, 0, 0, 0, 0, 0, 0, 0, 0, 0, 0, 0, 0, noTag, ())
/-- How long a command's bytes are. -/
def lenK (k : Int) : Int :=
  if k = 1 then 2 else if k = 2 then 33 else if k = 3 then 28 else if k = 4 then 11 else if k = 5 then 18 else if k = 6 then 7 else if k = 7 then 1 else if k = 8 then 1 else if k = 9 then 8 else -1
/-- What bytes of the right length tell. -/
def decC (xs : List UInt8) (k : Int) : cmdE.ty :=
  if k = 1 then (k, 0, rv xs 1 1, 0, 0, 0, 0, 0, 0, 0, 0, 0, 0, 0, noTag, ())
  else if k = 2 then (k, 0, 0, 0, 0, 0, 0, 0, 0, 0, 0, 0, 0, 0, (xs.drop 1).take 32, ())
  else if k = 3 then (k, rv xs 1 4, 0, rv xs 5 1, rv xs 6 4, rv xs 10 1, rv xs 11 1, rv xs 12 4, rv xs 16 4, rv xs 20 4, rv xs 24 4, 0, 0, 0, noTag, ())
  else if k = 4 then (k, rv xs 1 4, rv xs 10 1, rv xs 5 1, rv xs 6 4, 0, 0, 0, 0, 0, 0, 0, 0, 0, noTag, ())
  else if k = 5 then (k, rv xs 1 4, 0, rv xs 5 1, rv xs 6 4, 0, 0, rv xs 10 4, rv xs 14 4, 0, 0, 0, 0, 0, noTag, ())
  else if k = 6 then (k, rv xs 1 4, 0, rv xs 5 1, 0, 0, 0, 0, 0, 0, 0, rv xs 6 1, 0, 0, noTag, ())
  else if k = 9 then (k, rv xs 1 4, 0, 0, 0, 0, 0, 0, 0, 0, 0, rv xs 5 1, rv xs 6 1, rv xs 7 1, noTag, ())
  else (k, 0, 0, 0, 0, 0, 0, 0, 0, 0, 0, 0, 0, 0, noTag, ())
def getF (xs : List UInt8) : cmdE.ty × Bool :=
  if (xs.length : Int) = lenK (rv xs 0 1) ∧ rightC (decC xs (rv xs 0 1)) = true then (decC xs (rv xs 0 1), true) else (zeroC, false)

@[reducible] def get_s : Spec where
  n := 0
  cs := []
  ar := [.el (.rd .u8)]
  pre := fun (xs, _) => xs.length ≤ 1000000000000
  n' := 0
  cs' := []
  rs := [.el cmdE, .el .bool]
  post := .fn fun (xs, _) => ((getF xs).1, (getF xs).2, ())
theorem get_cases {xs : List UInt8} {k : Int} (h : k = rv xs 0 1) : ((xs.length : Int) = lenK k ∧ getF xs = if rightC (decC xs k) = true then (decC xs k, true) else (zeroC, false)) ∨ ((xs.length : Int) ≠ lenK k ∧ getF xs = (zeroC, false)) := by
  unfold getF
  rw [← h]
  by_cases hl : (xs.length : Int) = lenK k
  · left
    refine ⟨hl, ?_⟩
    by_cases hr : rightC (decC xs k) = true
    · rw [if_pos ⟨hl, hr⟩, if_pos hr]
    · rw [if_neg (fun e => hr e.2), if_neg hr]
  · right
    exact ⟨hl, if_neg (fun e => hl e.1)⟩
theorem end_no {bad : Bool} {at_ n : Int} (h : (!(!bad && decide (at_ = n))) = true) (hb : bad = false) : at_ ≠ n := by
  subst hb; simpa using h
theorem end_yes {bad : Bool} {at_ n : Int} (h : (!(!bad && decide (at_ = n))) = false) : bad = false ∧ at_ = n := by
  simpa using h

theorem zero_fst : (0, 0, 0, 0, 0, 0, 0, 0, 0, 0, 0, 0, 0, 0, List.replicate 32 El.u8.dflt, ()) = (zeroC, false).1 := rfl
theorem tag0 : List.replicate 32 El.u8.dflt = noTag := rfl
theorem not_t {b : Bool} (h : (!b) = true) : b = false := by simpa using h
theorem not_f {b : Bool} (h : (!b) = false) : b = true := by simpa using h
theorem fin_no1 {b : Bool} {x : cmdE.ty × Bool} (h : (!b) = true) : zeroC = (if b = true then x else (zeroC, false)).1 := by rw [not_t h]; rfl
theorem fin_no2 {b : Bool} {x : cmdE.ty × Bool} (h : (!b) = true) : false = (if b = true then x else (zeroC, false)).2 := by rw [not_t h]; rfl
theorem fin_yes1 {b : Bool} {x : cmdE.ty} {z : cmdE.ty × Bool} (h : (!b) = false) : x = (if b = true then (x, true) else z).1 := by rw [not_f h]; rfl
theorem fin_yes2 {b : Bool} {x : cmdE.ty} {z : cmdE.ty × Bool} (h : (!b) = false) : true = (if b = true then (x, true) else z).2 := by rw [not_f h]; rfl
theorem get_other {xs : List UInt8} {k : Int} (h : k = rv xs 0 1) (h1 : decide (k = 1) = false) (h2 : decide (k = 2) = false) (h3 : decide (k = 3) = false) (h4 : decide (k = 4) = false) (h5 : decide (k = 5) = false) (h6 : decide (k = 6) = false) (h7 : decide (k = 7) = false) (h8 : decide (k = 8) = false) (h9 : decide (k = 9) = false) : getF xs = (zeroC, false) := by
  rcases get_cases h with ⟨hl, _⟩ | ⟨_, hg⟩
  · exfalso
    simp only [decide_eq_false_iff_not] at h1 h2 h3 h4 h5 h6 h7 h8 h9
    simp only [lenK, h1, h2, h3, h4, h5, h6, h7, h8, h9, if_false] at hl
    omega
  · exact hg
theorem other_no {k seq tr inst id side ord pr q sh st wh a b : Int} {tag : List UInt8} (h : (!rightF k seq tr inst id side ord pr q sh st wh a b tag) = false) (h1 : decide (k = 1) = false) (h2 : decide (k = 2) = false) (h3 : decide (k = 3) = false) (h4 : decide (k = 4) = false) (h5 : decide (k = 5) = false) (h6 : decide (k = 6) = false) (h7 : decide (k = 7) = false) (h8 : decide (k = 8) = false) (h9 : decide (k = 9) = false) : False := by
  simp only [decide_eq_false_iff_not] at h1 h2 h3 h4 h5 h6 h7 h8 h9
  simp [rightF, h1, h2, h3, h4, h5, h6, h7, h8, h9] at h

@[reducible] def get_h : Hints := ⟨[(8, (tks 0 3 (.last 3 false [1] (.take 4 false (.last 5 false [] .done))))), (9, (tks 0 3 (.last 3 false [1] (tks 4 2 (.last 6 false [] .done)))))], [], [(5, 10)]⟩
@[reducible] noncomputable def get_e : Env := ⟨tys, [(41, read_s.call), (42, ru8r_s.call), (58, fields_c), (54, ru32r_s.call), (65, rsumr_s.call), (66, rend_s.call), (31, right_s.call)]⟩
set_option maxHeartbeats 1000000 in
set_option maxRecDepth 100000 in
theorem get_d : denF get_e get_s get_h Tryz.f45 := by
  intro xs
  intro hpre
  repeat' (first | (conv => whnf); first | refine And.intro ?_ ?_ | refine Is.mk ?_ | (intro h; cases h; done) | (intro h; obtain rfl := of_decide_eq_true h) | (intro _))
  all_goals try dsimp only [maxLen, El.ty] at *
  all_goals try trivial
  all_goals repeat (with_reducible cases ‹_ ∧ _›)
  all_goals try subst_vars
  all_goals try ((with_reducible apply in_l); (repeat (first | with_reducible refine Rd.in (by assumption) ?_ | with_reducible refine RdS.in (by assumption) ?_)); (with_reducible exact in_z _))
  all_goals try ((with_reducible apply in_r); (repeat (first | with_reducible refine Rd.in (by assumption) ?_ | with_reducible refine RdS.in (by assumption) ?_)); (with_reducible exact in_z _))
  all_goals try (with_reducible apply List.length_replicate)
  all_goals try ((with_reducible exact RdS.len (by assumption) (in_l (n := ((List.length (α := UInt8) _ : Nat) : Int)) (Rd.in (by assumption) (in_z _)))))
  all_goals try (with_reducible rename (!rightF _ _ _ _ _ _ _ _ _ _ _ _ _ _ _) = _ => h9)
  all_goals try ((with_reducible have hn := other_no h9 (by assumption) (by assumption) (by assumption) (by assumption) (by assumption) (by assumption) (by assumption) (by assumption) (by assumption)); (exact hn.elim))
  all_goals try (with_reducible rename Rd _ 0 false 1 _ _ _ => h1)
  all_goals try ((with_reducible have hg := get_other h1.first (by assumption) (by assumption) (by assumption) (by assumption) (by assumption) (by assumption) (by assumption) (by assumption) (by assumption)); (with_reducible rw [hg]); (try (with_reducible exact zero_fst)); done)
  all_goals try ((with_reducible have hg := get_cases h1.first); (with_reducible rcases hg with ⟨hL, hg⟩ | ⟨hL, hg⟩); all_goals (with_reducible rw [hg]); all_goals clear hg; all_goals (simp only [lenK, Int.reduceEq, reduceIte] at hL))
  all_goals try (with_reducible rename (!(!_ && decide (_ = _))) = _ => hE)
  all_goals try (with_reducible exact (rfl : false = (zeroC, false).2))
  all_goals try (with_reducible exact (zero_fst : _ = (zeroC, false).1))
  all_goals try ((with_reducible obtain ⟨rfl, hat⟩ := end_yes hE); (repeat (first | ((with_reducible rename Rd _ _ _ _ _ false _ => hR); (first | (with_reducible obtain ⟨rfl, rfl, hz, rfl⟩ := hR.back1'); (clear hR) | (with_reducible obtain ⟨rfl, rfl, hz, rfl⟩ := hR.back4'); (clear hR) | (with_reducible obtain ⟨_, rfl, hz, _⟩ := hR.back1'); (clear hR))) | ((with_reducible rename RdS _ _ _ _ false _ => hR); (with_reducible obtain ⟨rfl, rfl, hz, rfl⟩ := hR.back); (clear hR)))); exfalso; omega)
  all_goals try (repeat (first | ((with_reducible rename Rd _ _ false _ _ _ _ => hR); (first | (with_reducible obtain ⟨rfl, rfl, rfl⟩ := hR.fwd1 (by omega)); (clear hR) | (with_reducible obtain ⟨rfl, rfl, rfl⟩ := hR.fwd4 (by omega)); (clear hR) | (with_reducible obtain ⟨rfl, rfl, _⟩ := hR.fwd1 (by omega)); (clear hR))) | ((with_reducible rename RdS _ _ false _ _ _ => hR); (with_reducible obtain ⟨rfl, rfl, rfl⟩ := hR.fwd (by omega)); (clear hR))))
  all_goals try (have hn := end_no hE rfl; exfalso; omega)
  all_goals try (simp only [decC, rightC, Int.reduceEq, reduceIte, wrap_rv4, Int.reduceAdd, Int.reduceToNat] at h9 ⊢)
  all_goals try (first | exact fin_no1 h9 | exact fin_no2 h9 | exact fin_yes1 h9 | exact fin_yes2 h9)
set_option maxRecDepth 100000 in
theorem get_p : (FnIs Tryz.prog 45 ∧ FnOk Tryz.prog 45 get_s) ∧ (idsOk get_s.cs && idsOk get_s.cs' && Nat.ble get_s.n get_s.n') = true :=
  fn_of (l := [(41, read_s.call), (42, ru8r_s.call), (58, fields_c), (54, ru32r_s.call), (65, rsumr_s.call), (66, rend_s.call), (31, right_s.call)]) (hi := get_h) (S := get_s) (fn := Tryz.f45) (c := Tryz.f45.body.get!) tysOk mixOk ⟨.inl read_m, .inl ru8r_m, .inl fields_m, .inl ru32r_m, .inl rsumr_m, .inl rend_m, .inl right_m, trivial⟩ (by kernel_rfl) (by kernel_rfl) (by kernel_rfl) (by kernel_rfl) (by kernel_rfl) get_d
theorem get_m : May Tryz.prog (45, get_s.call) := may_call get_p
theorem get_n : May Tryz.prog (45, get_s.callN) := may_callN get_p

end Go.J

set_option linter.unusedSimpArgs false
set_option linter.unusedVariables false
set_option linter.unusedSectionVars false
namespace Go.J
open Go.Proofs

@[reducible] def noteE : El := .cons iE (.cons iE (.cons iE (.cons iE (.cons iE (.cons iE (.cons iE (.cons iE (.cons iE (.cons iE (.cons (.ar 32 .u8) .nil))))))))))
def noteF (k err seq inst id no side pr q left : Int) (sum : List UInt8) : List UInt8 :=
  if k = 1 then be 1 k ++ sum
  else if k = 2 then be 1 k
  else if k = 3 then be 1 k ++ be 4 seq
  else if k = 4 then be 1 k ++ be 4 seq ++ be 1 err
  else if k = 5 then be 1 k ++ be 1 inst ++ be 4 id ++ be 4 no ++ be 4 pr ++ be 4 q ++ be 4 left
  else if k = 6 then be 1 k ++ be 1 inst ++ be 4 id ++ be 4 left
  else if k = 7 then be 1 k ++ be 1 inst ++ be 4 no ++ be 4 pr ++ be 4 q
  else if k = 8 then be 1 k ++ be 1 inst ++ be 1 side ++ be 4 pr ++ be 4 q
  else if k = 9 then be 1 k
  else []
@[reducible] def fit64 (n : Int) : Prop := -9223372036854775808 ≤ n ∧ n ≤ 9223372036854775807
@[reducible] def noteFit : noteE.ty → Prop := fun (k, err, seq, inst, id, no, side, pr, q, left, sum, _) => sum.length = 32 ∧ fit64 k ∧ fit64 err ∧ fit64 seq ∧ fit64 inst ∧ fit64 id ∧ fit64 no ∧ fit64 side ∧ fit64 pr ∧ fit64 q ∧ fit64 left
@[reducible] def note_s : Spec where
  n := 0
  cs := []
  ar := [.el noteE]
  pre := fun (c, _) => noteFit c
  n' := 1
  cs' := [(0, .row 5 .u8)]
  rs := [.own 0]
  post := .fn fun ((k, err, seq, inst, id, no, side, pr, q, left, sum, _), _) => (noteF k err seq inst id no side pr q left sum, ())

end Go.J

set_option linter.unusedSimpArgs false
set_option linter.unusedVariables false
set_option linter.unusedSectionVars false
namespace Go.J
open Go.Proofs

@[reducible] def refin_s : Spec where
  n := 0
  cs := []
  ar := [.el iE, .el iE, .el iE]
  pre := fun _ => True
  n' := 0
  cs' := []
  rs := [.el .bool]
  post := .fn fun (n, lo, hi, _) => (w1 lo hi n, ())
@[reducible] def refin_h : Hints := ⟨[], [], []⟩
@[reducible] noncomputable def refin_e : Env := ⟨tys, []⟩
set_option maxHeartbeats 1000000 in
set_option maxRecDepth 100000 in
theorem refin_d : denF refin_e refin_s refin_h Tryz.f57 := by
  intro n lo hi
  repeat' (first | (conv => whnf); first | refine And.intro ?_ ?_ | refine Is.mk ?_ | (intro h; cases h; done) | (intro _))
  all_goals try dsimp only [maxLen, El.ty] at *
  all_goals try trivial
  all_goals repeat (with_reducible cases ‹_ ∧ _›)
  all_goals try subst_eqs
  all_goals try simp only [IntKind.wrap_i64, IntKind.wrap_u64, IntKind.wrap_u32, IntKind.wrap_u8, decide_eq_true_eq, decide_eq_false_iff_not, Bool.not_eq_true', Bool.not_eq_false', Bool.not_not, Bool.not_true, Bool.not_false, List.length_cons, List.length_nil, Int.toNat_natCast, UInt8.ofNat_toNat] at *
  all_goals try first | omega | (with_reducible rfl) | (with_reducible exact u8lt _)
  all_goals simp [w1, *]
set_option maxRecDepth 100000 in
theorem refin_p : (FnIs Tryz.prog 57 ∧ FnOk Tryz.prog 57 refin_s) ∧ (idsOk refin_s.cs && idsOk refin_s.cs' && Nat.ble refin_s.n refin_s.n') = true :=
  fn_of (l := []) (hi := refin_h) (S := refin_s) (fn := Tryz.f57) (c := Tryz.f57.body.get!) tysOk mixOk trivial (by kernel_rfl) (by kernel_rfl) (by kernel_rfl) (by kernel_rfl) (by kernel_rfl) refin_d
theorem refin_m : May Tryz.prog (57, refin_s.call) := may_call refin_p
theorem refin_n : May Tryz.prog (57, refin_s.callN) := may_callN refin_p
theorem w4_w1 (n : Int) : w4 n = w1 0 1073741824 n := rfl
theorem w1_z (n : Int) : w1 0 n 0 = decide (0 ≤ n) := by simp [w1]
@[reducible] def fright_s : Spec := { right_s with }
@[reducible] def fright_h : Hints := ⟨[(10, (tks 0 19 (.last 19 false [3, 5, 7, 9, 11, 13, 15, 17] (.take 20 false (.last 21 false [5, 7, 9, 11, 13, 15, 17] (.take 22 false (.last 23 false [7, 9, 11, 13, 15, 17] (.take 24 false (.last 25 false [9, 11, 13, 15, 17] (.take 26 false (.last 27 false [11, 13, 15, 17] (.take 28 false (.last 29 false [13, 15, 17] (.take 30 false (.last 31 false [15, 17] (.take 32 false (.last 33 false [17] (.take 34 false (.last 35 false [] .done))))))))))))))))))), (12, (tks 0 9 (.last 9 false [3, 5, 7] (.take 10 false (.last 11 false [5, 7] (.take 12 false (.last 13 false [7] (.take 14 false (.last 15 false [] .done))))))))), (14, (tks 0 11 (.last 11 false [3, 5, 7, 9] (.take 12 false (.last 13 false [5, 7, 9] (.take 14 false (.last 15 false [7, 9] (.take 16 false (.last 17 false [9] (.take 18 false (.last 19 false [] .done))))))))))), (16, (tks 0 7 (.last 7 false [3, 5] (.take 8 false (.last 9 false [5] (.take 10 false (.last 11 false [] .done))))))), (21, (tks 0 9 (.last 9 false [3, 5, 7] (.take 10 false (.last 11 false [5, 7] (.take 12 false (.last 13 false [7] (.take 14 false (.last 15 false [] .done)))))))))], [], []⟩
@[reducible] noncomputable def fright_e : Env := ⟨tys, [(57, refin_s.call)]⟩
set_option maxHeartbeats 2000000 in
set_option maxRecDepth 100000 in
theorem fright_k1 (k seq tr inst id side ord pr q sh st wh a b : Int) (tag : List UInt8) (hk : k = 1) : denX fright_e fright_s fright_h Tryz.f30 ((k, seq, tr, inst, id, side, ord, pr, q, sh, st, wh, a, b, tag, ()), ()) := by
  subst hk
  intro htag
  repeat' (first | (conv => whnf); first | refine And.intro ?_ ?_ | refine Is.mk ?_ | (intro h; cases h; done) | (intro _))
  all_goals try trivial
  all_goals clear htag
  all_goals try ((with_reducible rename (_ && _) = _ => hE); (change (decide ((1 : Int) = 1) && (decide (seq = 0) && (decide (tr = tr) && (decide (inst = 0) && (decide (id = 0) && (decide (side = 0) && (decide (ord = 0) && (decide (pr = 0) && (decide (q = 0) && (decide (sh = 0) && (decide (st = 0) && (decide (wh = 0) && (decide (a = 0) && (decide (b = 0) && (zt tag))))))))))))))) = _ at hE))
  all_goals (simp_all [rightF, w4_w1, w1_z, zs]; done)
set_option maxHeartbeats 2000000 in
set_option maxRecDepth 100000 in
theorem fright_k2 (k seq tr inst id side ord pr q sh st wh a b : Int) (tag : List UInt8) (hk : k = 2) : denX fright_e fright_s fright_h Tryz.f30 ((k, seq, tr, inst, id, side, ord, pr, q, sh, st, wh, a, b, tag, ()), ()) := by
  subst hk
  intro htag
  repeat' (first | (conv => whnf); first | refine And.intro ?_ ?_ | refine Is.mk ?_ | (intro h; cases h; done) | (intro _))
  all_goals try trivial
  all_goals clear htag
  all_goals try ((with_reducible rename (_ && _) = _ => hE); (change (decide ((2 : Int) = 2) && (decide (seq = 0) && (decide (tr = 0) && (decide (inst = 0) && (decide (id = 0) && (decide (side = 0) && (decide (ord = 0) && (decide (pr = 0) && (decide (q = 0) && (decide (sh = 0) && (decide (st = 0) && (decide (wh = 0) && (decide (a = 0) && (decide (b = 0) && (decide (tag = tag)))))))))))))))) = _ at hE))
  all_goals (simp_all [rightF, w4_w1, w1_z, zs]; done)
set_option maxHeartbeats 2000000 in
set_option maxRecDepth 100000 in
theorem fright_k3 (k seq tr inst id side ord pr q sh st wh a b : Int) (tag : List UInt8) (hk : k = 3) : denX fright_e fright_s fright_h Tryz.f30 ((k, seq, tr, inst, id, side, ord, pr, q, sh, st, wh, a, b, tag, ()), ()) := by
  subst hk
  intro htag
  repeat' (first | (conv => whnf); first | refine And.intro ?_ ?_ | refine Is.mk ?_ | (intro h; cases h; done) | (intro _))
  all_goals try trivial
  all_goals clear htag
  all_goals try ((with_reducible rename (_ && _) = _ => hE); (change (decide ((3 : Int) = 3) && (decide (seq = seq) && (decide (tr = 0) && (decide (inst = inst) && (decide (id = id) && (decide (side = side) && (decide (ord = ord) && (decide (pr = pr) && (decide (q = q) && (decide (sh = sh) && (decide (st = st) && (decide (wh = 0) && (decide (a = 0) && (decide (b = 0) && (zt tag))))))))))))))) = _ at hE))
  all_goals (simp_all [rightF, w4_w1, w1_z, zs]; done)
set_option maxHeartbeats 2000000 in
set_option maxRecDepth 100000 in
theorem fright_k4 (k seq tr inst id side ord pr q sh st wh a b : Int) (tag : List UInt8) (hk : k = 4) : denX fright_e fright_s fright_h Tryz.f30 ((k, seq, tr, inst, id, side, ord, pr, q, sh, st, wh, a, b, tag, ()), ()) := by
  subst hk
  intro htag
  repeat' (first | (conv => whnf); first | refine And.intro ?_ ?_ | refine Is.mk ?_ | (intro h; cases h; done) | (intro _))
  all_goals try trivial
  all_goals clear htag
  all_goals try ((with_reducible rename (_ && _) = _ => hE); (change (decide ((4 : Int) = 4) && (decide (seq = seq) && (decide (tr = tr) && (decide (inst = inst) && (decide (id = id) && (decide (side = 0) && (decide (ord = 0) && (decide (pr = 0) && (decide (q = 0) && (decide (sh = 0) && (decide (st = 0) && (decide (wh = 0) && (decide (a = 0) && (decide (b = 0) && (zt tag))))))))))))))) = _ at hE))
  all_goals (simp_all [rightF, w4_w1, w1_z, zs]; done)
set_option maxHeartbeats 2000000 in
set_option maxRecDepth 100000 in
theorem fright_k5 (k seq tr inst id side ord pr q sh st wh a b : Int) (tag : List UInt8) (hk : k = 5) : denX fright_e fright_s fright_h Tryz.f30 ((k, seq, tr, inst, id, side, ord, pr, q, sh, st, wh, a, b, tag, ()), ()) := by
  subst hk
  intro htag
  repeat' (first | (conv => whnf); first | refine And.intro ?_ ?_ | refine Is.mk ?_ | (intro h; cases h; done) | (intro _))
  all_goals try trivial
  all_goals clear htag
  all_goals try ((with_reducible rename (_ && _) = _ => hE); (change (decide ((5 : Int) = 5) && (decide (seq = seq) && (decide (tr = 0) && (decide (inst = inst) && (decide (id = id) && (decide (side = 0) && (decide (ord = 0) && (decide (pr = pr) && (decide (q = q) && (decide (sh = 0) && (decide (st = 0) && (decide (wh = 0) && (decide (a = 0) && (decide (b = 0) && (zt tag))))))))))))))) = _ at hE))
  all_goals (simp_all [rightF, w4_w1, w1_z, zs]; done)
set_option maxHeartbeats 2000000 in
set_option maxRecDepth 100000 in
theorem fright_k6 (k seq tr inst id side ord pr q sh st wh a b : Int) (tag : List UInt8) (hk : k = 6) : denX fright_e fright_s fright_h Tryz.f30 ((k, seq, tr, inst, id, side, ord, pr, q, sh, st, wh, a, b, tag, ()), ()) := by
  subst hk
  intro htag
  repeat' (first | (conv => whnf); first | refine And.intro ?_ ?_ | refine Is.mk ?_ | (intro h; cases h; done) | (intro _))
  all_goals try trivial
  all_goals clear htag
  all_goals try ((with_reducible rename (_ && _) = _ => hE); (change (decide ((6 : Int) = 6) && (decide (seq = seq) && (decide (tr = 0) && (decide (inst = inst) && (decide (id = 0) && (decide (side = 0) && (decide (ord = 0) && (decide (pr = 0) && (decide (q = 0) && (decide (sh = 0) && (decide (st = 0) && (decide (wh = wh) && (decide (a = 0) && (decide (b = 0) && (zt tag))))))))))))))) = _ at hE))
  all_goals (simp_all [rightF, w4_w1, w1_z, zs]; done)
set_option maxHeartbeats 2000000 in
set_option maxRecDepth 100000 in
theorem fright_k7 (k seq tr inst id side ord pr q sh st wh a b : Int) (tag : List UInt8) (hk : k = 7) : denX fright_e fright_s fright_h Tryz.f30 ((k, seq, tr, inst, id, side, ord, pr, q, sh, st, wh, a, b, tag, ()), ()) := by
  subst hk
  intro htag
  repeat' (first | (conv => whnf); first | refine And.intro ?_ ?_ | refine Is.mk ?_ | (intro h; cases h; done) | (intro _))
  all_goals try trivial
  all_goals clear htag
  all_goals try ((with_reducible rename (_ && _) = _ => hE); (change (decide ((7 : Int) = 7) && (decide (seq = 0) && (decide (tr = 0) && (decide (inst = 0) && (decide (id = 0) && (decide (side = 0) && (decide (ord = 0) && (decide (pr = 0) && (decide (q = 0) && (decide (sh = 0) && (decide (st = 0) && (decide (wh = 0) && (decide (a = 0) && (decide (b = 0) && (zt tag))))))))))))))) = _ at hE))
  all_goals (simp_all [rightF, w4_w1, w1_z, zs]; done)
set_option maxHeartbeats 2000000 in
set_option maxRecDepth 100000 in
theorem fright_k8 (k seq tr inst id side ord pr q sh st wh a b : Int) (tag : List UInt8) (hk : k = 8) : denX fright_e fright_s fright_h Tryz.f30 ((k, seq, tr, inst, id, side, ord, pr, q, sh, st, wh, a, b, tag, ()), ()) := by
  subst hk
  intro htag
  repeat' (first | (conv => whnf); first | refine And.intro ?_ ?_ | refine Is.mk ?_ | (intro h; cases h; done) | (intro _))
  all_goals try trivial
  all_goals clear htag
  all_goals try ((with_reducible rename (_ && _) = _ => hE); (change (decide ((8 : Int) = 8) && (decide (seq = 0) && (decide (tr = 0) && (decide (inst = 0) && (decide (id = 0) && (decide (side = 0) && (decide (ord = 0) && (decide (pr = 0) && (decide (q = 0) && (decide (sh = 0) && (decide (st = 0) && (decide (wh = 0) && (decide (a = 0) && (decide (b = 0) && (zt tag))))))))))))))) = _ at hE))
  all_goals (simp_all [rightF, w4_w1, w1_z, zs]; done)
set_option maxHeartbeats 2000000 in
set_option maxRecDepth 100000 in
theorem fright_k9 (k seq tr inst id side ord pr q sh st wh a b : Int) (tag : List UInt8) (hk : k = 9) : denX fright_e fright_s fright_h Tryz.f30 ((k, seq, tr, inst, id, side, ord, pr, q, sh, st, wh, a, b, tag, ()), ()) := by
  subst hk
  intro htag
  repeat' (first | (conv => whnf); first | refine And.intro ?_ ?_ | refine Is.mk ?_ | (intro h; cases h; done) | (intro _))
  all_goals try trivial
  all_goals clear htag
  all_goals try ((with_reducible rename (_ && _) = _ => hE); (change (decide ((9 : Int) = 9) && (decide (seq = seq) && (decide (tr = 0) && (decide (inst = 0) && (decide (id = 0) && (decide (side = 0) && (decide (ord = 0) && (decide (pr = 0) && (decide (q = 0) && (decide (sh = 0) && (decide (st = 0) && (decide (wh = wh) && (decide (a = a) && (decide (b = b) && (zt tag))))))))))))))) = _ at hE))
  all_goals (simp_all [rightF, w4_w1, w1_z, zs]; done)
set_option maxHeartbeats 2000000 in
set_option maxRecDepth 100000 in
theorem fright_k10 (k seq tr inst id side ord pr q sh st wh a b : Int) (tag : List UInt8) (hk : k ≠ 1 ∧ k ≠ 2 ∧ k ≠ 3 ∧ k ≠ 4 ∧ k ≠ 5 ∧ k ≠ 6 ∧ k ≠ 7 ∧ k ≠ 8 ∧ k ≠ 9) : denX fright_e fright_s fright_h Tryz.f30 ((k, seq, tr, inst, id, side, ord, pr, q, sh, st, wh, a, b, tag, ()), ()) := by
  obtain ⟨n1, n2, n3, n4, n5, n6, n7, n8, n9⟩ := hk
  intro htag
  repeat' (first | (conv => whnf); first | refine And.intro ?_ ?_ | refine Is.mk ?_ | (intro h; exact absurd h (by simp only [decide_eq_true_eq]; assumption)) | (intro h; cases h; done) | (intro _))
  all_goals try trivial
  all_goals (simp only [rightF, n1, n2, n3, n4, n5, n6, n7, n8, n9, if_false]; done)
set_option maxHeartbeats 1000000 in
set_option maxRecDepth 100000 in
theorem fright_d : denF fright_e fright_s fright_h Tryz.f30 := by
  intro k seq tr inst id side ord pr q sh st wh a b tag
  rcases kinds k with h | h | h | h | h | h | h | h | h | h
  · exact fright_k1 k seq tr inst id side ord pr q sh st wh a b tag h
  · exact fright_k2 k seq tr inst id side ord pr q sh st wh a b tag h
  · exact fright_k3 k seq tr inst id side ord pr q sh st wh a b tag h
  · exact fright_k4 k seq tr inst id side ord pr q sh st wh a b tag h
  · exact fright_k5 k seq tr inst id side ord pr q sh st wh a b tag h
  · exact fright_k6 k seq tr inst id side ord pr q sh st wh a b tag h
  · exact fright_k7 k seq tr inst id side ord pr q sh st wh a b tag h
  · exact fright_k8 k seq tr inst id side ord pr q sh st wh a b tag h
  · exact fright_k9 k seq tr inst id side ord pr q sh st wh a b tag h
  · exact fright_k10 k seq tr inst id side ord pr q sh st wh a b tag h
set_option maxRecDepth 100000 in
theorem fright_p : (FnIs Tryz.prog 30 ∧ FnOk Tryz.prog 30 fright_s) ∧ (idsOk fright_s.cs && idsOk fright_s.cs' && Nat.ble fright_s.n fright_s.n') = true :=
  fn_of (l := [(57, refin_s.call)]) (hi := fright_h) (S := fright_s) (fn := Tryz.f30) (c := Tryz.f30.body.get!) tysOk mixOk ⟨.inl refin_m, trivial⟩ (by kernel_rfl) (by kernel_rfl) (by kernel_rfl) (by kernel_rfl) (by kernel_rfl) fright_d
theorem fright_m : May Tryz.prog (30, fright_s.call) := may_call fright_p
theorem fright_n : May Tryz.prog (30, fright_s.callN) := may_callN fright_p

end Go.J

set_option linter.unusedSimpArgs false
set_option linter.unusedVariables false
set_option linter.unusedSectionVars false
namespace Go.J
open Go.Proofs

@[reducible] noncomputable def refu32s_c := inl ⟨tys, [(52, fu32_s.call)]⟩ ⟨[], [], [(2, 6)]⟩ Tryz.f63 Tryz.f63.body.get!
theorem refu32s_m : May Tryz.prog (63, refu32s_c) :=
  may_inl tysOk mixOk ⟨.inl fu32_m, trivial⟩ (by kernel_rfl) (by kernel_rfl) (by kernel_rfl) (by kernel_rfl)
@[reducible] def fput_s : Spec := { put_s with }
@[reducible] def fput_h : Hints := ⟨[(10, (tks 0 3 (tks 5 2 (.last 3 false [6] (.last 4 false [6] (.last 7 false [] (.last 8 false [] .done))))))), (11, (tks 0 3 (tks 5 2 (tks 8 2 (.last 3 false [6, 9] (.last 4 false [6, 9] (.last 7 false [9] (.last 10 false [] (.last 11 false [] .done))))))))), (14, (tks 0 3 (tks 5 2 (.last 3 false [6] (.last 4 false [6] (.last 7 false [] (.last 8 false [] .done))))))), (15, (tks 0 3 (tks 5 2 (.last 3 false [6] (.last 4 false [6] (.last 7 false [] (.last 8 false [] .done))))))), (17, (tks 0 3 (tks 5 2 (.last 3 false [6] (.last 4 false [6] (.last 7 false [] (.last 8 false [] .done))))))), (20, (tks 0 3 (tks 5 2 (tks 8 2 (.last 3 false [6, 9] (.last 4 false [6, 9] (.last 7 false [9] (.last 10 false [] (.last 11 false [] .done))))))))), (22, (tks 0 3 (tks 5 2 (tks 8 2 (tks 11 2 (.last 3 false [6, 9, 12] (.last 4 false [6, 9, 12] (.last 7 false [9, 12] (.last 10 false [12] (.last 13 false [] (.last 14 false [] .done)))))))))))], [], []⟩
@[reducible] noncomputable def fput_e : Env := ⟨tys, [(30, fright_s.call), (39, fu8_s.call), (63, refu32s_c)]⟩
set_option maxHeartbeats 2000000 in
set_option maxRecDepth 100000 in
theorem fput_k1 (k seq tr inst id side ord pr q sh st wh a b : Int) (tag : List UInt8) (hk : k = 1) : denX fput_e fput_s fput_h Tryz.f40 ((k, seq, tr, inst, id, side, ord, pr, q, sh, st, wh, a, b, tag, ()), ()) := by
  subst hk
  intro hpre
  repeat' (first | (conv => whnf); first | refine And.intro ?_ ?_ | refine Is.mk ?_ | (intro h; cases h; done) | (intro h; simp only [List.length_cons, List.length_nil, IntKind.wrap_i64, Int.reduceAdd, Int.reduceMod, Int.reduceSub, Nat.reduceAdd, Nat.cast_ofNat_Int, Int.natCast_one, Int.reduceLT, decide_true, decide_false, reduceCtorEq] at h; done) | (intro _))
  all_goals try dsimp only [maxLen, El.ty] at *
  all_goals try trivial
  all_goals try (with_reducible rename rightF _ _ _ _ _ _ _ _ _ _ _ _ _ _ _ = _ => h8)
  all_goals obtain ⟨ht, hb⟩ := hpre
  all_goals try dsimp only [El.ty] at hb ⊢
  all_goals try (simp only [take32 ht])
  all_goals try (simp only [Int.reduceEq, reduceIte, be1_mod, be4_mod, List.nil_append])
  all_goals try (simp only [IntKind.wrap_i64, IntKind.wrap_u32, be4_mod, Int.reduceAdd, Int.reduceMod, Int.reduceSub, Int.reduceToNat, List.getD_cons_succ, List.getD_cons_zero, List.length_cons, List.length_nil, Nat.reduceAdd])
  all_goals first
    | exact ht
    | omega
    | (simp only [List.length_append, be_length, List.length_nil, List.length_take, List.length_drop]; omega)
    | skip
  all_goals try (with_reducible rename (!rightF _ _ _ _ _ _ _ _ _ _ _ _ _ _ _) = _ => h9; simp only [Bool.not_eq_true', Bool.not_eq_false'] at h9)
  all_goals first
    | (simp only [putF, h9, Bool.false_eq_true, if_false]; done)
    | (simp [rightF, n1, n2, n3, n4, n5, n6, n7, n8, n9] at h9; done)
    | (simp only [putF, h9, if_true, bytesF, restF, be1_mod, be4_mod, Int.reduceEq, reduceIte, List.nil_append, List.append_nil, List.append_assoc]; done)
    | skip
set_option maxHeartbeats 2000000 in
set_option maxRecDepth 100000 in
theorem fput_k2 (k seq tr inst id side ord pr q sh st wh a b : Int) (tag : List UInt8) (hk : k = 2) : denX fput_e fput_s fput_h Tryz.f40 ((k, seq, tr, inst, id, side, ord, pr, q, sh, st, wh, a, b, tag, ()), ()) := by
  subst hk
  intro hpre
  repeat' (first | (conv => whnf); first | refine And.intro ?_ ?_ | refine Is.mk ?_ | (intro h; cases h; done) | (intro h; simp only [List.length_cons, List.length_nil, IntKind.wrap_i64, Int.reduceAdd, Int.reduceMod, Int.reduceSub, Nat.reduceAdd, Nat.cast_ofNat_Int, Int.natCast_one, Int.reduceLT, decide_true, decide_false, reduceCtorEq] at h; done) | (intro _))
  all_goals try dsimp only [maxLen, El.ty] at *
  all_goals try trivial
  all_goals try (with_reducible rename rightF _ _ _ _ _ _ _ _ _ _ _ _ _ _ _ = _ => h8)
  all_goals obtain ⟨ht, hb⟩ := hpre
  all_goals try dsimp only [El.ty] at hb ⊢
  all_goals try (simp only [take32 ht])
  all_goals try (simp only [Int.reduceEq, reduceIte, be1_mod, be4_mod, List.nil_append])
  all_goals try (simp only [IntKind.wrap_i64, IntKind.wrap_u32, be4_mod, Int.reduceAdd, Int.reduceMod, Int.reduceSub, Int.reduceToNat, List.getD_cons_succ, List.getD_cons_zero, List.length_cons, List.length_nil, Nat.reduceAdd])
  all_goals first
    | exact ht
    | omega
    | (simp only [List.length_append, be_length, List.length_nil, List.length_take, List.length_drop]; omega)
    | skip
  all_goals try (with_reducible rename (!rightF _ _ _ _ _ _ _ _ _ _ _ _ _ _ _) = _ => h9; simp only [Bool.not_eq_true', Bool.not_eq_false'] at h9)
  all_goals first
    | (simp only [putF, h9, Bool.false_eq_true, if_false]; done)
    | (simp [rightF, n1, n2, n3, n4, n5, n6, n7, n8, n9] at h9; done)
    | (simp only [putF, h9, if_true, bytesF, restF, be1_mod, be4_mod, Int.reduceEq, reduceIte, List.nil_append, List.append_nil, List.append_assoc]; done)
    | skip
set_option maxHeartbeats 2000000 in
set_option maxRecDepth 100000 in
theorem fput_k3 (k seq tr inst id side ord pr q sh st wh a b : Int) (tag : List UInt8) (hk : k = 3) : denX fput_e fput_s fput_h Tryz.f40 ((k, seq, tr, inst, id, side, ord, pr, q, sh, st, wh, a, b, tag, ()), ()) := by
  subst hk
  intro hpre
  repeat' (first | (conv => whnf); first | refine And.intro ?_ ?_ | refine Is.mk ?_ | (intro h; cases h; done) | (intro h; simp only [List.length_cons, List.length_nil, IntKind.wrap_i64, Int.reduceAdd, Int.reduceMod, Int.reduceSub, Nat.reduceAdd, Nat.cast_ofNat_Int, Int.natCast_one, Int.reduceLT, decide_true, decide_false, reduceCtorEq] at h; done) | (intro _))
  all_goals try dsimp only [maxLen, El.ty] at *
  all_goals try trivial
  all_goals try (with_reducible rename rightF _ _ _ _ _ _ _ _ _ _ _ _ _ _ _ = _ => h8)
  all_goals obtain ⟨ht, hb⟩ := hpre
  all_goals try dsimp only [El.ty] at hb ⊢
  all_goals try (simp only [take32 ht])
  all_goals try (simp only [Int.reduceEq, reduceIte, be1_mod, be4_mod, List.nil_append])
  all_goals try (simp only [IntKind.wrap_i64, IntKind.wrap_u32, be4_mod, Int.reduceAdd, Int.reduceMod, Int.reduceSub, Int.reduceToNat, List.getD_cons_succ, List.getD_cons_zero, List.length_cons, List.length_nil, Nat.reduceAdd])
  all_goals first
    | exact ht
    | omega
    | (simp only [List.length_append, be_length, List.length_nil, List.length_take, List.length_drop]; omega)
    | skip
  all_goals try (with_reducible rename (!rightF _ _ _ _ _ _ _ _ _ _ _ _ _ _ _) = _ => h9; simp only [Bool.not_eq_true', Bool.not_eq_false'] at h9)
  all_goals first
    | (simp only [putF, h9, Bool.false_eq_true, if_false]; done)
    | (simp [rightF, n1, n2, n3, n4, n5, n6, n7, n8, n9] at h9; done)
    | (simp only [putF, h9, if_true, bytesF, restF, be1_mod, be4_mod, Int.reduceEq, reduceIte, List.nil_append, List.append_nil, List.append_assoc]; done)
    | skip
set_option maxHeartbeats 2000000 in
set_option maxRecDepth 100000 in
theorem fput_k4 (k seq tr inst id side ord pr q sh st wh a b : Int) (tag : List UInt8) (hk : k = 4) : denX fput_e fput_s fput_h Tryz.f40 ((k, seq, tr, inst, id, side, ord, pr, q, sh, st, wh, a, b, tag, ()), ()) := by
  subst hk
  intro hpre
  repeat' (first | (conv => whnf); first | refine And.intro ?_ ?_ | refine Is.mk ?_ | (intro h; cases h; done) | (intro h; simp only [List.length_cons, List.length_nil, IntKind.wrap_i64, Int.reduceAdd, Int.reduceMod, Int.reduceSub, Nat.reduceAdd, Nat.cast_ofNat_Int, Int.natCast_one, Int.reduceLT, decide_true, decide_false, reduceCtorEq] at h; done) | (intro _))
  all_goals try dsimp only [maxLen, El.ty] at *
  all_goals try trivial
  all_goals try (with_reducible rename rightF _ _ _ _ _ _ _ _ _ _ _ _ _ _ _ = _ => h8)
  all_goals obtain ⟨ht, hb⟩ := hpre
  all_goals try dsimp only [El.ty] at hb ⊢
  all_goals try (simp only [take32 ht])
  all_goals try (simp only [Int.reduceEq, reduceIte, be1_mod, be4_mod, List.nil_append])
  all_goals try (simp only [IntKind.wrap_i64, IntKind.wrap_u32, be4_mod, Int.reduceAdd, Int.reduceMod, Int.reduceSub, Int.reduceToNat, List.getD_cons_succ, List.getD_cons_zero, List.length_cons, List.length_nil, Nat.reduceAdd])
  all_goals first
    | exact ht
    | omega
    | (simp only [List.length_append, be_length, List.length_nil, List.length_take, List.length_drop]; omega)
    | skip
  all_goals try (with_reducible rename (!rightF _ _ _ _ _ _ _ _ _ _ _ _ _ _ _) = _ => h9; simp only [Bool.not_eq_true', Bool.not_eq_false'] at h9)
  all_goals first
    | (simp only [putF, h9, Bool.false_eq_true, if_false]; done)
    | (simp [rightF, n1, n2, n3, n4, n5, n6, n7, n8, n9] at h9; done)
    | (simp only [putF, h9, if_true, bytesF, restF, be1_mod, be4_mod, Int.reduceEq, reduceIte, List.nil_append, List.append_nil, List.append_assoc]; done)
    | skip
set_option maxHeartbeats 2000000 in
set_option maxRecDepth 100000 in
theorem fput_k5 (k seq tr inst id side ord pr q sh st wh a b : Int) (tag : List UInt8) (hk : k = 5) : denX fput_e fput_s fput_h Tryz.f40 ((k, seq, tr, inst, id, side, ord, pr, q, sh, st, wh, a, b, tag, ()), ()) := by
  subst hk
  intro hpre
  repeat' (first | (conv => whnf); first | refine And.intro ?_ ?_ | refine Is.mk ?_ | (intro h; cases h; done) | (intro h; simp only [List.length_cons, List.length_nil, IntKind.wrap_i64, Int.reduceAdd, Int.reduceMod, Int.reduceSub, Nat.reduceAdd, Nat.cast_ofNat_Int, Int.natCast_one, Int.reduceLT, decide_true, decide_false, reduceCtorEq] at h; done) | (intro _))
  all_goals try dsimp only [maxLen, El.ty] at *
  all_goals try trivial
  all_goals try (with_reducible rename rightF _ _ _ _ _ _ _ _ _ _ _ _ _ _ _ = _ => h8)
  all_goals obtain ⟨ht, hb⟩ := hpre
  all_goals try dsimp only [El.ty] at hb ⊢
  all_goals try (simp only [take32 ht])
  all_goals try (simp only [Int.reduceEq, reduceIte, be1_mod, be4_mod, List.nil_append])
  all_goals try (simp only [IntKind.wrap_i64, IntKind.wrap_u32, be4_mod, Int.reduceAdd, Int.reduceMod, Int.reduceSub, Int.reduceToNat, List.getD_cons_succ, List.getD_cons_zero, List.length_cons, List.length_nil, Nat.reduceAdd])
  all_goals first
    | exact ht
    | omega
    | (simp only [List.length_append, be_length, List.length_nil, List.length_take, List.length_drop]; omega)
    | skip
  all_goals try (with_reducible rename (!rightF _ _ _ _ _ _ _ _ _ _ _ _ _ _ _) = _ => h9; simp only [Bool.not_eq_true', Bool.not_eq_false'] at h9)
  all_goals first
    | (simp only [putF, h9, Bool.false_eq_true, if_false]; done)
    | (simp [rightF, n1, n2, n3, n4, n5, n6, n7, n8, n9] at h9; done)
    | (simp only [putF, h9, if_true, bytesF, restF, be1_mod, be4_mod, Int.reduceEq, reduceIte, List.nil_append, List.append_nil, List.append_assoc]; done)
    | skip
set_option maxHeartbeats 2000000 in
set_option maxRecDepth 100000 in
theorem fput_k6 (k seq tr inst id side ord pr q sh st wh a b : Int) (tag : List UInt8) (hk : k = 6) : denX fput_e fput_s fput_h Tryz.f40 ((k, seq, tr, inst, id, side, ord, pr, q, sh, st, wh, a, b, tag, ()), ()) := by
  subst hk
  intro hpre
  repeat' (first | (conv => whnf); first | refine And.intro ?_ ?_ | refine Is.mk ?_ | (intro h; cases h; done) | (intro h; simp only [List.length_cons, List.length_nil, IntKind.wrap_i64, Int.reduceAdd, Int.reduceMod, Int.reduceSub, Nat.reduceAdd, Nat.cast_ofNat_Int, Int.natCast_one, Int.reduceLT, decide_true, decide_false, reduceCtorEq] at h; done) | (intro _))
  all_goals try dsimp only [maxLen, El.ty] at *
  all_goals try trivial
  all_goals try (with_reducible rename rightF _ _ _ _ _ _ _ _ _ _ _ _ _ _ _ = _ => h8)
  all_goals obtain ⟨ht, hb⟩ := hpre
  all_goals try dsimp only [El.ty] at hb ⊢
  all_goals try (simp only [take32 ht])
  all_goals try (simp only [Int.reduceEq, reduceIte, be1_mod, be4_mod, List.nil_append])
  all_goals try (simp only [IntKind.wrap_i64, IntKind.wrap_u32, be4_mod, Int.reduceAdd, Int.reduceMod, Int.reduceSub, Int.reduceToNat, List.getD_cons_succ, List.getD_cons_zero, List.length_cons, List.length_nil, Nat.reduceAdd])
  all_goals first
    | exact ht
    | omega
    | (simp only [List.length_append, be_length, List.length_nil, List.length_take, List.length_drop]; omega)
    | skip
  all_goals try (with_reducible rename (!rightF _ _ _ _ _ _ _ _ _ _ _ _ _ _ _) = _ => h9; simp only [Bool.not_eq_true', Bool.not_eq_false'] at h9)
  all_goals first
    | (simp only [putF, h9, Bool.false_eq_true, if_false]; done)
    | (simp [rightF, n1, n2, n3, n4, n5, n6, n7, n8, n9] at h9; done)
    | (simp only [putF, h9, if_true, bytesF, restF, be1_mod, be4_mod, Int.reduceEq, reduceIte, List.nil_append, List.append_nil, List.append_assoc]; done)
    | skip
set_option maxHeartbeats 2000000 in
set_option maxRecDepth 100000 in
theorem fput_k7 (k seq tr inst id side ord pr q sh st wh a b : Int) (tag : List UInt8) (hk : k = 7) : denX fput_e fput_s fput_h Tryz.f40 ((k, seq, tr, inst, id, side, ord, pr, q, sh, st, wh, a, b, tag, ()), ()) := by
  subst hk
  intro hpre
  repeat' (first | (conv => whnf); first | refine And.intro ?_ ?_ | refine Is.mk ?_ | (intro h; cases h; done) | (intro h; simp only [List.length_cons, List.length_nil, IntKind.wrap_i64, Int.reduceAdd, Int.reduceMod, Int.reduceSub, Nat.reduceAdd, Nat.cast_ofNat_Int, Int.natCast_one, Int.reduceLT, decide_true, decide_false, reduceCtorEq] at h; done) | (intro _))
  all_goals try dsimp only [maxLen, El.ty] at *
  all_goals try trivial
  all_goals try (with_reducible rename rightF _ _ _ _ _ _ _ _ _ _ _ _ _ _ _ = _ => h8)
  all_goals obtain ⟨ht, hb⟩ := hpre
  all_goals try dsimp only [El.ty] at hb ⊢
  all_goals try (simp only [take32 ht])
  all_goals try (simp only [Int.reduceEq, reduceIte, be1_mod, be4_mod, List.nil_append])
  all_goals try (simp only [IntKind.wrap_i64, IntKind.wrap_u32, be4_mod, Int.reduceAdd, Int.reduceMod, Int.reduceSub, Int.reduceToNat, List.getD_cons_succ, List.getD_cons_zero, List.length_cons, List.length_nil, Nat.reduceAdd])
  all_goals first
    | exact ht
    | omega
    | (simp only [List.length_append, be_length, List.length_nil, List.length_take, List.length_drop]; omega)
    | skip
  all_goals try (with_reducible rename (!rightF _ _ _ _ _ _ _ _ _ _ _ _ _ _ _) = _ => h9; simp only [Bool.not_eq_true', Bool.not_eq_false'] at h9)
  all_goals first
    | (simp only [putF, h9, Bool.false_eq_true, if_false]; done)
    | (simp [rightF, n1, n2, n3, n4, n5, n6, n7, n8, n9] at h9; done)
    | (simp only [putF, h9, if_true, bytesF, restF, be1_mod, be4_mod, Int.reduceEq, reduceIte, List.nil_append, List.append_nil, List.append_assoc]; done)
    | skip
set_option maxHeartbeats 2000000 in
set_option maxRecDepth 100000 in
theorem fput_k8 (k seq tr inst id side ord pr q sh st wh a b : Int) (tag : List UInt8) (hk : k = 8) : denX fput_e fput_s fput_h Tryz.f40 ((k, seq, tr, inst, id, side, ord, pr, q, sh, st, wh, a, b, tag, ()), ()) := by
  subst hk
  intro hpre
  repeat' (first | (conv => whnf); first | refine And.intro ?_ ?_ | refine Is.mk ?_ | (intro h; cases h; done) | (intro h; simp only [List.length_cons, List.length_nil, IntKind.wrap_i64, Int.reduceAdd, Int.reduceMod, Int.reduceSub, Nat.reduceAdd, Nat.cast_ofNat_Int, Int.natCast_one, Int.reduceLT, decide_true, decide_false, reduceCtorEq] at h; done) | (intro _))
  all_goals try dsimp only [maxLen, El.ty] at *
  all_goals try trivial
  all_goals try (with_reducible rename rightF _ _ _ _ _ _ _ _ _ _ _ _ _ _ _ = _ => h8)
  all_goals obtain ⟨ht, hb⟩ := hpre
  all_goals try dsimp only [El.ty] at hb ⊢
  all_goals try (simp only [take32 ht])
  all_goals try (simp only [Int.reduceEq, reduceIte, be1_mod, be4_mod, List.nil_append])
  all_goals try (simp only [IntKind.wrap_i64, IntKind.wrap_u32, be4_mod, Int.reduceAdd, Int.reduceMod, Int.reduceSub, Int.reduceToNat, List.getD_cons_succ, List.getD_cons_zero, List.length_cons, List.length_nil, Nat.reduceAdd])
  all_goals first
    | exact ht
    | omega
    | (simp only [List.length_append, be_length, List.length_nil, List.length_take, List.length_drop]; omega)
    | skip
  all_goals try (with_reducible rename (!rightF _ _ _ _ _ _ _ _ _ _ _ _ _ _ _) = _ => h9; simp only [Bool.not_eq_true', Bool.not_eq_false'] at h9)
  all_goals first
    | (simp only [putF, h9, Bool.false_eq_true, if_false]; done)
    | (simp [rightF, n1, n2, n3, n4, n5, n6, n7, n8, n9] at h9; done)
    | (simp only [putF, h9, if_true, bytesF, restF, be1_mod, be4_mod, Int.reduceEq, reduceIte, List.nil_append, List.append_nil, List.append_assoc]; done)
    | skip
set_option maxHeartbeats 2000000 in
set_option maxRecDepth 100000 in
theorem fput_k9 (k seq tr inst id side ord pr q sh st wh a b : Int) (tag : List UInt8) (hk : k = 9) : denX fput_e fput_s fput_h Tryz.f40 ((k, seq, tr, inst, id, side, ord, pr, q, sh, st, wh, a, b, tag, ()), ()) := by
  subst hk
  intro hpre
  repeat' (first | (conv => whnf); first | refine And.intro ?_ ?_ | refine Is.mk ?_ | (intro h; cases h; done) | (intro h; simp only [List.length_cons, List.length_nil, IntKind.wrap_i64, Int.reduceAdd, Int.reduceMod, Int.reduceSub, Nat.reduceAdd, Nat.cast_ofNat_Int, Int.natCast_one, Int.reduceLT, decide_true, decide_false, reduceCtorEq] at h; done) | (intro _))
  all_goals try dsimp only [maxLen, El.ty] at *
  all_goals try trivial
  all_goals try (with_reducible rename rightF _ _ _ _ _ _ _ _ _ _ _ _ _ _ _ = _ => h8)
  all_goals obtain ⟨ht, hb⟩ := hpre
  all_goals try dsimp only [El.ty] at hb ⊢
  all_goals try (simp only [take32 ht])
  all_goals try (simp only [Int.reduceEq, reduceIte, be1_mod, be4_mod, List.nil_append])
  all_goals try (simp only [IntKind.wrap_i64, IntKind.wrap_u32, be4_mod, Int.reduceAdd, Int.reduceMod, Int.reduceSub, Int.reduceToNat, List.getD_cons_succ, List.getD_cons_zero, List.length_cons, List.length_nil, Nat.reduceAdd])
  all_goals first
    | exact ht
    | omega
    | (simp only [List.length_append, be_length, List.length_nil, List.length_take, List.length_drop]; omega)
    | skip
  all_goals try (with_reducible rename (!rightF _ _ _ _ _ _ _ _ _ _ _ _ _ _ _) = _ => h9; simp only [Bool.not_eq_true', Bool.not_eq_false'] at h9)
  all_goals first
    | (simp only [putF, h9, Bool.false_eq_true, if_false]; done)
    | (simp [rightF, n1, n2, n3, n4, n5, n6, n7, n8, n9] at h9; done)
    | (simp only [putF, h9, if_true, bytesF, restF, be1_mod, be4_mod, Int.reduceEq, reduceIte, List.nil_append, List.append_nil, List.append_assoc]; done)
    | skip
set_option maxHeartbeats 2000000 in
set_option maxRecDepth 100000 in
theorem fput_k10 (k seq tr inst id side ord pr q sh st wh a b : Int) (tag : List UInt8) (hk : k ≠ 1 ∧ k ≠ 2 ∧ k ≠ 3 ∧ k ≠ 4 ∧ k ≠ 5 ∧ k ≠ 6 ∧ k ≠ 7 ∧ k ≠ 8 ∧ k ≠ 9) : denX fput_e fput_s fput_h Tryz.f40 ((k, seq, tr, inst, id, side, ord, pr, q, sh, st, wh, a, b, tag, ()), ()) := by
  obtain ⟨n1, n2, n3, n4, n5, n6, n7, n8, n9⟩ := hk
  intro hpre
  repeat' (first | (conv => whnf); first | refine And.intro ?_ ?_ | refine Is.mk ?_ | (intro h; exact absurd h (by simp only [decide_eq_true_eq]; assumption)) | (intro h; cases h; done) | (intro _))
  all_goals try dsimp only [maxLen, El.ty] at *
  all_goals try trivial
  all_goals try (with_reducible rename rightF _ _ _ _ _ _ _ _ _ _ _ _ _ _ _ = _ => h8)
  all_goals obtain ⟨ht, hb⟩ := hpre
  all_goals try dsimp only [El.ty] at hb ⊢
  all_goals try (simp only [take32 ht])
  all_goals try (simp only [Int.reduceEq, reduceIte, be1_mod, be4_mod, List.nil_append])
  all_goals try (simp only [IntKind.wrap_i64, IntKind.wrap_u32, be4_mod, Int.reduceAdd, Int.reduceMod, Int.reduceSub, Int.reduceToNat, List.getD_cons_succ, List.getD_cons_zero, List.length_cons, List.length_nil, Nat.reduceAdd])
  all_goals first
    | exact ht
    | omega
    | (simp only [List.length_append, be_length, List.length_nil, List.length_take, List.length_drop]; omega)
    | skip
  all_goals try (with_reducible rename (!rightF _ _ _ _ _ _ _ _ _ _ _ _ _ _ _) = _ => h9; simp only [Bool.not_eq_true', Bool.not_eq_false'] at h9)
  all_goals first
    | (simp only [putF, h9, Bool.false_eq_true, if_false]; done)
    | (simp [rightF, n1, n2, n3, n4, n5, n6, n7, n8, n9] at h9; done)
    | (simp only [putF, h9, if_true, bytesF, restF, be1_mod, be4_mod, Int.reduceEq, reduceIte, List.nil_append, List.append_nil, List.append_assoc]; done)
    | skip
set_option maxHeartbeats 1000000 in
set_option maxRecDepth 100000 in
theorem fput_d : denF fput_e fput_s fput_h Tryz.f40 := by
  intro k seq tr inst id side ord pr q sh st wh a b tag
  rcases kinds k with h | h | h | h | h | h | h | h | h | h
  · exact fput_k1 k seq tr inst id side ord pr q sh st wh a b tag h
  · exact fput_k2 k seq tr inst id side ord pr q sh st wh a b tag h
  · exact fput_k3 k seq tr inst id side ord pr q sh st wh a b tag h
  · exact fput_k4 k seq tr inst id side ord pr q sh st wh a b tag h
  · exact fput_k5 k seq tr inst id side ord pr q sh st wh a b tag h
  · exact fput_k6 k seq tr inst id side ord pr q sh st wh a b tag h
  · exact fput_k7 k seq tr inst id side ord pr q sh st wh a b tag h
  · exact fput_k8 k seq tr inst id side ord pr q sh st wh a b tag h
  · exact fput_k9 k seq tr inst id side ord pr q sh st wh a b tag h
  · exact fput_k10 k seq tr inst id side ord pr q sh st wh a b tag h
set_option maxRecDepth 100000 in
theorem fput_p : (FnIs Tryz.prog 40 ∧ FnOk Tryz.prog 40 fput_s) ∧ (idsOk fput_s.cs && idsOk fput_s.cs' && Nat.ble fput_s.n fput_s.n') = true :=
  fn_of (l := [(30, fright_s.call), (39, fu8_s.call), (63, refu32s_c)]) (hi := fput_h) (S := fput_s) (fn := Tryz.f40) (c := Tryz.f40.body.get!) tysOk mixOk ⟨.inl fright_m, .inl fu8_m, .inl refu32s_m, trivial⟩ (by kernel_rfl) (by kernel_rfl) (by kernel_rfl) (by kernel_rfl) (by kernel_rfl) fput_d
theorem fput_m : May Tryz.prog (40, fput_s.call) := may_call fput_p
theorem fput_n : May Tryz.prog (40, fput_s.callN) := may_callN fput_p

end Go.J

set_option linter.unusedSimpArgs false
set_option linter.unusedVariables false
set_option linter.unusedSectionVars false
namespace Go.J
open Go.Proofs

theorem k78 {xs : List UInt8} {at' k : Int} {bad' : Bool} (_ : Rd xs 0 false 1 at' bad' k) : k = 7 ∨ k = 8 ∨ (decide (k = 7) = false ∧ decide (k = 8) = false) := by
  by_cases h7 : k = 7
  · exact .inl h7
  · by_cases h8 : k = 8
    · exact .inr (.inl h8)
    · exact .inr (.inr ⟨decide_eq_false h7, decide_eq_false h8⟩)
@[reducible] def fnote_s : Spec := { note_s with }
@[reducible] noncomputable def refnum_c := inl ⟨tys, [(27, fru32r_s.call)]⟩ ⟨[], [], []⟩ Tryz.f67 Tryz.f67.body.get!
theorem refnum_m : May Tryz.prog (67, refnum_c) :=
  may_inl tysOk mixOk ⟨.inl fru32r_m, trivial⟩ (by kernel_rfl) (by kernel_rfl) (by kernel_rfl) (by kernel_rfl)
@[reducible] def fget_s : Spec := { get_s with }
@[reducible] def fget_h : Hints := ⟨[], [], []⟩
@[reducible] noncomputable def fget_e : Env := ⟨tys, [(48, fru8r_s.call), (28, frsumr_s.call), (67, refnum_c), (68, frend_s.call), (30, fright_s.call)]⟩
set_option maxHeartbeats 1000000 in
set_option maxRecDepth 100000 in
theorem fget_d : denF fget_e fget_s fget_h Tryz.f50 := by
  intro xs
  intro hpre
  repeat' (first | (conv => whnf); first | refine And.intro ?_ ?_ | refine Is.mk ?_ | (intro h; cases h; done) | (intro h; obtain rfl := of_decide_eq_true h) | (intro _))
  all_goals try dsimp only [maxLen, El.ty] at *
  all_goals try trivial
  all_goals repeat (with_reducible cases ‹_ ∧ _›)
  all_goals try subst_vars
  all_goals try ((with_reducible apply in_l); (repeat (first | with_reducible refine Rd.in (by assumption) ?_ | with_reducible refine RdS.in (by assumption) ?_)); (with_reducible exact in_z _))
  all_goals try ((with_reducible apply in_r); (repeat (first | with_reducible refine Rd.in (by assumption) ?_ | with_reducible refine RdS.in (by assumption) ?_)); (with_reducible exact in_z _))
  all_goals try (with_reducible apply List.length_replicate)
  all_goals try ((with_reducible exact RdS.len (by assumption) (in_l (n := ((List.length (α := UInt8) _ : Nat) : Int)) (Rd.in (by assumption) (in_z _)))))
  all_goals try ((with_reducible rename decide (_ = 9) = false => k9); (with_reducible rename Rd _ 0 false 1 _ _ _ => h1); (with_reducible rcases k78 h1 with rfl | rfl | ⟨k7, k8⟩))
  all_goals try (with_reducible rename (!rightF _ _ _ _ _ _ _ _ _ _ _ _ _ _ _) = _ => h9)
  all_goals try ((with_reducible have hn := other_no h9 (by assumption) (by assumption) (by assumption) (by assumption) (by assumption) (by assumption) (by assumption) (by assumption) (by assumption)); (exact hn.elim))
  all_goals try (with_reducible rename Rd _ 0 false 1 _ _ _ => h1)
  all_goals try ((with_reducible have hg := get_other h1.first (by assumption) (by assumption) (by assumption) (by assumption) (by assumption) (by assumption) (by assumption) (by assumption) (by assumption)); (with_reducible rw [hg]); (try (with_reducible exact zero_fst)); done)
  all_goals try ((with_reducible have hg := get_cases h1.first); (with_reducible rcases hg with ⟨hL, hg⟩ | ⟨hL, hg⟩); all_goals (with_reducible rw [hg]); all_goals clear hg; all_goals (simp only [lenK, Int.reduceEq, reduceIte] at hL))
  all_goals try (with_reducible rename (!(!_ && decide (_ = _))) = _ => hE)
  all_goals try (with_reducible exact (rfl : false = (zeroC, false).2))
  all_goals try (with_reducible exact (zero_fst : _ = (zeroC, false).1))
  all_goals try ((with_reducible obtain ⟨rfl, hat⟩ := end_yes hE); (repeat (first | ((with_reducible rename Rd _ _ _ _ _ false _ => hR); (first | (with_reducible obtain ⟨rfl, rfl, hz, rfl⟩ := hR.back1'); (clear hR) | (with_reducible obtain ⟨rfl, rfl, hz, rfl⟩ := hR.back4'); (clear hR) | (with_reducible obtain ⟨_, rfl, hz, _⟩ := hR.back1'); (clear hR))) | ((with_reducible rename RdS _ _ _ _ false _ => hR); (with_reducible obtain ⟨rfl, rfl, hz, rfl⟩ := hR.back); (clear hR)))); exfalso; omega)
  all_goals try (repeat (first | ((with_reducible rename Rd _ _ false _ _ _ _ => hR); (first | (with_reducible obtain ⟨rfl, rfl, rfl⟩ := hR.fwd1 (by omega)); (clear hR) | (with_reducible obtain ⟨rfl, rfl, rfl⟩ := hR.fwd4 (by omega)); (clear hR) | (with_reducible obtain ⟨rfl, rfl, _⟩ := hR.fwd1 (by omega)); (clear hR))) | ((with_reducible rename RdS _ _ false _ _ _ => hR); (with_reducible obtain ⟨rfl, rfl, rfl⟩ := hR.fwd (by omega)); (clear hR))))
  all_goals try (have hn := end_no hE rfl; exfalso; omega)
  all_goals try (simp only [decC, rightC, Int.reduceEq, reduceIte, wrap_rv4, Int.reduceAdd, Int.reduceToNat] at h9 ⊢)
  all_goals try (first | exact fin_no1 h9 | exact fin_no2 h9 | exact fin_yes1 h9 | exact fin_yes2 h9)
set_option maxRecDepth 100000 in
theorem fget_p : (FnIs Tryz.prog 50 ∧ FnOk Tryz.prog 50 fget_s) ∧ (idsOk fget_s.cs && idsOk fget_s.cs' && Nat.ble fget_s.n fget_s.n') = true :=
  fn_of (l := [(48, fru8r_s.call), (28, frsumr_s.call), (67, refnum_c), (68, frend_s.call), (30, fright_s.call)]) (hi := fget_h) (S := fget_s) (fn := Tryz.f50) (c := Tryz.f50.body.get!) tysOk mixOk ⟨.inl fru8r_m, .inl frsumr_m, .inl refnum_m, .inl frend_m, .inl fright_m, trivial⟩ (by kernel_rfl) (by kernel_rfl) (by kernel_rfl) (by kernel_rfl) (by kernel_rfl) fget_d
theorem fget_m : May Tryz.prog (50, fget_s.call) := may_call fget_p
theorem fget_n : May Tryz.prog (50, fget_s.callN) := may_callN fget_p

end Go.J

set_option linter.unusedSimpArgs false
set_option linter.unusedVariables false
set_option linter.unusedSectionVars false
namespace Go.J
open Go.Proofs

@[reducible] def recE : El := .cons iE (.cons iE (.cons iE (.cons cmdE .nil)))
def noneC : cmdE.ty → Bool := fun (k, seq, tr, inst, id, side, ord, pr, q, sh, st, wh, a, b, tag, _) => zs [k, seq, tr, inst, id, side, ord, pr, q, sh, st, wh, a, b] && zt tag
/-- May a record be? -/
def arightF (k n t : Int) (c : cmdE.ty) : Bool :=
  if k = 1 then decide (0 < n) && (decide (n ≤ 1099511627776) && (decide (t = 0) && noneC c))
  else if k = 2 then w1 0 31 t && (rightC c && decide (n = 0))
  else if k = 3 then w1 0 31 t && (decide (n = 0) && noneC c)
  else if k = 4 then w1 0 31 t && (decide (n = 0) && noneC c)
  else if k = 5 then w1 0 31 t && (decide (n = 0) && noneC c)
  else false
@[reducible] def aright_s : Spec where
  n := 0
  cs := []
  ar := [.el recE]
  pre := fun ((_, _, _, (_, _, _, _, _, _, _, _, _, _, _, _, _, _, tag, _), _), _) => tag.length = 32
  n' := 0
  cs' := []
  rs := [.el .bool]
  post := .fn fun ((k, n, t, c, _), _) => (arightF k n t c, ())
theorem kinds5 (k : Int) : k = 1 ∨ k = 2 ∨ k = 3 ∨ k = 4 ∨ k = 5 ∨ (k ≠ 1 ∧ k ≠ 2 ∧ k ≠ 3 ∧ k ≠ 4 ∧ k ≠ 5) := by omega
@[reducible] def aright_h : Hints := ⟨[], [], []⟩
@[reducible] noncomputable def aright_e : Env := ⟨tys, [(31, right_s.call)]⟩
set_option maxHeartbeats 1000000 in
set_option maxRecDepth 100000 in
theorem aright_d : denF aright_e aright_s aright_h Tryz.f15 := by
  intro k n t kk seq tr inst id side ord pr q sh st wh a b tag
  intro htag
  dsimp only [aright_s] at htag
  rcases kinds5 k with rfl | rfl | rfl | rfl | rfl | ⟨n1, n2, n3, n4, n5⟩
  · repeat' (first | (conv => whnf); first | done | exact True.intro | refine And.intro ?_ ?_ | refine Is.mk ?_ | (intro h; cases h; done) | (intro _))
    all_goals try (with_reducible exact htag)
    all_goals try (change (decide ((1 : Int) = 1) && (decide (n = n) && (decide (t = 0) && (decide (kk = 0) && (decide (seq = 0) && (decide (tr = 0) && (decide (inst = 0) && (decide (id = 0) && (decide (side = 0) && (decide (ord = 0) && (decide (pr = 0) && (decide (q = 0) && (decide (sh = 0) && (decide (st = 0) && (decide (wh = 0) && (decide (a = 0) && (decide (b = 0) && (zt tag)))))))))))))))))) = _)
    all_goals (simp_all [arightF, noneC, rightC, w1, zs, Bool.and_assoc] <;> (first | (intros; exfalso; omega) | (intros; omega)))
  · repeat' (first | (conv => whnf); first | done | exact True.intro | refine And.intro ?_ ?_ | refine Is.mk ?_ | (intro h; cases h; done) | (intro _))
    all_goals try (with_reducible exact htag)
    all_goals try (change (decide ((2 : Int) = 2) && (decide (n = 0) && (decide (t = t) && (decide (kk = kk) && (decide (seq = seq) && (decide (tr = tr) && (decide (inst = inst) && (decide (id = id) && (decide (side = side) && (decide (ord = ord) && (decide (pr = pr) && (decide (q = q) && (decide (sh = sh) && (decide (st = st) && (decide (wh = wh) && (decide (a = a) && (decide (b = b) && (decide (tag = tag))))))))))))))))))) = _)
    all_goals (simp_all [arightF, noneC, rightC, w1, zs, Bool.and_assoc] <;> (first | (intros; exfalso; omega) | (intros; omega)))
  · repeat' (first | (conv => whnf); first | done | exact True.intro | refine And.intro ?_ ?_ | refine Is.mk ?_ | (intro h; cases h; done) | (intro _))
    all_goals try (with_reducible exact htag)
    all_goals try (change (decide ((3 : Int) = 3) && (decide (n = 0) && (decide (t = t) && (decide (kk = 0) && (decide (seq = 0) && (decide (tr = 0) && (decide (inst = 0) && (decide (id = 0) && (decide (side = 0) && (decide (ord = 0) && (decide (pr = 0) && (decide (q = 0) && (decide (sh = 0) && (decide (st = 0) && (decide (wh = 0) && (decide (a = 0) && (decide (b = 0) && (zt tag)))))))))))))))))) = _)
    all_goals (simp_all [arightF, noneC, rightC, w1, zs, Bool.and_assoc] <;> (first | (intros; exfalso; omega) | (intros; omega)))
  · repeat' (first | (conv => whnf); first | done | exact True.intro | refine And.intro ?_ ?_ | refine Is.mk ?_ | (intro h; cases h; done) | (intro _))
    all_goals try (with_reducible exact htag)
    all_goals try (change (decide ((4 : Int) = 4) && (decide (n = 0) && (decide (t = t) && (decide (kk = 0) && (decide (seq = 0) && (decide (tr = 0) && (decide (inst = 0) && (decide (id = 0) && (decide (side = 0) && (decide (ord = 0) && (decide (pr = 0) && (decide (q = 0) && (decide (sh = 0) && (decide (st = 0) && (decide (wh = 0) && (decide (a = 0) && (decide (b = 0) && (zt tag)))))))))))))))))) = _)
    all_goals (simp_all [arightF, noneC, rightC, w1, zs, Bool.and_assoc] <;> (first | (intros; exfalso; omega) | (intros; omega)))
  · repeat' (first | (conv => whnf); first | done | exact True.intro | refine And.intro ?_ ?_ | refine Is.mk ?_ | (intro h; cases h; done) | (intro _))
    all_goals try (with_reducible exact htag)
    all_goals try (change (decide ((5 : Int) = 5) && (decide (n = 0) && (decide (t = t) && (decide (kk = 0) && (decide (seq = 0) && (decide (tr = 0) && (decide (inst = 0) && (decide (id = 0) && (decide (side = 0) && (decide (ord = 0) && (decide (pr = 0) && (decide (q = 0) && (decide (sh = 0) && (decide (st = 0) && (decide (wh = 0) && (decide (a = 0) && (decide (b = 0) && (zt tag)))))))))))))))))) = _)
    all_goals (simp_all [arightF, noneC, rightC, w1, zs, Bool.and_assoc] <;> (first | (intros; exfalso; omega) | (intros; omega)))
  · repeat' (first | (conv => whnf); first | done | exact True.intro | refine And.intro ?_ ?_ | refine Is.mk ?_ | (intro h; cases h; done) | (intro h; exact absurd h (by simp only [decide_eq_true_eq]; assumption)) | (intro _))
    all_goals (simp only [arightF, n1, n2, n3, n4, n5, if_false]; done)
set_option maxRecDepth 100000 in
theorem aright_p : (FnIs Tryz.prog 15 ∧ FnOk Tryz.prog 15 aright_s) ∧ (idsOk aright_s.cs && idsOk aright_s.cs' && Nat.ble aright_s.n aright_s.n') = true :=
  fn_of (l := [(31, right_s.call)]) (hi := aright_h) (S := aright_s) (fn := Tryz.f15) (c := Tryz.f15.body.get!) tysOk mixOk ⟨.inl right_m, trivial⟩ (by kernel_rfl) (by kernel_rfl) (by kernel_rfl) (by kernel_rfl) (by kernel_rfl) aright_d
theorem aright_m : May Tryz.prog (15, aright_s.call) := may_call aright_p
theorem aright_n : May Tryz.prog (15, aright_s.callN) := may_callN aright_p
end Go.J

set_option linter.unusedSimpArgs false
set_option linter.unusedVariables false
set_option linter.unusedSectionVars false
namespace Go.J
open Go.Proofs

theorem w4_in {n : Int} (h : w4 n = true) : 0 ≤ n ∧ n ≤ 1073741824 := by simpa [w4] using h
theorem w1_in {lo hi n : Int} (h : w1 lo hi n = true) : lo ≤ n ∧ n ≤ hi := by simpa [w1] using h
theorem fb_be1 {n : Int} (h0 : 0 ≤ n) (h1 : n ≤ 255) : fb (be 1 n) = n := fb_be 1 n h0 (by show n < 256; omega)
theorem fb_be4 {n : Int} (h0 : 0 ≤ n) (h1 : n ≤ 1073741824) : fb (be 4 n) = n := fb_be 4 n h0 (by show n < 4294967296; omega)
@[reducible] def bytesC : cmdE.ty → List UInt8 := fun (k, seq, tr, inst, id, side, ord, pr, q, sh, st, wh, a, b, tag, _) => bytesF k seq tr inst id side ord pr q sh st wh a b tag
@[reducible] def lenC : cmdE.ty → Prop := fun (k, seq, tr, inst, id, side, ord, pr, q, sh, st, wh, a, b, tag, _) => tag.length = 32

/-- What a right command's kind is. -/
theorem right_kind {k seq tr inst id side ord pr q sh st wh a b : Int} {tag : List UInt8} (h : rightF k seq tr inst id side ord pr q sh st wh a b tag = true) : 1 ≤ k ∧ k ≤ 9 := by
  rcases kinds k with rfl | rfl | rfl | rfl | rfl | rfl | rfl | rfl | rfl | ⟨n1, n2, n3, n4, n5, n6, n7, n8, n9⟩
  all_goals first
    | omega
    | (simp only [rightF, n1, n2, n3, n4, n5, n6, n7, n8, n9, if_false] at h; cases h)
theorem right_len {k seq tr inst id side ord pr q sh st wh a b : Int} {tag : List UInt8} (ht : tag.length = 32) (h : rightF k seq tr inst id side ord pr q sh st wh a b tag = true) :
    ((bytesF k seq tr inst id side ord pr q sh st wh a b tag).length : Int) = lenK k := by
  rcases kinds k with rfl | rfl | rfl | rfl | rfl | rfl | rfl | rfl | rfl | ⟨n1, n2, n3, n4, n5, n6, n7, n8, n9⟩
  all_goals first
    | (simp only [rightF, n1, n2, n3, n4, n5, n6, n7, n8, n9, if_false] at h; cases h; done)
    | (simp only [bytesF, restF, lenK, Int.reduceEq, reduceIte, List.length_append, be_length, ht, List.length_nil]; rfl)
theorem rv_first {k : Int} (h0 : 0 ≤ k) (h1 : k ≤ 255) (r : List UInt8) : rv (be 1 k ++ r) 0 1 = k := by
  have e : rv (be 1 k ++ r) 0 1 = fb (be 1 k) := rfl
  rw [e, fb_be1 h0 h1]
theorem dec_bytes {k seq tr inst id side ord pr q sh st wh a b : Int} {tag : List UInt8} (ht : tag.length = 32) (h : rightF k seq tr inst id side ord pr q sh st wh a b tag = true) :
    decC (bytesF k seq tr inst id side ord pr q sh st wh a b tag) k = (k, seq, tr, inst, id, side, ord, pr, q, sh, st, wh, a, b, tag, ()) := by
  rcases kinds k with rfl | rfl | rfl | rfl | rfl | rfl | rfl | rfl | rfl | ⟨n1, n2, n3, n4, n5, n6, n7, n8, n9⟩
  all_goals try (simp only [rightF, n1, n2, n3, n4, n5, n6, n7, n8, n9, if_false] at h; cases h; done)
  all_goals simp only [rightF, zs, zt, Int.reduceEq, reduceIte, Bool.and_eq_true, decide_eq_true_eq, and_true] at h
  all_goals simp only [decC, bytesF, restF, Int.reduceEq, reduceIte, noTag]
  · obtain ⟨h1, ⟨rfl, rfl, rfl, rfl, rfl, rfl, rfl, rfl, rfl, rfl, rfl, rfl⟩, rfl⟩ := h
    have e1 := w1_in h1
    rw [show rv (be 1 1 ++ be 1 tr) 1 1 = fb (be 1 tr) from rfl, fb_be1 e1.1 (by omega)]
  · obtain ⟨rfl, rfl, rfl, rfl, rfl, rfl, rfl, rfl, rfl, rfl, rfl, rfl, rfl⟩ := h
    rw [show List.drop 1 (be 1 2 ++ tag) = tag from rfl, List.take_of_length_le (by omega)]
  · obtain ⟨a1, a2, a3, a4, a5, a6, a7, a8, a9, ⟨rfl, rfl, rfl, rfl⟩, rfl⟩ := h
    have a1 := w4_in a1; have a2 := w1_in a2; have a3 := w4_in a3; have a4 := w1_in a4; have a5 := w1_in a5; have a6 := w4_in a6; have a7 := w4_in a7; have a8 := w4_in a8; have a9 := w4_in a9
    simp only [List.append_assoc]
    generalize hb : be 1 3 ++ (be 4 seq ++ (be 1 inst ++ (be 4 id ++ (be 1 side ++ (be 1 ord ++ (be 4 pr ++ (be 4 q ++ (be 4 sh ++ be 4 st)))))))) = l
    have e1 : rv l 1 4 = fb (be 4 seq) := by rw [← hb]; rfl
    have e2 : rv l 5 1 = fb (be 1 inst) := by rw [← hb]; rfl
    have e3 : rv l 6 4 = fb (be 4 id) := by rw [← hb]; rfl
    have e4 : rv l 10 1 = fb (be 1 side) := by rw [← hb]; rfl
    have e5 : rv l 11 1 = fb (be 1 ord) := by rw [← hb]; rfl
    have e6 : rv l 12 4 = fb (be 4 pr) := by rw [← hb]; rfl
    have e7 : rv l 16 4 = fb (be 4 q) := by rw [← hb]; rfl
    have e8 : rv l 20 4 = fb (be 4 sh) := by rw [← hb]; rfl
    have e9 : rv l 24 4 = fb (be 4 st) := by rw [← hb]; rfl
    rw [e1, e2, e3, e4, e5, e6, e7, e8, e9, fb_be4 a1.1 a1.2, fb_be1 a2.1 (by omega), fb_be4 a3.1 a3.2, fb_be1 a4.1 a4.2, fb_be1 a5.1 a5.2, fb_be4 a6.1 a6.2, fb_be4 a7.1 a7.2, fb_be4 a8.1 a8.2, fb_be4 a9.1 a9.2]
  · obtain ⟨a1, a2, a3, a4, ⟨rfl, rfl, rfl, rfl, rfl, rfl, rfl, rfl, rfl⟩, rfl⟩ := h
    have a1 := w4_in a1; have a2 := w1_in a2; have a3 := w4_in a3; have a4 := w1_in a4
    simp only [List.append_assoc]
    generalize hb : be 1 4 ++ (be 4 seq ++ (be 1 inst ++ (be 4 id ++ be 1 tr))) = l
    have e1 : rv l 1 4 = fb (be 4 seq) := by rw [← hb]; rfl
    have e2 : rv l 5 1 = fb (be 1 inst) := by rw [← hb]; rfl
    have e3 : rv l 6 4 = fb (be 4 id) := by rw [← hb]; rfl
    have e4 : rv l 10 1 = fb (be 1 tr) := by rw [← hb]; rfl
    rw [e1, e2, e3, e4, fb_be4 a1.1 a1.2, fb_be1 a2.1 (by omega), fb_be4 a3.1 a3.2, fb_be1 a4.1 (by omega)]
  · obtain ⟨a1, a2, a3, a4, a5, ⟨rfl, rfl, rfl, rfl, rfl, rfl, rfl, rfl⟩, rfl⟩ := h
    have a1 := w4_in a1; have a2 := w1_in a2; have a3 := w4_in a3; have a4 := w4_in a4; have a5 := w4_in a5
    simp only [List.append_assoc]
    generalize hb : be 1 5 ++ (be 4 seq ++ (be 1 inst ++ (be 4 id ++ (be 4 pr ++ be 4 q)))) = l
    have e1 : rv l 1 4 = fb (be 4 seq) := by rw [← hb]; rfl
    have e2 : rv l 5 1 = fb (be 1 inst) := by rw [← hb]; rfl
    have e3 : rv l 6 4 = fb (be 4 id) := by rw [← hb]; rfl
    have e4 : rv l 10 4 = fb (be 4 pr) := by rw [← hb]; rfl
    have e5 : rv l 14 4 = fb (be 4 q) := by rw [← hb]; rfl
    rw [e1, e2, e3, e4, e5, fb_be4 a1.1 a1.2, fb_be1 a2.1 (by omega), fb_be4 a3.1 a3.2, fb_be4 a4.1 a4.2, fb_be4 a5.1 a5.2]
  · obtain ⟨a1, a2, a3, ⟨rfl, rfl, rfl, rfl, rfl, rfl, rfl, rfl, rfl, rfl⟩, rfl⟩ := h
    have a1 := w4_in a1; have a2 := w1_in a2; have a3 := w1_in a3
    simp only [List.append_assoc]
    generalize hb : be 1 6 ++ (be 4 seq ++ (be 1 inst ++ be 1 wh)) = l
    have e1 : rv l 1 4 = fb (be 4 seq) := by rw [← hb]; rfl
    have e2 : rv l 5 1 = fb (be 1 inst) := by rw [← hb]; rfl
    have e3 : rv l 6 1 = fb (be 1 wh) := by rw [← hb]; rfl
    rw [e1, e2, e3, fb_be4 a1.1 a1.2, fb_be1 a2.1 (by omega), fb_be1 (by omega) (by omega)]
  · obtain ⟨⟨rfl, rfl, rfl, rfl, rfl, rfl, rfl, rfl, rfl, rfl, rfl, rfl, rfl⟩, rfl⟩ := h
    rfl
  · obtain ⟨⟨rfl, rfl, rfl, rfl, rfl, rfl, rfl, rfl, rfl, rfl, rfl, rfl, rfl⟩, rfl⟩ := h
    rfl
  · obtain ⟨a1, a2, a3, a4, ⟨rfl, rfl, rfl, rfl, rfl, rfl, rfl, rfl, rfl⟩, rfl⟩ := h
    have a1 := w4_in a1; have a2 := w1_in a2; have a3 := w1_in a3; have a4 := w1_in a4
    simp only [List.append_assoc]
    generalize hb : be 1 9 ++ (be 4 seq ++ (be 1 wh ++ (be 1 a ++ be 1 b))) = l
    have e1 : rv l 1 4 = fb (be 4 seq) := by rw [← hb]; rfl
    have e2 : rv l 5 1 = fb (be 1 wh) := by rw [← hb]; rfl
    have e3 : rv l 6 1 = fb (be 1 a) := by rw [← hb]; rfl
    have e4 : rv l 7 1 = fb (be 1 b) := by rw [← hb]; rfl
    rw [e1, e2, e3, e4, fb_be4 a1.1 a1.2, fb_be1 (by omega) (by omega), fb_be1 a3.1 a3.2, fb_be1 a4.1 a4.2]
/-- A right command comes back. -/
theorem get_bytes {k seq tr inst id side ord pr q sh st wh a b : Int} {tag : List UInt8} (ht : tag.length = 32) (h : rightF k seq tr inst id side ord pr q sh st wh a b tag = true) :
    getF (bytesF k seq tr inst id side ord pr q sh st wh a b tag) = ((k, seq, tr, inst, id, side, ord, pr, q, sh, st, wh, a, b, tag, ()), true) := by
  have hk := right_kind h
  have e : rv (bytesF k seq tr inst id side ord pr q sh st wh a b tag) 0 1 = k := rv_first (by omega) (by omega) _
  unfold getF
  rw [e, dec_bytes ht h, if_pos ⟨right_len ht h, h⟩]
/-- What is read is as long as it must be. -/
theorem get_len {xs : List UInt8} (h : (getF xs).2 = true) : (xs.length : Int) = lenK (rv xs 0 1) := by
  unfold getF at h
  split at h
  · next hh => exact hh.1
  · cases h
theorem get_short {k seq tr inst id side ord pr q sh st wh a b : Int} {tag : List UInt8} (ht : tag.length = 32) (h : rightF k seq tr inst id side ord pr q sh st wh a b tag = true) {n : Nat} (hn : n < (bytesF k seq tr inst id side ord pr q sh st wh a b tag).length) :
    (getF ((bytesF k seq tr inst id side ord pr q sh st wh a b tag).take n)).2 = false := by
  have hk := right_kind h
  have hl := right_len ht h
  cases hg : (getF ((bytesF k seq tr inst id side ord pr q sh st wh a b tag).take n)).2
  · rfl
  · have h2 := get_len hg
    rw [List.length_take] at h2
    cases n with
    | zero =>
      rw [List.take_zero, show rv [] 0 1 = 0 from rfl] at h2
      have : lenK 0 = -1 := rfl
      omega
    | succ n =>
      have e : rv ((bytesF k seq tr inst id side ord pr q sh st wh a b tag).take (n + 1)) 0 1 = k := by
        have : rv ((bytesF k seq tr inst id side ord pr q sh st wh a b tag).take (n + 1)) 0 1 = fb (be 1 k) := rfl
        rw [this, fb_be1 (by omega) (by omega)]
      rw [e] at h2
      omega
theorem get_long {k seq tr inst id side ord pr q sh st wh a b : Int} {tag : List UInt8} (ht : tag.length = 32) (h : rightF k seq tr inst id side ord pr q sh st wh a b tag = true) (c : UInt8) :
    (getF (bytesF k seq tr inst id side ord pr q sh st wh a b tag ++ [c])).2 = false := by
  have hk := right_kind h
  have hl := right_len ht h
  cases hg : (getF (bytesF k seq tr inst id side ord pr q sh st wh a b tag ++ [c])).2
  · rfl
  · have h2 := get_len hg
    have e : rv (bytesF k seq tr inst id side ord pr q sh st wh a b tag ++ [c]) 0 1 = k := by
      have : rv (bytesF k seq tr inst id side ord pr q sh st wh a b tag ++ [c]) 0 1 = fb (be 1 k) := rfl
      rw [this, fb_be1 (by omega) (by omega)]
    rw [e, List.length_append, List.length_singleton] at h2
    omega
theorem bytes_pos (k seq tr inst id side ord pr q sh st wh a b : Int) (tag : List UInt8) : 0 < (bytesF k seq tr inst id side ord pr q sh st wh a b tag).length := by
  unfold bytesF
  rw [List.length_append, be_length]
  omega
theorem put_pos (k seq tr inst id side ord pr q sh st wh a b : Int) (tag : List UInt8) : decide (0 < ((putF k seq tr inst id side ord pr q sh st wh a b tag).length : Int)) = rightF k seq tr inst id side ord pr q sh st wh a b tag := by
  have := bytes_pos k seq tr inst id side ord pr q sh st wh a b tag
  unfold putF
  split
  · next h => rw [h]; exact decide_eq_true (by omega)
  · next h =>
    cases hr : rightF k seq tr inst id side ord pr q sh st wh a b tag
    · rfl
    · exact absurd hr h
theorem lenK_le (k : Int) : lenK k ≤ 33 := by
  unfold lenK
  repeat (split; omega)
  omega
theorem put_le (k seq tr inst id side ord pr q sh st wh a b : Int) (tag : List UInt8) (ht : tag.length = 32) : ((putF k seq tr inst id side ord pr q sh st wh a b tag).length : Int) ≤ 256 := by
  unfold putF
  split
  · next h =>
    have := right_len ht h
    have := lenK_le k
    omega
  · simp
theorem put_first (k seq tr inst id side ord pr q sh st wh a b : Int) (tag : List UInt8) (h : rightF k seq tr inst id side ord pr q sh st wh a b tag = true) : IntKind.i64.wrap ((putF k seq tr inst id side ord pr q sh st wh a b tag).getD (Int.toNat 0) El.u8.dflt).toNat = k := by
  have hk := right_kind h
  unfold putF
  rw [if_pos h]
  have e : ((bytesF k seq tr inst id side ord pr q sh st wh a b tag).getD (Int.toNat 0) El.u8.dflt) = UInt8.ofNat (k / 256 ^ 0 % 256).toNat := rfl
  rw [e, UInt8.toNat_ofNat_of_lt' (by show _ < 256; omega), IntKind.wrap_i64]
  omega
theorem put_right (k seq tr inst id side ord pr q sh st wh a b : Int) (tag : List UInt8) (h : rightF k seq tr inst id side ord pr q sh st wh a b tag = true) : putF k seq tr inst id side ord pr q sh st wh a b tag = bytesF k seq tr inst id side ord pr q sh st wh a b tag := if_pos h
theorem put_not (k seq tr inst id side ord pr q sh st wh a b : Int) (tag : List UInt8) (h : rightF k seq tr inst id side ord pr q sh st wh a b tag = false) : putF k seq tr inst id side ord pr q sh st wh a b tag = [] := if_neg (by rw [h]; exact Bool.false_ne_true)
theorem put_same (k seq tr inst id side ord pr q sh st wh a b : Int) (tag : List UInt8) (k2 seq2 tr2 inst2 id2 side2 ord2 pr2 q2 sh2 st2 wh2 a2 b2 : Int) (tag2 : List UInt8) (ht : tag.length = 32) (ht2 : tag2.length = 32) (h : rightF k seq tr inst id side ord pr q sh st wh a b tag = true) (h2 : rightF k2 seq2 tr2 inst2 id2 side2 ord2 pr2 q2 sh2 st2 wh2 a2 b2 tag2 = true) (e : k = k2) : ((putF k seq tr inst id side ord pr q sh st wh a b tag).length : Int) = ((putF k2 seq2 tr2 inst2 id2 side2 ord2 pr2 q2 sh2 st2 wh2 a2 b2 tag2).length : Int) := by
  rw [put_right _ _ _ _ _ _ _ _ _ _ _ _ _ _ _ h, put_right _ _ _ _ _ _ _ _ _ _ _ _ _ _ _ h2, right_len ht h, right_len ht2 h2, e]

end Go.J

set_option linter.unusedSimpArgs false
set_option linter.unusedVariables false
set_option linter.unusedSectionVars false
namespace Go.J
open Go.Proofs

@[reducible] def equal_s : Spec where
  n := 0
  cs := []
  ar := [.lend .u8, .lend .u8]
  pre := fun _ => True
  n' := 0
  cs' := []
  rs := [.el .bool]
  post := .fn fun (xs, ys, _) => (decide (xs = ys), ())
@[reducible] def equal_a : Ann where
  nx := 0
  cs := []
  ss := [(0, .lend .u8), (1, .lend .u8), (12, .el iE), (13, .el iE)]
  inv := fun (x0, y0, l0, _) (x, y, l, i, _) => x = x0 ∧ y = y0 ∧ l = l0 ∧ l = x.length ∧ 0 ≤ i ∧ i ≤ l ∧ x.length = y.length ∧ x.take i.toNat = y.take i.toNat
  mu := fun (x, _, _, i, _) => x.length - i.toNat
@[reducible] def equal_h : Hints := ⟨[(6, (tks 0 9 .done))], [(4, equal_a)], []⟩
@[reducible] noncomputable def equal_e : Env := ⟨tys, []⟩
set_option maxHeartbeats 1000000 in
set_option maxRecDepth 100000 in
theorem equal_d : denF equal_e equal_s equal_h Tryz.f47 := by
  intro xs ys
  repeat' (first | (conv => whnf); first | refine And.intro ?_ ?_ | refine Is.mk ?_ | (intro h; cases h; done) | (intro _))
  all_goals try dsimp only [maxLen, El.ty] at *
  all_goals try trivial
  all_goals repeat (with_reducible cases ‹_ ∧ _›)
  all_goals try subst_eqs
  all_goals try simp only [IntKind.wrap_i64, IntKind.wrap_u64, IntKind.wrap_u32, IntKind.wrap_u8, decide_eq_true_eq, decide_eq_false_iff_not, Bool.not_eq_true', Bool.not_eq_false', Bool.not_not, Bool.not_true, Bool.not_false, List.length_cons, List.length_nil, Int.toNat_natCast, UInt8.ofNat_toNat] at *
  all_goals try first | omega | (with_reducible rfl) | (with_reducible exact u8lt _)
  · have : xs ≠ ys := fun e => by subst e; omega
    simp [this]
  all_goals rename Int => i
  all_goals rename List.take _ _ = _ => h1
  · have : xs ≠ ys := fun e => by subst e; exact absurd rfl (by assumption)
    simp [this]
  · rw [show ((i + 1 + 9223372036854775808) % 18446744073709551616 - 9223372036854775808).toNat = i.toNat + 1 by omega, take_succ_getD _ _ (by omega), take_succ_getD _ _ (by omega), h1]
    congr 2
    exact UInt8.toNat_inj.1 (Int.ofNat_inj.1 (by assumption))
  · rw [List.take_of_length_le (by omega), List.take_of_length_le (by omega)] at h1
    simp [h1]
set_option maxRecDepth 100000 in
theorem equal_p : (FnIs Tryz.prog 47 ∧ FnOk Tryz.prog 47 equal_s) ∧ (idsOk equal_s.cs && idsOk equal_s.cs' && Nat.ble equal_s.n equal_s.n') = true :=
  fn_of (l := []) (hi := equal_h) (S := equal_s) (fn := Tryz.f47) (c := Tryz.f47.body.get!) tysOk mixOk trivial (by kernel_rfl) (by kernel_rfl) (by kernel_rfl) (by kernel_rfl) (by kernel_rfl) equal_d
theorem equal_m : May Tryz.prog (47, equal_s.call) := may_call equal_p
theorem equal_n : May Tryz.prog (47, equal_s.callN) := may_callN equal_p
def putC : cmdE.ty → List UInt8 := fun (k, seq, tr, inst, id, side, ord, pr, q, sh, st, wh, a, b, tag, _) => putF k seq tr inst id side ord pr q sh st wh a b tag
/-- A record's bytes. -/
def aputF (k n t : Int) (c : cmdE.ty) : List UInt8 := be 1 k ++ be 8 (n % 18446744073709551616) ++ be 1 t ++ putC c
@[reducible] def recFit : recE.ty → Prop := fun (k, n, t, c, _) => fit64 k ∧ fit64 n ∧ fit64 t ∧ cmdFit c
@[reducible] def aput_s : Spec where
  n := 0
  cs := []
  ar := [.el recE]
  pre := fun (r, _) => recFit r
  n' := 1
  cs' := [(0, .row 5 .u8)]
  rs := [.own 0]
  post := .fn fun ((k, n, t, c, _), _) => (aputF k n t c, ())
@[reducible] def aput_h : Hints := ⟨[(1, (tks 0 2 (tks 3 3 (.last 2 false [4, 5] (.last 6 false [] (.last 7 false [] .done)))))), (2, (tks 0 3 (tks 4 2 (.last 3 false [5] (.last 6 false [] (.last 7 false [] (.last 8 false [] .done)))))))], [], []⟩
@[reducible] noncomputable def aput_e : Env := ⟨tys, [(36, u8_s.call), (35, u64_s.call), (37, put_s.call)]⟩
set_option maxHeartbeats 1000000 in
set_option maxRecDepth 100000 in
theorem aput_d : denF aput_e aput_s aput_h Tryz.f18 := by
  intro k n t kk seq tr inst id side ord pr q sh st wh a b tag
  intro hpre
  dsimp only [aput_s, recFit] at hpre
  obtain ⟨⟨hk0, hk1⟩, ⟨hn0, hn1⟩, ⟨ht0, ht1⟩, hc⟩ := hpre
  dsimp only [cmdFit] at hc
  obtain ⟨htag, hb⟩ := hc
  have hl := put_le kk seq tr inst id side ord pr q sh st wh a b tag htag
  repeat' (first | (conv => whnf); first | done | exact True.intro | refine And.intro ?_ ?_ | refine Is.mk ?_ | (intro h; cases h; done) | (intro _))
  all_goals try dsimp only [maxLen, El.ty] at *
  all_goals try simp only [IntKind.wrap_u64, be1_mod, List.nil_append, List.length_append, List.length_nil, be_length, maxLen]
  all_goals first
    | exact htag
    | exact Int.emod_nonneg _ (by decide)
    | exact Int.emod_lt_of_pos _ (by decide)
    | (clear hl; omega)
    | (clear hb; omega)
    | (with_reducible rfl)
    | rfl
set_option maxRecDepth 100000 in
theorem aput_p : (FnIs Tryz.prog 18 ∧ FnOk Tryz.prog 18 aput_s) ∧ (idsOk aput_s.cs && idsOk aput_s.cs' && Nat.ble aput_s.n aput_s.n') = true :=
  fn_of (l := [(36, u8_s.call), (35, u64_s.call), (37, put_s.call)]) (hi := aput_h) (S := aput_s) (fn := Tryz.f18) (c := Tryz.f18.body.get!) tysOk mixOk ⟨.inl u8_m, .inl u64_m, .inl put_m, trivial⟩ (by kernel_rfl) (by kernel_rfl) (by kernel_rfl) (by kernel_rfl) (by kernel_rfl) aput_d
theorem aput_m : May Tryz.prog (18, aput_s.call) := may_call aput_p
theorem aput_n : May Tryz.prog (18, aput_s.callN) := may_callN aput_p
end Go.J

set_option linter.unusedSimpArgs false
set_option linter.unusedVariables false
set_option linter.unusedSectionVars false
namespace Go.J
open Go.Proofs

@[reducible] def ru64r_s : Spec := { ru64_s with post := rr 8 .u64 }
theorem ru64r_m : May Tryz.prog (43, ru64r_s.call) := may_call (weak_p (q := rr 8 .u64) ru64_p fun x y h => by
  obtain ⟨xs, at_, bad, _⟩ := x; cases h; exact ⟨rfl, rfl, rfl, rfl⟩)
theorem rv_lt (xs : List UInt8) (a : Nat) {n : Nat} {m : Int} (hm : ((256 ^ n : Nat) : Int) ≤ m) : 0 ≤ rv xs a n ∧ rv xs a n < m := by
  have h := fb_lt ((xs.drop a).take n)
  have h2 : ((xs.drop a).take n).length ≤ n := List.length_take_le _ _
  have h3 : (256 : Nat) ^ ((xs.drop a).take n).length ≤ 256 ^ n := Nat.pow_le_pow_right (by decide) h2
  have h4 : ((256 ^ ((xs.drop a).take n).length : Nat) : Int) ≤ ((256 ^ n : Nat) : Int) := Int.ofNat_le.2 h3
  unfold rv
  have h5 : fb (List.take n (List.drop a xs)) < ((256 ^ ((xs.drop a).take n).length : Nat) : Int) := by
    rw [Int.natCast_pow]
    exact h.2
  exact ⟨h.1, by omega⟩
theorem rv_1 (xs : List UInt8) (a : Nat) : -9223372036854775808 ≤ rv xs a 1 ∧ rv xs a 1 ≤ 9223372036854775807 := by have := rv_lt xs a (n := 1) (m := 256) (by decide); omega
theorem rv_4 (xs : List UInt8) (a : Nat) : -9223372036854775808 ≤ rv xs a 4 ∧ rv xs a 4 ≤ 9223372036854775807 := by have := rv_lt xs a (n := 4) (m := 4294967296) (by decide); omega
theorem b64_0 : -9223372036854775808 ≤ (0 : Int) ∧ (0 : Int) ≤ 9223372036854775807 := by decide
theorem noTag_len : noTag.length = 32 := rfl
theorem get_fit (xs : List UInt8) : cmdFit (getF xs).1 := by
  have hz : cmdFit zeroC := ⟨noTag_len, b64_0, b64_0, b64_0, b64_0, b64_0, b64_0, b64_0, b64_0, b64_0, b64_0, b64_0, b64_0, b64_0, b64_0⟩
  unfold getF
  split
  · next h =>
    obtain ⟨hl, -⟩ := h
    revert hl
    have hk := rv_1 xs 0
    generalize rv xs 0 1 = k at hk
    intro hl
    dsimp only
    unfold decC
    unfold lenK at hl
    repeat' split
    all_goals refine ⟨?_, hk, ?_⟩
    all_goals try exact noTag_len
    all_goals repeat' apply And.intro
    all_goals first
      | exact (rv_1 _ _).1
      | exact (rv_1 _ _).2
      | exact (rv_4 _ _).1
      | exact (rv_4 _ _).2
      | exact b64_0.1
      | exact b64_0.2
      | (rw [List.length_take, List.length_drop]; simp_all; omega)
  · exact hz
theorem get_ex (xs : List UInt8) : ∃ (k seq tr inst id side ord pr q sh st wh a b : Int) (tag : List UInt8) (ok : Bool), getF xs = ((k, seq, tr, inst, id, side, ord, pr, q, sh, st, wh, a, b, tag, ()), ok) ∧ cmdFit (k, seq, tr, inst, id, side, ord, pr, q, sh, st, wh, a, b, tag, ()) := by
  have h := get_fit xs
  generalize getF xs = g at h ⊢
  obtain ⟨⟨k, seq, tr, inst, id, side, ord, pr, q, sh, st, wh, a, b, tag, _⟩, ok⟩ := g
  exact ⟨k, seq, tr, inst, id, side, ord, pr, q, sh, st, wh, a, b, tag, ok, rfl, h⟩
theorem Rd.lt1 {xs : List UInt8} {at_ at' v : Int} {bad bad' : Bool} (h : Rd xs at_ bad 1 at' bad' v) : 0 ≤ v ∧ v < 256 := h.lt
theorem Rd.lt8 {xs : List UInt8} {at_ at' v : Int} {bad bad' : Bool} (h : Rd xs at_ bad 8 at' bad' v) : 0 ≤ v ∧ v < 18446744073709551616 := h.lt
theorem Rd.fwd8 {xs : List UInt8} {at_ at' v : Int} {bad' : Bool} (h : Rd xs at_ false 8 at' bad' v) (hl : at_ + 8 ≤ xs.length) : bad' = false ∧ at' = at_ + 8 ∧ v = rv xs at_.toNat 8 := h.fwd hl
theorem rd3_bad {xs : List UInt8} {a1 a2 a3 v1 v2 v3 : Int} {b1 b2 b3 : Bool} (h1 : Rd xs 0 false 1 a1 b1 v1) (h2 : Rd xs a1 b1 8 a2 b2 v2) (h3 : Rd xs a2 b2 1 a3 b3 v3) (hl : ¬ (10 : Int) ≤ xs.length) : b3 = true := by
  cases b3
  · obtain ⟨rfl, rfl, l3, _⟩ := h3.back
    obtain ⟨rfl, rfl, l2, _⟩ := h2.back
    obtain ⟨_, rfl, l1, _⟩ := h1.back
    exfalso
    omega
  · rfl
theorem rd3 {xs : List UInt8} {a1 a2 a3 v1 v2 v3 : Int} {b1 b2 b3 : Bool} (h1 : Rd xs 0 false 1 a1 b1 v1) (h2 : Rd xs a1 b1 8 a2 b2 v2) (h3 : Rd xs a2 b2 1 a3 b3 v3) :
    ((10 : Int) ≤ xs.length ∧ b3 = false ∧ a3 = 10 ∧ v1 = rv xs 0 1 ∧ v2 = rv xs 1 8 ∧ v3 = rv xs 9 1) ∨ (¬ (10 : Int) ≤ xs.length ∧ b3 = true) := by
  by_cases hl : (10 : Int) ≤ xs.length
  · left
    obtain ⟨rfl, rfl, rfl⟩ := h1.fwd1 (by omega)
    obtain ⟨rfl, rfl, rfl⟩ := h2.fwd8 (by omega)
    obtain ⟨rfl, rfl, rfl⟩ := h3.fwd1 (by omega)
    exact ⟨hl, rfl, rfl, rfl, rfl, rfl⟩
  · exact .inr ⟨hl, rd3_bad h1 h2 h3 hl⟩
theorem rest10 (xs : List UInt8) : List.take ((xs.length : Int) - 10).toNat (List.drop (10 : Int).toNat xs) = xs.drop 10 := by
  rw [show (10 : Int).toNat = 10 from rfl, List.take_of_length_le]
  rw [List.length_drop]
  omega
theorem not_tt (h : (!true) = true) : False := by cases h
def arightR : recE.ty → Bool := fun (k, n, t, c, _) => arightF k n t c
def aputR : recE.ty → List UInt8 := fun (k, n, t, c, _) => aputF k n t c
def zeroR : recE.ty := (0, 0, 0, zeroC, ())
/-- What bytes tell. -/
def agetR (xs : List UInt8) : recE.ty := (rv xs 0 1, IntKind.i64.wrap (rv xs 1 8), rv xs 9 1, (if rv xs 0 1 = 2 then (getF (xs.drop 10)).1 else zeroC), ())
def agetB (xs : List UInt8) : Bool := decide (10 ≤ xs.length) && ((!decide (rv xs 0 1 = 2) || (getF (xs.drop 10)).2) && (arightR (agetR xs) && decide (aputR (agetR xs) = xs)))
def agetF (xs : List UInt8) : recE.ty × Bool := if agetB xs = true then (agetR xs, true) else (zeroR, false)
theorem aget_no {xs : List UInt8} (hn : 10 ≤ xs.length) (hk : decide (rv xs 0 1 = 2) = false) (hr : (!arightF (rv xs 0 1) (IntKind.i64.wrap (rv xs 1 8)) (rv xs 9 1) zeroC) = false) (hp : (!decide (aputF (rv xs 0 1) (IntKind.i64.wrap (rv xs 1 8)) (rv xs 9 1) zeroC = xs)) = false) : agetF xs = ((rv xs 0 1, IntKind.i64.wrap (rv xs 1 8), rv xs 9 1, zeroC, ()), true) := by
  have hk := of_decide_eq_false hk
  simp_all [agetF, agetB, agetR, arightR, aputR]
theorem aget_nx {xs : List UInt8} (hk : decide (rv xs 0 1 = 2) = false) (hp : (!decide (aputF (rv xs 0 1) (IntKind.i64.wrap (rv xs 1 8)) (rv xs 9 1) zeroC = xs)) = true) : agetF xs = (zeroR, false) := by
  have hk := of_decide_eq_false hk
  simp_all [agetF, agetB, agetR, arightR, aputR]
@[reducible] def aget_s : Spec where
  n := 0
  cs := []
  ar := [.el (.rd .u8)]
  pre := fun (xs, _) => xs.length ≤ 100000000
  n' := 0
  cs' := []
  rs := [.el recE, .el .bool]
  post := .fn fun (xs, _) => ((agetF xs).1, (agetF xs).2, ())
@[reducible] def aget_h : Hints := ⟨[], [], []⟩
@[reducible] noncomputable def aget_e : Env := ⟨tys, [(41, read_s.call), (42, ru8r_s.call), (43, ru64r_s.call), (44, rbad_s.call), (46, rat_s.call), (45, get_s.call), (15, aright_s.call), (18, aput_s.call), (47, equal_s.call)]⟩
set_option maxHeartbeats 1000000 in
set_option maxRecDepth 100000 in
theorem aget_d : denF aget_e aget_s aget_h Tryz.f20 := by
  intro xs
  intro hpre
  dsimp only [aget_s] at hpre
  repeat' (first | (conv => whnf); first | done | exact True.intro | refine And.intro ?_ ?_ | refine Is.mk ?_ | (intro h; cases h; done) | (intro _))
  all_goals try dsimp only [maxLen, El.ty] at *
  all_goals repeat (with_reducible cases ‹_ ∧ _›)
  all_goals try subst_vars
  all_goals try (with_reducible rename List UInt8 => xs)
  all_goals try ((with_reducible apply in_l); (repeat (first | with_reducible refine Rd.in (by assumption) ?_)); (with_reducible exact in_z _))
  all_goals try ((with_reducible apply in_r); (repeat (first | with_reducible refine Rd.in (by assumption) ?_)); (with_reducible exact in_z _))
  all_goals try (with_reducible apply List.length_replicate)
  all_goals try omega
  all_goals (with_reducible rename Rd _ 0 false 1 _ _ _ => h1)
  all_goals revert h1
  all_goals try (with_reducible rename Rd _ _ _ 8 _ _ _ => h2)
  all_goals try (with_reducible rename Rd _ _ _ 1 _ _ _ => h3)
  all_goals intro h1
  all_goals try have l1 := h1.lt1
  all_goals try have l2 := h2.lt8
  all_goals try have l3 := h3.lt1
  all_goals try omega
  all_goals try (simp only [IntKind.wrap_i64]; omega)
  all_goals (rcases rd3 h1 h2 h3 with ⟨hlen, hb, rfl, rfl, rfl, rfl⟩ | ⟨hlen, hb⟩)
  all_goals cases hb
  all_goals clear h1 h2 h3
  all_goals try (exfalso; with_reducible exact not_tt (by assumption))
  all_goals try simp only [rest10] at *
  all_goals try (rw [List.length_drop]; omega)
  all_goals clear l1 l2 l3
  all_goals try (first | exact congrArg Prod.fst (aget_no (by omega) (by assumption) (by assumption) (by assumption)).symm | exact congrArg Prod.snd (aget_no (by omega) (by assumption) (by assumption) (by assumption)).symm | exact congrArg Prod.fst (aget_nx (by assumption) (by assumption)).symm | exact congrArg Prod.snd (aget_nx (by assumption) (by assumption)).symm)
  all_goals try simp only [agetF, agetB, agetR, arightR, aputR]
  all_goals (obtain ⟨k, seq, tr, inst, id, side, ord, pr, q, sh, st, wh, a, b, tag, ok, eg, hf⟩ := get_ex (xs.drop 10))
  all_goals try simp only [eg] at *
  all_goals (dsimp only [cmdFit] at hf; obtain ⟨htag, hf⟩ := hf)
  all_goals try exact htag
  all_goals try omega
  all_goals repeat (with_reducible cases ‹_ ∧ _›)
  all_goals try assumption
  all_goals (first | (have hn : 10 ≤ xs.length := by omega) | (have hn : ¬ 10 ≤ xs.length := by omega))
  all_goals clear hlen hpre
  all_goals try (rw [show decide (10 ≤ xs.length) = false from decide_eq_false hn]; rfl)
  all_goals (first | (simp_all [zeroR, zeroC, noTag, El.dflt]; done))
set_option maxRecDepth 100000 in
theorem aget_p : (FnIs Tryz.prog 20 ∧ FnOk Tryz.prog 20 aget_s) ∧ (idsOk aget_s.cs && idsOk aget_s.cs' && Nat.ble aget_s.n aget_s.n') = true :=
  fn_of (l := [(41, read_s.call), (42, ru8r_s.call), (43, ru64r_s.call), (44, rbad_s.call), (46, rat_s.call), (45, get_s.call), (15, aright_s.call), (18, aput_s.call), (47, equal_s.call)]) (hi := aget_h) (S := aget_s) (fn := Tryz.f20) (c := Tryz.f20.body.get!) tysOk mixOk ⟨.inl read_m, .inl ru8r_m, .inl ru64r_m, .inl rbad_m, .inl rat_m, .inl get_m, .inl aright_m, .inl aput_m, .inl equal_m, trivial⟩ (by kernel_rfl) (by kernel_rfl) (by kernel_rfl) (by kernel_rfl) (by kernel_rfl) aget_d
theorem aget_m : May Tryz.prog (20, aget_s.call) := may_call aget_p
theorem aget_n : May Tryz.prog (20, aget_s.callN) := may_callN aget_p
end Go.J

set_option linter.unusedSimpArgs false
set_option linter.unusedVariables false
set_option linter.unusedSectionVars false
namespace Go.J
open Go.Proofs

/-- The entry at the beginning of bytes, behind a link. -/
def entF (ahead xs : List UInt8) : recE.ty × List UInt8 × Int :=
  if (4 : Int) ≤ xs.length ∧ rv xs 0 4 ≤ 200 ∧ 4 + rv xs 0 4 + 32 ≤ xs.length ∧ (agetF ((xs.drop 4).take (rv xs 0 4).toNat)).2 = true ∧ (xs.drop (4 + (rv xs 0 4).toNat)).take 32 = linkF ahead ((xs.drop 4).take (rv xs 0 4).toNat) then
    ((agetF ((xs.drop 4).take (rv xs 0 4).toNat)).1, linkF ahead ((xs.drop 4).take (rv xs 0 4).toNat), 36 + rv xs 0 4)
  else (zeroR, ahead, 0)
theorem rd1 {xs : List UInt8} {a1 v1 : Int} {b1 : Bool} (h1 : Rd xs 0 false 4 a1 b1 v1) :
    ((4 : Int) ≤ xs.length ∧ b1 = false ∧ a1 = 4 ∧ v1 = rv xs 0 4) ∨ (¬ (4 : Int) ≤ xs.length ∧ b1 = true) := by
  by_cases hl : (4 : Int) ≤ xs.length
  · left
    obtain ⟨rfl, rfl, rfl⟩ := h1.fwd4 (by omega)
    exact ⟨hl, rfl, rfl, rfl⟩
  · right
    refine ⟨hl, ?_⟩
    cases b1
    · obtain ⟨_, _, l1⟩ := h1.back4
      exfalso
      omega
    · rfl
theorem link_len (a b : List UInt8) : (linkF a b).length = 32 := shaF_len _
theorem w1_ {n : Int} (h0 : 0 ≤ n) (h1 : n < 4294967296) : IntKind.i64.wrap n = n := by rw [IntKind.wrap_i64]; omega
theorem w2_ {n : Int} (h0 : 0 ≤ n) (h1 : n < 4294967296) : IntKind.i64.wrap (4 + n) = 4 + n := by rw [IntKind.wrap_i64]; omega
theorem w3_ {n : Int} (h0 : 0 ≤ n) (h1 : n < 4294967296) : IntKind.i64.wrap (4 + n + 32) = 36 + n := by rw [IntKind.wrap_i64]; omega
theorem w4_ {n : Int} (h0 : 0 ≤ n) (h1 : n < 4294967296) : IntKind.i64.wrap (36 + n - 32) = 4 + n := by rw [IntKind.wrap_i64]; omega
@[reducible] def entry_s : Spec where
  n := 0
  cs := []
  ar := [.el (.ar 32 .u8), .el (.rd .u8)]
  pre := fun (ahead, xs, _) => ahead.length = 32 ∧ xs.length ≤ 100000000
  n' := 0
  cs' := []
  rs := [.el recE, .el (.ar 32 .u8), .el iE]
  post := .fn fun (ahead, xs, _) => ((entF ahead xs).1, (entF ahead xs).2.1, (entF ahead xs).2.2, ())
theorem zr_eq : ((0, 0, 0, (0, 0, 0, 0, 0, 0, 0, 0, 0, 0, 0, 0, 0, 0, List.replicate 32 (El.dflt .u8), ()), ()) : recE.ty) = zeroR := rfl
attribute [local irreducible] linkF agetF
@[reducible] def entry_h : Hints := ⟨[(4, (tks 0 2 (.last 2 false [1] (.last 3 false [] (.last 4 false [] .done))))), (9, (tks 0 2 (.take 2 true (tks 3 5 (.take 8 true (tks 9 6 (.last 15 false [] (tks 16 2 .done)))))))), (10, (tks 0 2 (.last 2 false [1] (.last 3 false [] (.last 4 false [] .done))))), (11, (tks 0 3 (.last 3 false [1] (.last 4 false [] (.last 5 false [] .done)))))], [], []⟩
@[reducible] noncomputable def entry_e : Env := ⟨tys, [(41, read_s.call), (54, ru32r_s.call), (44, rbad_s.call), (46, rat_s.call), (20, aget_s.call), (32, link_s.call), (47, equal_s.call)]⟩
set_option maxHeartbeats 1000000 in
set_option maxRecDepth 100000 in
theorem entry_d : denF entry_e entry_s entry_h Tryz.f26 := by
  intro ahead xs
  intro hpre
  dsimp only [entry_s] at hpre
  obtain ⟨hh, hx⟩ := hpre
  repeat' (first | (conv => whnf); first | done | exact True.intro | refine And.intro ?_ ?_ | refine Is.mk ?_ | (intro h; cases h; done) | (intro _))
  all_goals try dsimp only [maxLen, El.ty] at *
  all_goals repeat (with_reducible cases ‹_ ∧ _›)
  all_goals try subst_vars
  all_goals try omega
  all_goals (with_reducible rename Rd _ 0 false 4 _ _ _ => h1)
  all_goals (with_reducible rename List UInt8 => xs)
  all_goals (rcases rd1 h1 with ⟨hlen, hb, rfl, rfl⟩ | ⟨hlen, hb⟩)
  all_goals cases hb
  all_goals clear h1
  all_goals try (exfalso; with_reducible exact not_tt (by assumption))
  all_goals try simp only [entF]
  all_goals try (first | done | ((rw [if_neg]); (focus first | (with_reducible rfl) | exact zr_eq); exact fun h => hlen h.1))
  all_goals have hn := rv_lt xs 0 (n := 4) (m := 4294967296) (by decide)
  all_goals obtain ⟨m, hm⟩ := Int.eq_ofNat_of_zero_le hn.1
  all_goals (rw [hm] at hn; simp only [hm] at *; clear hm)
  all_goals have e1 := w1_ hn.1 hn.2
  all_goals have e2 := w2_ hn.1 hn.2
  all_goals have e3 := w3_ hn.1 hn.2
  all_goals have e4 := w4_ hn.1 hn.2
  all_goals have x1 : ((4 : Int) + m - 4).toNat = m := by omega
  all_goals have x2 : ((4 : Int) + m).toNat = 4 + m := by omega
  all_goals have x3 : ((36 : Int) + m - (4 + m)).toNat = 32 := by omega
  all_goals have x4 : (4 : Int).toNat = 4 := rfl
  all_goals try simp only [e1, e2, e3, e4, x1, x2, x3, x4, Int.toNat_natCast] at *
  all_goals try omega
  all_goals clear e1 e2 e3 e4 x1 x2 x3 x4
  all_goals try simp only [take32 (link_len _ _), link_len, IntKind.wrap_i64, decide_eq_true_eq, decide_eq_false_iff_not, Bool.not_eq_true', Bool.not_eq_false'] at *
  all_goals try omega
  all_goals try (rw [List.length_take]; omega)
  all_goals obtain ⟨hn0, hn1⟩ := hn
  all_goals try split
  all_goals try dsimp only
  all_goals try (first | (with_reducible rfl) | (exfalso; omega))
  all_goals try (rename _ ∧ _ => hc; obtain ⟨c1, c2, c3, c4, c5⟩ := hc)
  all_goals try (first | (with_reducible rfl) | (exfalso; omega) | (exfalso; simp_all; done) | rfl)
  all_goals try (rename ¬ (_ ∧ _) => hc; exfalso; refine hc ⟨by omega, by omega, by omega, ?_, ?_⟩ <;> first | assumption | (simp_all; done))
  all_goals try exact zr_eq
set_option maxRecDepth 100000 in
theorem entry_p : (FnIs Tryz.prog 26 ∧ FnOk Tryz.prog 26 entry_s) ∧ (idsOk entry_s.cs && idsOk entry_s.cs' && Nat.ble entry_s.n entry_s.n') = true :=
  fn_of (l := [(41, read_s.call), (54, ru32r_s.call), (44, rbad_s.call), (46, rat_s.call), (20, aget_s.call), (32, link_s.call), (47, equal_s.call)]) (hi := entry_h) (S := entry_s) (fn := Tryz.f26) (c := Tryz.f26.body.get!) tysOk mixOk ⟨.inl read_m, .inl ru32r_m, .inl rbad_m, .inl rat_m, .inl aget_m, .inl link_m, .inl equal_m, trivial⟩ (by kernel_rfl) (by kernel_rfl) (by kernel_rfl) (by kernel_rfl) (by kernel_rfl) entry_d
theorem entry_m : May Tryz.prog (26, entry_s.call) := may_call entry_p
theorem entry_n : May Tryz.prog (26, entry_s.callN) := may_callN entry_p
end Go.J

set_option linter.unusedSimpArgs false
set_option linter.unusedVariables false
set_option linter.unusedSectionVars false
namespace Go.J
open Go.Proofs

def parseK : Nat → List UInt8 → List UInt8 → Int → List recE.ty × Int
  | 0, _, xs, at_ => ([], if xs = [] then -1 else at_)
  | k + 1, ahead, xs, at_ => if xs = [] then ([], -1) else if (entF ahead xs).2.2 = 0 then ([], at_) else
    ((entF ahead xs).1 :: (parseK k (entF ahead xs).2.1 (xs.drop (entF ahead xs).2.2.toNat) (at_ + (entF ahead xs).2.2)).1, (parseK k (entF ahead xs).2.1 (xs.drop (entF ahead xs).2.2.toNat) (at_ + (entF ahead xs).2.2)).2)
theorem ent_pos {ahead xs : List UInt8} (h : (entF ahead xs).2.2 ≠ 0) : 36 ≤ (entF ahead xs).2.2 ∧ (entF ahead xs).2.2 ≤ xs.length := by
  unfold entF at h ⊢
  split at h
  · next hc =>
    rw [if_pos hc]
    have := rv_lt xs 0 (n := 4) (m := 4294967296) (by decide)
    dsimp only
    omega
  · exact absurd rfl h
attribute [local irreducible] linkF agetF
theorem ent_len {ahead xs : List UInt8} (h : ahead.length = 32) : (entF ahead xs).2.1.length = 32 := by
  unfold entF
  split
  · dsimp only
    with_reducible exact link_len _ _
  · exact h
attribute [local irreducible] entF
theorem parseK_succ (k : Nat) (ahead xs : List UInt8) (at_ : Int) : parseK (k + 1) ahead xs at_ = if xs = [] then ([], -1) else if (entF ahead xs).2.2 = 0 then ([], at_) else
    ((entF ahead xs).1 :: (parseK k (entF ahead xs).2.1 (xs.drop (entF ahead xs).2.2.toNat) (at_ + (entF ahead xs).2.2)).1, (parseK k (entF ahead xs).2.1 (xs.drop (entF ahead xs).2.2.toNat) (at_ + (entF ahead xs).2.2)).2) := rfl
theorem parseK_nil (k : Nat) (ahead : List UInt8) (at_ : Int) : parseK k ahead [] at_ = ([], -1) := by
  cases k
  · rw [parseK, if_pos rfl]
  · rw [parseK, if_pos rfl]
theorem parseK_eq : ∀ (k k' : Nat) (ahead xs : List UInt8) (at_ : Int), xs.length ≤ k → xs.length ≤ k' → parseK k ahead xs at_ = parseK k' ahead xs at_ := by
  intro k
  induction k with
  | zero =>
    intro k' ahead xs at_ h _
    have : xs = [] := List.eq_nil_of_length_eq_zero (by omega)
    subst this
    rw [parseK_nil, parseK_nil]
  | succ k ih =>
    intro k' ahead xs at_ h h'
    cases k' with
    | zero =>
      have : xs = [] := List.eq_nil_of_length_eq_zero (by omega)
      subst this
      rw [parseK_nil, parseK_nil]
    | succ k' =>
      rw [parseK_succ, parseK_succ]
      by_cases hx : xs = []
      · rw [if_pos hx, if_pos hx]
      · rw [if_neg hx, if_neg hx]
        by_cases hn : (entF ahead xs).2.2 = 0
        · rw [if_pos hn, if_pos hn]
        · rw [if_neg hn, if_neg hn]
          have hp := ent_pos hn
          rw [ih k' _ _ _ (by rw [List.length_drop]; omega) (by rw [List.length_drop]; omega)]
/-- The records behind a link, and where none begins any more. -/
def parseG (ahead xs : List UInt8) (at_ : Int) : List recE.ty × Int := parseK xs.length ahead xs at_
theorem parseG_nil (ahead : List UInt8) (at_ : Int) : parseG ahead [] at_ = ([], -1) := rfl
theorem parseG_stop {ahead xs : List UInt8} {at_ : Int} (hx : xs ≠ []) (hn : (entF ahead xs).2.2 = 0) : parseG ahead xs at_ = ([], at_) := by
  unfold parseG
  cases xs with
  | nil => exact absurd rfl hx
  | cons x xs => rw [List.length_cons, parseK_succ, if_neg (by simp), if_pos hn]
theorem parseG_step {ahead xs : List UInt8} {at_ : Int} (hx : xs ≠ []) (hn : (entF ahead xs).2.2 ≠ 0) :
    parseG ahead xs at_ = ((entF ahead xs).1 :: (parseG (entF ahead xs).2.1 (xs.drop (entF ahead xs).2.2.toNat) (at_ + (entF ahead xs).2.2)).1, (parseG (entF ahead xs).2.1 (xs.drop (entF ahead xs).2.2.toNat) (at_ + (entF ahead xs).2.2)).2) := by
  have hp := ent_pos hn
  have hz : xs.length = (xs.length - 1) + 1 := by
    cases xs with
    | nil => exact absurd rfl hx
    | cons x xs => simp
  unfold parseG
  rw [hz, parseK_succ, if_neg hx, if_neg hn]
  rw [parseK_eq (xs.length - 1) (xs.drop (entF ahead xs).2.2.toNat).length _ _ _ (by rw [List.length_drop]; omega) (Nat.le_refl _)]
theorem ent_all {ahead : List UInt8} (h : ahead.length = 32) (xs : List UInt8) (at_ : Int) : ∃ (k n t : Int) (kk seq tr inst id side ord pr q sh st wh a b : Int) (tag l : List UInt8) (m : Int),
    entF ahead xs = ((k, n, t, (kk, seq, tr, inst, id, side, ord, pr, q, sh, st, wh, a, b, tag, ()), ()), l, m) ∧ l.length = 32 ∧
    ((m = 0 ∧ (xs ≠ [] → parseG ahead xs at_ = ([], at_))) ∨ (36 ≤ m ∧ m ≤ xs.length ∧ (xs ≠ [] → parseG ahead xs at_ = ((k, n, t, (kk, seq, tr, inst, id, side, ord, pr, q, sh, st, wh, a, b, tag, ()), ()) :: (parseG l (xs.drop m.toNat) (at_ + m)).1, (parseG l (xs.drop m.toNat) (at_ + m)).2)))) := by
  have h1 := ent_len (xs := xs) h
  have h2 := ent_pos (ahead := ahead) (xs := xs)
  have h3 := parseG_stop (ahead := ahead) (xs := xs) (at_ := at_)
  have h4 := parseG_step (ahead := ahead) (xs := xs) (at_ := at_)
  generalize entF ahead xs = g at h1 h2 h3 h4 ⊢
  obtain ⟨⟨k, n, t, ⟨kk, seq, tr, inst, id, side, ord, pr, q, sh, st, wh, a, b, tag, _⟩, _⟩, l, m⟩ := g
  refine ⟨k, n, t, kk, seq, tr, inst, id, side, ord, pr, q, sh, st, wh, a, b, tag, l, m, rfl, h1, ?_⟩
  by_cases hm : m = 0
  · exact .inl ⟨hm, fun hx => h3 hx hm⟩
  · exact .inr ⟨(h2 hm).1, (h2 hm).2, fun hx => h4 hx hm⟩
def noSum : List UInt8 := List.replicate 32 0
/-- A log's records, and where none begins any more; -1: it is whole. -/
def parseF (xs : List UInt8) : List recE.ty × Int := parseG noSum xs 0
theorem drop_ne {α : Type} {xs : List α} {a : Int} (h0 : 0 ≤ a) (h : a < (xs.length : Int)) : List.drop a.toNat xs ≠ [] := by
  intro e
  have := congrArg List.length e
  rw [List.length_drop, List.length_nil] at this
  omega
theorem first_inv (xs : List UInt8) : parseF xs = ([] ++ (parseG (List.replicate 32 (El.dflt .u8)) (List.drop (Int.toNat 0) xs) 0).1, (parseG (List.replicate 32 (El.dflt .u8)) (List.drop (Int.toNat 0) xs) 0).2) := rfl
@[reducible] def parse_s : Spec where
  n := 0
  cs := []
  ar := [.el (.rd .u8)]
  pre := fun (xs, _) => xs.length ≤ 100000000
  n' := 1
  cs' := [(0, .row 33 recE)]
  rs := [.own 0, .el iE]
  post := .fn fun (xs, _) => ((parseF xs).1, (parseF xs).2, ())
@[reducible] def parse_a : Ann where
  nx := 2
  cs := [(0, .row 33 recE), (1, .own (.el (.ar 32 .u8)))]
  ss := [(0, .el (.rd .u8)), (4, .own 0), (5, .ref 1), (6, .el iE)]
  inv := fun (_, _, xs0, _, _) (out, ahead, xs, at_, _) => xs = xs0 ∧ ahead.length = 32 ∧ 0 ≤ at_ ∧ at_ ≤ xs.length ∧ out.length ≤ at_ ∧ parseF xs = (out ++ (parseG ahead (xs.drop at_.toNat) at_).1, (parseG ahead (xs.drop at_.toNat) at_).2)
  mu := fun (_, _, xs, at_, _) => xs.length - at_.toNat
attribute [local irreducible] parseG parseF
@[reducible] def parse_h : Hints := ⟨[(5, (tks 0 4 (.last 4 false [] (tks 5 4 (.cash 9 [0, 3] (.cash 10 [0, 3] (.last 11 false [] (.last 12 false [] (.last 13 false [] .done))))))))), (8, (tks 0 2 (.take 4 false (.last 2 false [4] (.last 3 false [4] (.last 5 false [4] (.last 6 false [] .done)))))))], [(4, parse_a)], []⟩
@[reducible] noncomputable def parse_e : Env := ⟨tys, [(26, entry_s.call)]⟩
set_option maxHeartbeats 1000000 in
set_option maxRecDepth 100000 in
theorem parse_d : denF parse_e parse_s parse_h Tryz.f8 := by
  intro xs
  intro hpre
  dsimp only [parse_s] at hpre
  repeat' (first | (conv => whnf); first | done | exact True.intro | refine And.intro ?_ ?_ | refine Is.mk ?_ | (intro h; cases h; done) | (intro _))
  all_goals try dsimp only [maxLen, El.ty] at *
  all_goals repeat (with_reducible cases ‹_ ∧ _›)
  all_goals try subst_vars
  all_goals try omega
  all_goals try (with_reducible exact Int.le_refl 0)
  all_goals try ((rw [List.length_take, List.length_drop]); omega)
  all_goals try (with_reducible exact List.length_replicate)
  all_goals try (with_reducible exact Int.le_of_eq rfl)
  all_goals try ((with_reducible change ((([] : List recE.ty).length : Nat) : Int) ≤ 0); exact Int.le_refl 0)
  all_goals try (exact first_inv xs)
  all_goals ((with_reducible rename List UInt8 => xs); (with_reducible rename List recE.ty => out); (with_reducible rename Int => at_); (with_reducible rename List.length _ = 32 => hl))
  all_goals have et : List.take ((xs.length : Int) - at_).toNat (List.drop at_.toNat xs) = List.drop at_.toNat xs := List.take_of_length_le (by rw [List.length_drop]; omega)
  all_goals obtain ⟨k, n, t, kk, seq, tr, inst, id, side, ord, pr, q, sh, st, wh, a, b, tag, l, m, eg, hl2, hm⟩ := ent_all hl (List.drop at_.toNat xs) at_
  all_goals try simp only [et, eg] at *
  all_goals clear et eg
  all_goals have hd : (List.drop at_.toNat xs).length = xs.length - at_.toNat := List.length_drop
  all_goals try simp only [decide_eq_true_eq, decide_eq_false_iff_not, IntKind.wrap_i64, List.length_append, List.length_singleton, hd] at *
  all_goals try omega
  all_goals try assumption
  all_goals (with_reducible rename parseF xs = _ => hP)
  all_goals (by_cases hlt : at_ < (xs.length : Int))
  all_goals try (exfalso; omega)
  all_goals try (
    have hne : List.drop at_.toNat xs = [] := List.drop_eq_nil_of_le (by omega)
    rw [hne, parseG_nil] at hP
    rw [hP]
    first | done | exact (List.append_nil _).symm)
  all_goals have hne := drop_ne (xs := xs) (a := at_) (by omega) (by omega)
  all_goals rcases hm with ⟨hm, hg⟩ | ⟨hm, hm2, hg⟩
  all_goals try (exfalso; omega)
  all_goals rw [hg hne] at hP
  all_goals try (
    rw [hP]
    first | done | exact (List.append_nil _).symm)
  all_goals (rw [show (at_ + m + 9223372036854775808) % 18446744073709551616 - 9223372036854775808 = at_ + m by omega, hP, List.append_assoc, show (at_ + m).toNat = at_.toNat + m.toNat by omega, ← List.drop_drop]; rfl)
set_option maxRecDepth 100000 in
theorem parse_p : (FnIs Tryz.prog 8 ∧ FnOk Tryz.prog 8 parse_s) ∧ (idsOk parse_s.cs && idsOk parse_s.cs' && Nat.ble parse_s.n parse_s.n') = true :=
  fn_of (l := [(26, entry_s.call)]) (hi := parse_h) (S := parse_s) (fn := Tryz.f8) (c := Tryz.f8.body.get!) tysOk mixOk ⟨.inl entry_m, trivial⟩ (by kernel_rfl) (by kernel_rfl) (by kernel_rfl) (by kernel_rfl) (by kernel_rfl) parse_d
theorem parse_m : May Tryz.prog (8, parse_s.call) := may_call parse_p
theorem parse_n : May Tryz.prog (8, parse_s.callN) := may_callN parse_p
end Go.J

set_option linter.unusedSimpArgs false
set_option linter.unusedVariables false
set_option linter.unusedSectionVars false
namespace Go.J
open Go.Proofs

@[reducible] def logSh : Sh := .cons (.el (.rd .u8)) (.cons (.el (.ar 32 .u8)) (.cons (.el iE) .nil))
/-- An entry behind a link. -/
def entB (link : List UInt8) (r : recE.ty) : List UInt8 := be 4 ((aputR r).length : Int) ++ aputR r ++ linkF link (aputR r)
theorem aput_len {r : recE.ty} (h : recFit r) : (aputR r).length ≤ 300 := by
  obtain ⟨k, n, t, ⟨kk, seq, tr, inst, id, side, ord, pr, q, sh, st, wh, a, b, tag, _⟩, _⟩ := r
  have hl := put_le kk seq tr inst id side ord pr q sh st wh a b tag h.2.2.2.1
  show (be 1 k ++ be 8 (n % 18446744073709551616) ++ be 1 t ++ putF kk seq tr inst id side ord pr q sh st wh a b tag).length ≤ 300
  simp only [List.length_append, be_length]
  omega
theorem wi {x : Int} (h0 : 0 ≤ x) (h1 : x ≤ 9000000000000000000) : IntKind.i64.wrap x = x := by rw [IntKind.wrap_i64]; omega
theorem ent_as {b link : List UInt8} {r : recE.ty} : b ++ be 4 ((aputR r).length : Int) ++ aputR r ++ linkF link (aputR r) = b ++ entB link r := by simp only [entB, List.append_assoc]
@[reducible] def anew_s : Spec where
  n := 0
  cs := []
  ar := []
  pre := fun _ => True
  n' := 1
  cs' := [(0, .own logSh)]
  rs := [.ref 0]
  post := .fn fun _ => ([], noSum, 0, ())
@[reducible] def anew_h : Hints := ⟨[], [], []⟩
@[reducible] noncomputable def anew_e : Env := ⟨tys, []⟩
set_option maxHeartbeats 1000000 in
set_option maxRecDepth 100000 in
theorem anew_d : denF anew_e anew_s anew_h Tryz.f12 := by
  intro _
  repeat' (first | (conv => whnf); first | done | exact True.intro | refine And.intro ?_ ?_ | refine Is.mk ?_ | (intro h; cases h; done) | (intro _))
  all_goals try rfl
set_option maxRecDepth 100000 in
theorem anew_p : (FnIs Tryz.prog 12 ∧ FnOk Tryz.prog 12 anew_s) ∧ (idsOk anew_s.cs && idsOk anew_s.cs' && Nat.ble anew_s.n anew_s.n') = true :=
  fn_of (l := []) (hi := anew_h) (S := anew_s) (fn := Tryz.f12) (c := Tryz.f12.body.get!) tysOk mixOk trivial (by kernel_rfl) (by kernel_rfl) (by kernel_rfl) (by kernel_rfl) (by kernel_rfl) anew_d
theorem anew_m : May Tryz.prog (12, anew_s.call) := may_call anew_p
theorem anew_n : May Tryz.prog (12, anew_s.callN) := may_callN anew_p
/-- A record is added to bytes, a link, a number. -/
def addF (b link : List UInt8) (n : Int) (r : recE.ty) : List UInt8 × List UInt8 × Int × Bool × Unit :=
  if arightR r = true then (b ++ entB link r, linkF link (aputR r), n + 1, true, ()) else (b, link, n, false, ())
theorem addF_yes {b link : List UInt8} {n : Int} {r : recE.ty} (h : arightR r = true) : addF b link n r = (b ++ entB link r, linkF link (aputR r), n + 1, true, ()) := if_pos h
theorem addF_no {b link : List UInt8} {n : Int} {r : recE.ty} (h : (!arightR r) = true) : addF b link n r = (b, link, n, false, ()) :=
  if_neg (by simpa using h)
attribute [local irreducible] linkF agetF entF addF entB
@[reducible] def aadd_s : Spec where
  n := 1
  cs := [(0, .own logSh)]
  ar := [.ref 0, .el recE]
  pre := fun (b, link, n, r, _) => recFit r ∧ link.length = 32 ∧ b.length ≤ 10000000 ∧ 0 ≤ n ∧ n ≤ 10000000
  n' := 1
  cs' := [(0, .own logSh)]
  rs := [.el .bool]
  post := .fn fun (b, link, n, r, _) => addF b link n r
@[reducible] def aadd_h : Hints := ⟨[(5, (tks 0 8 (tks 9 5 (.last 8 false [4, 13] (.last 14 false [] (.last 15 false [] (tks 16 2 (.last 18 false [] .done))))))))], [], []⟩
@[reducible] noncomputable def aadd_e : Env := ⟨tys, [(15, aright_s.call), (18, aput_s.call), (32, link_s.call), (34, u32_s.call), (33, concat_c)]⟩
set_option maxHeartbeats 1000000 in
set_option maxRecDepth 100000 in
theorem aadd_d : denF aadd_e aadd_s aadd_h Tryz.f16 := by
  intro b link n k nn t kk seq tr inst id side ord pr q sh st wh a c tag
  intro hpre
  dsimp only [aadd_s] at hpre
  repeat' (first | (conv => whnf); first | done | exact True.intro | refine And.intro ?_ ?_ | refine Is.mk ?_ | (intro h; cases h; done) | (intro _))
  all_goals obtain ⟨hf, hlk, hb, hn0, hn1⟩ := hpre
  all_goals try ((with_reducible change lsetK _ _ _ _); exfalso)
  all_goals have hl := aput_len hf
  all_goals have hk := link_len link (aputF k nn t (kk, seq, tr, inst, id, side, ord, pr, q, sh, st, wh, a, c, tag, ()))
  all_goals try dsimp only [maxLen, El.ty, recFit, cmdFit, aputR, arightR] at *
  all_goals have ft := hf.2.2.2.1
  all_goals try ((repeat (with_reducible cases ‹_ ∧ _›)); (with_reducible assumption))
  all_goals clear hf
  all_goals generalize hbs : aputF k nn t (kk, seq, tr, inst, id, side, ord, pr, q, sh, st, wh, a, c, tag, ()) = bs at *
  all_goals have e4 : IntKind.u32.wrap (bs.length : Int) = (bs.length : Int) := by rw [IntKind.wrap_u32]; omega
  all_goals have w1 : IntKind.i64.wrap (0 + 1) = 1 := by decide
  all_goals have w2 : IntKind.i64.wrap (1 + 1) = 2 := by decide
  all_goals have w3 : IntKind.i64.wrap (2 + 1) = 3 := by decide
  all_goals have w4 : IntKind.i64.wrap (3 + 1) = 4 := by decide
  all_goals have v1 : IntKind.i64.wrap (0 + (b.length : Int)) = b.length := by rw [Int.zero_add]; exact wi (by omega) (by omega)
  all_goals have v2 : IntKind.i64.wrap ((b.length : Int) + ((4 : Nat) : Int)) = b.length + 4 := wi (by omega) (by omega)
  all_goals have v3 : IntKind.i64.wrap ((b.length : Int) + 4 + bs.length) = b.length + 4 + bs.length := wi (by omega) (by omega)
  all_goals have v4 : IntKind.i64.wrap ((b.length : Int) + 4 + bs.length + ((32 : Nat) : Int)) = b.length + 4 + bs.length + 32 := wi (by omega) (by omega)
  all_goals have v5 : IntKind.i64.wrap (n + 1) = n + 1 := wi (by omega) (by omega)
  all_goals have e32 : (((32 : Nat) : Int) - 0).toNat = 32 := by decide
  all_goals have t32 : List.take 32 (List.drop (Int.toNat 0) (linkF link bs)) = linkF link bs := List.take_of_length_le (Nat.le_of_eq hk)
  all_goals try simp only [take32 hlk, t32, hk, e4, e32, w1, w2, w3, w4, v1, v2, v3, v4, v5, List.nil_append, List.length_append, List.length_nil, be_length] at *
  all_goals try (with_reducible assumption)
  all_goals try omega
  all_goals try (exfalso; rename decide (_ < 0) = true => hd; have hd := of_decide_eq_true hd; omega)
  all_goals rename (!arightF _ _ _ _) = _ => hr
  all_goals first | rw [addF_no (r := (k, nn, t, (kk, seq, tr, inst, id, side, ord, pr, q, sh, st, wh, a, c, tag, ()), ())) hr] | rw [addF_yes (r := (k, nn, t, (kk, seq, tr, inst, id, side, ord, pr, q, sh, st, wh, a, c, tag, ()), ())) ((Bool.not_eq_false' _).mp hr)]
  · subst hbs
    exact ent_as (r := (k, nn, t, (kk, seq, tr, inst, id, side, ord, pr, q, sh, st, wh, a, c, tag, ()), ()))
  · subst hbs
    rfl
set_option maxRecDepth 100000 in
theorem aadd_p : (FnIs Tryz.prog 16 ∧ FnOk Tryz.prog 16 aadd_s) ∧ (idsOk aadd_s.cs && idsOk aadd_s.cs' && Nat.ble aadd_s.n aadd_s.n') = true :=
  fn_of (l := [(15, aright_s.call), (18, aput_s.call), (32, link_s.call), (34, u32_s.call), (33, concat_c)]) (hi := aadd_h) (S := aadd_s) (fn := Tryz.f16) (c := Tryz.f16.body.get!) tysOk mixOk ⟨.inl aright_m, .inl aput_m, .inl link_m, .inl u32_m, .inl concat_m, trivial⟩ (by kernel_rfl) (by kernel_rfl) (by kernel_rfl) (by kernel_rfl) (by kernel_rfl) aadd_d
theorem aadd_m : May Tryz.prog (16, aadd_s.call) := may_call aadd_p
theorem aadd_n : May Tryz.prog (16, aadd_s.callN) := may_callN aadd_p
end Go.J

set_option linter.unusedSimpArgs false
set_option linter.unusedVariables false
set_option linter.unusedSectionVars false
namespace Go.J
open Go.Proofs

@[reducible] def kaskE : El := .cons iE (.cons iE (.cons iE (.cons iE (.cons iE (.cons iE (.cons iE .nil))))))
@[reducible] def doE : El := .cons iE (.cons iE (.cons iE (.cons iE (.cons iE (.cons kaskE .nil)))))
@[reducible] def orderE : El := .cons iE (.cons iE (.cons iE (.cons iE (.cons iE (.cons iE (.cons iE (.cons iE (.cons iE .nil))))))))
@[reducible] def b64 (n : Int) : Prop := -9223372036854775808 ≤ n ∧ n ≤ 9223372036854775807
theorem mod_in (n : Int) {l : Int} (hl : 0 < l) : 0 ≤ n % l ∧ n % l < l := ⟨Int.emod_nonneg _ (by omega), Int.emod_lt_of_pos _ hl⟩
@[reducible] def korder_s : Spec where
  n := 0
  cs := []
  ar := [.el kaskE]
  pre := fun ((t, i, s, p, q, h, x, _), _) => b64 t ∧ b64 i ∧ b64 s ∧ b64 p ∧ b64 q ∧ b64 h ∧ b64 x
  n' := 0
  cs' := []
  rs := [.el orderE]
  post := .rel fun _ ((tr, id, fm, sd, kd, pr, q, sh, st, _), _) => 0 ≤ tr ∧ tr ≤ 5 ∧ 0 ≤ id ∧ id ≤ 15 ∧ 0 ≤ fm ∧ fm ≤ 2 ∧ 1 ≤ sd ∧ sd ≤ 2 ∧ 1 ≤ kd ∧ kd ≤ 5 ∧ 0 ≤ pr ∧ pr ≤ 105 ∧ 1 ≤ q ∧ q ≤ 12 ∧ 0 ≤ sh ∧ sh ≤ 12 ∧ st = 0
@[reducible] def korder_h : Hints := ⟨[(1, (tks 0 2 (tks 3 2 (tks 6 2 (tks 10 2 (tks 15 2 (tks 18 2 (.last 2 false [4, 7, 11, 16, 19] (.last 5 false [7, 11, 16, 19] (.last 8 false [11, 16, 19] (.take 9 false (.last 12 false [16, 19] (tks 13 2 (.last 17 false [19] (.last 20 false [] (.take 21 false (.cash 22 [1, 4, 7, 11, 16, 19] (.last 23 false [] .done))))))))))))))))))], [], []⟩
@[reducible] noncomputable def korder_e : Env := ⟨tys, [(7, within_s.call)]⟩
set_option maxHeartbeats 1000000 in
set_option maxRecDepth 100000 in
theorem korder_d : denF korder_e korder_s korder_h Tryz.f78 := by
  intro t i s p q h x
  intro hpre
  repeat' (first | (conv => whnf); first | done | exact True.intro | refine And.intro ?_ ?_ | refine Is.mk ?_ | (intro h; cases h; done) | (intro _))
  all_goals dsimp only [korder_s] at hpre
  all_goals try dsimp only [maxLen, El.ty] at *
  all_goals obtain ⟨⟨t0, t1⟩, ⟨i0, i1⟩, ⟨s0, s1⟩, ⟨p0, p1⟩, ⟨q0, q1⟩, ⟨h0, h1⟩, x0, x1⟩ := hpre
  all_goals have m1 := mod_in t (l := 5 - 0 + 1) (by decide)
  all_goals have m2 := mod_in i (l := 15 - 0 + 1) (by decide)
  all_goals have m3 := mod_in s (l := 1 - 0 + 1) (by decide)
  all_goals have m4 := mod_in s (l := 9 - 0 + 1) (by decide)
  all_goals have m5 := mod_in p (l := 105 - 95 + 1) (by decide)
  all_goals have m6 := mod_in q (l := 12 - 1 + 1) (by decide)
  all_goals have m7 := mod_in h (l := 1 + q % (12 - 1 + 1) - 0 + 1) (by omega)
  all_goals generalize h % (1 + q % (12 - 1 + 1) - 0 + 1) = hh at *
  all_goals have d1 := Int.tdiv_eq_ediv_of_nonneg (a := 0 + t % (5 - 0 + 1)) (b := 2) (by omega)
  all_goals have d2 := Int.tdiv_eq_ediv_of_nonneg (a := 0 + s % (9 - 0 + 1)) (b := 2) (by omega)
  all_goals try simp only [d1, d2, IntKind.wrap_i64]
  all_goals omega
set_option maxRecDepth 100000 in
theorem korder_p : (FnIs Tryz.prog 78 ∧ FnOk Tryz.prog 78 korder_s) ∧ (idsOk korder_s.cs && idsOk korder_s.cs' && Nat.ble korder_s.n korder_s.n') = true :=
  fn_of (l := [(7, within_s.call)]) (hi := korder_h) (S := korder_s) (fn := Tryz.f78) (c := Tryz.f78.body.get!) tysOk mixOk ⟨.inl within_m, trivial⟩ (by kernel_rfl) (by kernel_rfl) (by kernel_rfl) (by kernel_rfl) (by kernel_rfl) korder_d
theorem korder_m : May Tryz.prog (78, korder_s.call) := may_call korder_p
theorem korder_n : May Tryz.prog (78, korder_s.callN) := may_callN korder_p

@[reducible] def kstop_s : Spec where
  n := 0
  cs := []
  ar := [.el kaskE]
  pre := fun ((t, i, s, p, q, h, x, _), _) => b64 t ∧ b64 i ∧ b64 s ∧ b64 p ∧ b64 q ∧ b64 h ∧ b64 x
  n' := 0
  cs' := []
  rs := [.el orderE]
  post := .rel fun _ ((tr, id, fm, sd, kd, pr, q, sh, st, _), _) => 0 ≤ tr ∧ tr ≤ 5 ∧ 0 ≤ id ∧ id ≤ 15 ∧ 0 ≤ fm ∧ fm ≤ 2 ∧ 1 ≤ sd ∧ sd ≤ 2 ∧ 1 ≤ kd ∧ kd ≤ 5 ∧ 0 ≤ pr ∧ pr ≤ 105 ∧ 1 ≤ q ∧ q ≤ 12 ∧ 0 ≤ sh ∧ sh ≤ 12 ∧ 0 ≤ st ∧ st ≤ 105
@[reducible] def kstop_h : Hints := ⟨[], [], []⟩
@[reducible] noncomputable def kstop_e : Env := ⟨tys, [(78, korder_s.call), (7, within_s.call)]⟩
set_option maxHeartbeats 1000000 in
set_option maxRecDepth 100000 in
theorem kstop_d : denF kstop_e kstop_s kstop_h Tryz.f69 := by
  intro t i s p q h x
  intro hpre
  dsimp only [kstop_s] at hpre
  repeat' (first | assumption | (conv => whnf); first | done | exact True.intro | refine And.intro ?_ ?_ | refine Is.mk ?_ | (intro h; cases h; done) | (intro _))
  all_goals try dsimp only [maxLen, El.ty] at *
  all_goals have m := mod_in x (l := 32 - 0 + 1) (by decide)
  all_goals try simp only [IntKind.wrap_i64, decide_eq_true_eq, decide_eq_false_iff_not] at *
  all_goals omega
set_option maxRecDepth 100000 in
theorem kstop_p : (FnIs Tryz.prog 69 ∧ FnOk Tryz.prog 69 kstop_s) ∧ (idsOk kstop_s.cs && idsOk kstop_s.cs' && Nat.ble kstop_s.n kstop_s.n') = true :=
  fn_of (l := [(78, korder_s.call), (7, within_s.call)]) (hi := kstop_h) (S := kstop_s) (fn := Tryz.f69) (c := Tryz.f69.body.get!) tysOk mixOk ⟨.inl korder_m, .inl within_m, trivial⟩ (by kernel_rfl) (by kernel_rfl) (by kernel_rfl) (by kernel_rfl) (by kernel_rfl) kstop_d
theorem kstop_m : May Tryz.prog (69, kstop_s.call) := may_call kstop_p
theorem kstop_n : May Tryz.prog (69, kstop_s.callN) := may_callN kstop_p

@[reducible] def doFit : doE.ty → Prop := fun (k, t, w, a, b, (q0, q1, q2, q3, q4, q5, q6, _), _) => b64 k ∧ b64 t ∧ b64 w ∧ b64 a ∧ b64 b ∧ b64 q0 ∧ b64 q1 ∧ b64 q2 ∧ b64 q3 ∧ b64 q4 ∧ b64 q5 ∧ b64 q6
@[reducible] def cmdSmall : cmdE.ty → Prop := fun (kk, seq, tr, inst, id, side, ord, pr, q, sh, st, wh, a, b, tag, _) => tag.length = 32 ∧ 0 ≤ kk ∧ kk ≤ 1000 ∧ 0 ≤ seq ∧ seq ≤ 1000 ∧ 0 ≤ tr ∧ tr ≤ 1000 ∧ 0 ≤ inst ∧ inst ≤ 1000 ∧ 0 ≤ id ∧ id ≤ 1000 ∧ 0 ≤ side ∧ side ≤ 1000 ∧ 0 ≤ ord ∧ ord ≤ 1000 ∧ 0 ≤ pr ∧ pr ≤ 1000 ∧ 0 ≤ q ∧ q ≤ 1000 ∧ 0 ≤ sh ∧ sh ≤ 1000 ∧ 0 ≤ st ∧ st ≤ 1000 ∧ 0 ≤ wh ∧ wh ≤ 1000 ∧ 0 ≤ a ∧ a ≤ 1000 ∧ 0 ≤ b ∧ b ≤ 1000
@[reducible] def kcmd_s : Spec where
  n := 0
  cs := []
  ar := [.el doE]
  pre := fun (d, _) => doFit d
  n' := 0
  cs' := []
  rs := [.el cmdE]
  post := .rel fun _ (c, _) => cmdSmall c
@[reducible] def kcmd_h : Hints := ⟨[(5, (tks 0 5 (.last 5 false [2] (.take 6 false (.last 7 false [] .done))))), (7, (tks 0 5 (.last 5 false [2] (.take 6 false (.last 7 false [] .done))))), (10, (tks 0 6 (tks 7 2 (.last 6 false [2, 8] (.take 9 false (.last 10 false [] .done)))))), (12, (tks 0 2 (tks 3 2 (.last 2 false [4] (.last 5 false [] (.take 6 false (.last 7 false [] .done))))))), (14, (tks 0 2 (tks 3 2 (tks 6 2 (.last 2 false [4, 7] (.last 5 false [7] (.last 8 false [] (.take 9 false (.last 10 false [] .done)))))))))], [], []⟩
@[reducible] noncomputable def kcmd_e : Env := ⟨tys, [(69, kstop_s.call), (7, within_s.call)]⟩
set_option maxHeartbeats 1000000 in
set_option maxRecDepth 100000 in
theorem kcmd_d : denF kcmd_e kcmd_s kcmd_h Tryz.f53 := by
  intro k t w a b q0 q1 q2 q3 q4 q5 q6
  intro hpre
  dsimp only [kcmd_s, doFit] at hpre
  repeat' (first | (conv => whnf); first | done | exact True.intro | refine And.intro ?_ ?_ | refine Is.mk ?_ | (intro h; cases h; done) | (intro _))
  all_goals try dsimp only [maxLen, El.ty] at *
  all_goals try (with_reducible apply List.length_replicate)
  all_goals try simp only [Int.reduceSub, Int.reduceAdd, IntKind.wrap_i64, decide_eq_true_eq, decide_eq_false_iff_not] at *
  all_goals omega
set_option maxRecDepth 100000 in
theorem kcmd_p : (FnIs Tryz.prog 53 ∧ FnOk Tryz.prog 53 kcmd_s) ∧ (idsOk kcmd_s.cs && idsOk kcmd_s.cs' && Nat.ble kcmd_s.n kcmd_s.n') = true :=
  fn_of (l := [(69, kstop_s.call), (7, within_s.call)]) (hi := kcmd_h) (S := kcmd_s) (fn := Tryz.f53) (c := Tryz.f53.body.get!) tysOk mixOk ⟨.inl kstop_m, .inl within_m, trivial⟩ (by kernel_rfl) (by kernel_rfl) (by kernel_rfl) (by kernel_rfl) (by kernel_rfl) kcmd_d
theorem kcmd_m : May Tryz.prog (53, kcmd_s.call) := may_call kcmd_p
theorem kcmd_n : May Tryz.prog (53, kcmd_s.callN) := may_callN kcmd_p

@[reducible] def recSmall : recE.ty → Prop := fun (k, n, t, c, _) => 0 ≤ k ∧ k ≤ 1000 ∧ 0 ≤ n ∧ n ≤ 1000 ∧ 0 ≤ t ∧ t ≤ 1000 ∧ cmdSmall c
@[reducible] def krec_s : Spec where
  n := 0
  cs := []
  ar := [.el doE]
  pre := fun (d, _) => doFit d
  n' := 0
  cs' := []
  rs := [.el recE]
  post := .rel fun _ (r, _) => recSmall r
@[reducible] def krec_h : Hints := ⟨[], [], []⟩
@[reducible] noncomputable def krec_e : Env := ⟨tys, [(7, within_s.call), (53, kcmd_s.call)]⟩
set_option maxHeartbeats 1000000 in
set_option maxRecDepth 100000 in
theorem krec_d : denF krec_e krec_s krec_h Tryz.f25 := by
  intro k t w a b q0 q1 q2 q3 q4 q5 q6
  intro hpre
  dsimp only [krec_s, doFit] at hpre
  repeat' (first | (conv => whnf); first | done | exact True.intro | refine And.intro ?_ ?_ | refine Is.mk ?_ | (intro h; cases h; done) | (intro _))
  all_goals try dsimp only [maxLen, El.ty, kcmd_s, cmdSmall] at *
  all_goals try (with_reducible apply List.length_replicate)
  all_goals try simp only [Int.reduceSub, Int.reduceAdd, IntKind.wrap_i64, decide_eq_true_eq, decide_eq_false_iff_not] at *
  all_goals omega
set_option maxRecDepth 100000 in
theorem krec_p : (FnIs Tryz.prog 25 ∧ FnOk Tryz.prog 25 krec_s) ∧ (idsOk krec_s.cs && idsOk krec_s.cs' && Nat.ble krec_s.n krec_s.n') = true :=
  fn_of (l := [(7, within_s.call), (53, kcmd_s.call)]) (hi := krec_h) (S := krec_s) (fn := Tryz.f25) (c := Tryz.f25.body.get!) tysOk mixOk ⟨.inl within_m, .inl kcmd_m, trivial⟩ (by kernel_rfl) (by kernel_rfl) (by kernel_rfl) (by kernel_rfl) (by kernel_rfl) krec_d
theorem krec_m : May Tryz.prog (25, krec_s.call) := may_call krec_p
theorem krec_n : May Tryz.prog (25, krec_s.callN) := may_callN krec_p
end Go.J

set_option linter.unusedSimpArgs false
set_option linter.unusedVariables false
set_option linter.unusedSectionVars false
namespace Go.J
open Go.Proofs

@[reducible] def abytes_s : Spec where
  n := 1
  cs := [(0, .own logSh)]
  ar := [.ref 0]
  pre := fun (b, _, _, _) => b.length ≤ 1000000000
  n' := 2
  cs' := [(0, .own logSh), (1, .row 5 .u8)]
  rs := [.own 1]
  post := .fn fun (b, link, n, _) => (b, link, n, b, ())
@[reducible] def abytes_h : Hints := ⟨[], [], []⟩
@[reducible] noncomputable def abytes_e : Env := ⟨tys, [(51, clone_s.call)]⟩
set_option maxHeartbeats 1000000 in
set_option maxRecDepth 100000 in
theorem abytes_d : denF abytes_e abytes_s abytes_h Tryz.f22 := by
  intro b link n
  intro hpre
  dsimp only [abytes_s] at hpre
  repeat' (first | (conv => whnf); first | done | exact True.intro | refine And.intro ?_ ?_ | refine Is.mk ?_ | (intro h; cases h; done) | (intro _))
  all_goals try (with_reducible rfl)
  show b.length ≤ 1000000000000
  omega
set_option maxRecDepth 100000 in
theorem abytes_p : (FnIs Tryz.prog 22 ∧ FnOk Tryz.prog 22 abytes_s) ∧ (idsOk abytes_s.cs && idsOk abytes_s.cs' && Nat.ble abytes_s.n abytes_s.n') = true :=
  fn_of (l := [(51, clone_s.call)]) (hi := abytes_h) (S := abytes_s) (fn := Tryz.f22) (c := Tryz.f22.body.get!) tysOk mixOk ⟨.inl clone_m, trivial⟩ (by kernel_rfl) (by kernel_rfl) (by kernel_rfl) (by kernel_rfl) (by kernel_rfl) abytes_d
theorem abytes_m : May Tryz.prog (22, abytes_s.call) := may_call abytes_p
theorem abytes_n : May Tryz.prog (22, abytes_s.callN) := may_callN abytes_p
@[reducible] def alink_s : Spec where
  n := 1
  cs := [(0, .own logSh)]
  ar := [.ref 0]
  pre := fun (_, link, _, _) => link.length = 32
  n' := 1
  cs' := [(0, .own logSh)]
  rs := [.el (.ar 32 .u8)]
  post := .fn fun (b, link, n, _) => (b, link, n, link, ())
@[reducible] def alink_h : Hints := ⟨[], [], []⟩
@[reducible] noncomputable def alink_e : Env := ⟨tys, []⟩
set_option maxHeartbeats 1000000 in
set_option maxRecDepth 100000 in
theorem alink_d : denF alink_e alink_s alink_h Tryz.f13 := by
  intro b link n
  intro hpre
  dsimp only [alink_s] at hpre
  repeat' (first | (conv => whnf); first | done | exact True.intro | refine And.intro ?_ ?_ | refine Is.mk ?_ | (intro h; cases h; done) | (intro _))
  all_goals try (with_reducible rfl)
set_option maxRecDepth 100000 in
theorem alink_p : (FnIs Tryz.prog 13 ∧ FnOk Tryz.prog 13 alink_s) ∧ (idsOk alink_s.cs && idsOk alink_s.cs' && Nat.ble alink_s.n alink_s.n') = true :=
  fn_of (l := []) (hi := alink_h) (S := alink_s) (fn := Tryz.f13) (c := Tryz.f13.body.get!) tysOk mixOk trivial (by kernel_rfl) (by kernel_rfl) (by kernel_rfl) (by kernel_rfl) (by kernel_rfl) alink_d
theorem alink_m : May Tryz.prog (13, alink_s.call) := may_call alink_p
theorem alink_n : May Tryz.prog (13, alink_s.callN) := may_callN alink_p
@[reducible] def alen_s : Spec where
  n := 1
  cs := [(0, .own logSh)]
  ar := [.ref 0]
  pre := fun _ => True
  n' := 1
  cs' := [(0, .own logSh)]
  rs := [.el iE]
  post := .fn fun (b, link, n, _) => (b, link, n, n, ())
@[reducible] def alen_h : Hints := ⟨[], [], []⟩
@[reducible] noncomputable def alen_e : Env := ⟨tys, []⟩
set_option maxHeartbeats 1000000 in
set_option maxRecDepth 100000 in
theorem alen_d : denF alen_e alen_s alen_h Tryz.f23 := by
  intro b link n
  intro hpre
  repeat' (first | (conv => whnf); first | done | exact True.intro | refine And.intro ?_ ?_ | refine Is.mk ?_ | (intro h; cases h; done) | (intro _))
  all_goals try (with_reducible rfl)
set_option maxRecDepth 100000 in
theorem alen_p : (FnIs Tryz.prog 23 ∧ FnOk Tryz.prog 23 alen_s) ∧ (idsOk alen_s.cs && idsOk alen_s.cs' && Nat.ble alen_s.n alen_s.n') = true :=
  fn_of (l := []) (hi := alen_h) (S := alen_s) (fn := Tryz.f23) (c := Tryz.f23.body.get!) tysOk mixOk trivial (by kernel_rfl) (by kernel_rfl) (by kernel_rfl) (by kernel_rfl) (by kernel_rfl) alen_d
theorem alen_m : May Tryz.prog (23, alen_s.call) := may_call alen_p
theorem alen_n : May Tryz.prog (23, alen_s.callN) := may_callN alen_p
/-- Are the lists the same? -/
noncomputable def rsameF (xs ys : List recE.ty) : Bool := @decide (xs = ys) (Classical.propDecidable _)
theorem rsame_iff {xs ys : List recE.ty} : rsameF xs ys = true ↔ xs = ys := @decide_eq_true_iff _ (Classical.propDecidable _)
theorem rsame_no {xs ys : List recE.ty} (h : xs ≠ ys) : false = rsameF xs ys := (@decide_eq_false _ (Classical.propDecidable _) h).symm
theorem rsame_yes {xs ys : List recE.ty} (h : xs = ys) : true = rsameF xs ys := (rsame_iff.2 h).symm
@[reducible] noncomputable def rsame_s : Spec where
  n := 0
  cs := []
  ar := [.lend recE, .lend recE]
  pre := fun _ => True
  n' := 0
  cs' := []
  rs := [.el .bool]
  post := .fn fun (xs, ys, _) => (rsameF xs ys, ())
@[reducible] def rsame_a : Ann where
  nx := 0
  cs := []
  ss := [(0, .lend recE), (1, .lend recE), (5, .el (.int .i64))]
  inv := fun (x0, y0, _) (x, y, i, _) => x = x0 ∧ y = y0 ∧ 0 ≤ i ∧ i ≤ x.length ∧ x.length = y.length ∧ x.take i.toNat = y.take i.toNat
  mu := fun (x, _, i, _) => x.length - i.toNat
/-- Are the records the same, part by part? -/
def recEq (a b : recE.ty) : Bool := decide (a.1 = b.1) && (decide (a.2.1 = b.2.1) && (decide (a.2.2.1 = b.2.2.1) && (decide (a.2.2.2.1.1 = b.2.2.2.1.1) && (decide (a.2.2.2.1.2.1 = b.2.2.2.1.2.1) && (decide (a.2.2.2.1.2.2.1 = b.2.2.2.1.2.2.1) && (decide (a.2.2.2.1.2.2.2.1 = b.2.2.2.1.2.2.2.1) && (decide (a.2.2.2.1.2.2.2.2.1 = b.2.2.2.1.2.2.2.2.1) && (decide (a.2.2.2.1.2.2.2.2.2.1 = b.2.2.2.1.2.2.2.2.2.1) && (decide (a.2.2.2.1.2.2.2.2.2.2.1 = b.2.2.2.1.2.2.2.2.2.2.1) && (decide (a.2.2.2.1.2.2.2.2.2.2.2.1 = b.2.2.2.1.2.2.2.2.2.2.2.1) && (decide (a.2.2.2.1.2.2.2.2.2.2.2.2.1 = b.2.2.2.1.2.2.2.2.2.2.2.2.1) && (decide (a.2.2.2.1.2.2.2.2.2.2.2.2.2.1 = b.2.2.2.1.2.2.2.2.2.2.2.2.2.1) && (decide (a.2.2.2.1.2.2.2.2.2.2.2.2.2.2.1 = b.2.2.2.1.2.2.2.2.2.2.2.2.2.2.1) && (decide (a.2.2.2.1.2.2.2.2.2.2.2.2.2.2.2.1 = b.2.2.2.1.2.2.2.2.2.2.2.2.2.2.2.1) && (decide (a.2.2.2.1.2.2.2.2.2.2.2.2.2.2.2.2.1 = b.2.2.2.1.2.2.2.2.2.2.2.2.2.2.2.2.1) && (decide (a.2.2.2.1.2.2.2.2.2.2.2.2.2.2.2.2.2.1 = b.2.2.2.1.2.2.2.2.2.2.2.2.2.2.2.2.2.1) && (decide (a.2.2.2.1.2.2.2.2.2.2.2.2.2.2.2.2.2.2.1 = b.2.2.2.1.2.2.2.2.2.2.2.2.2.2.2.2.2.2.1))))))))))))))))))
theorem recEq_iff {a b : recE.ty} : recEq a b = true ↔ a = b := by
  obtain ⟨xk, xn, xt, ⟨xkk, xseq, xtr, xinst, xid, xside, xord, xpr, xq, xsh, xst, xwh, xc, xd, xtag, _⟩, _⟩ := a
  obtain ⟨yk, yn, yt, ⟨ykk, yseq, ytr, yinst, yid, yside, yord, ypr, yq, ysh, yst, ywh, yc, yd, ytag, _⟩, _⟩ := b
  constructor
  · intro h
    simp only [recEq, Bool.and_eq_true, decide_eq_true_eq] at h
    obtain ⟨rfl, rfl, rfl, rfl, rfl, rfl, rfl, rfl, rfl, rfl, rfl, rfl, rfl, rfl, rfl, rfl, rfl, rfl⟩ := h
    rfl
  · intro h
    cases h
    simp [recEq]
theorem take_next {α : Type} {xs ys : List α} {i : Nat} {d : α} (h : xs.take i = ys.take i) (hx : i < xs.length) (hy : i < ys.length) (e : xs.getD i d = ys.getD i d) : xs.take (i + 1) = ys.take (i + 1) := by
  rw [List.take_add_one, List.take_add_one, h]
  rw [List.getD_eq_getElem?_getD, List.getD_eq_getElem?_getD] at e
  rw [List.getElem?_eq_getElem hx, List.getElem?_eq_getElem hy] at e ⊢
  simp only [Option.getD_some] at e
  rw [e]
attribute [local irreducible] rsameF
@[reducible] def rsame_h : Hints := ⟨[(6, (tks 0 9 .done))], [(4, rsame_a)], []⟩
@[reducible] noncomputable def rsame_e : Env := ⟨tys, []⟩
set_option maxHeartbeats 1000000 in
set_option maxRecDepth 100000 in
theorem rsame_d : denF rsame_e rsame_s rsame_h Tryz.f10 := by
  intro xs ys
  intro hpre
  repeat' (first | (conv => whnf); first | done | exact True.intro | refine And.intro ?_ ?_ | refine Is.mk ?_ | (intro h; cases h; done) | (intro _))
  all_goals try dsimp only [maxLen, El.ty, rsame_a, rsame_s] at *
  all_goals repeat (with_reducible cases ‹_ ∧ _›)
  all_goals try subst_vars
  all_goals try simp only [decide_eq_true_eq, decide_eq_false_iff_not, IntKind.wrap_i64, Bool.not_eq_true', Bool.not_eq_false'] at *
  all_goals try omega
  all_goals try (with_reducible rfl)
  · exact rsame_no (fun e => by subst e; omega)
  · rfl
  all_goals rename List.take _ _ = List.take _ _ => ht
  · rename (_ && _) = _ => hq
    rename_i xs ys i _ _ _ _ _ _ _ _ _
    change recEq (xs.getD i.toNat recE.dflt) (ys.getD i.toNat recE.dflt) = _ at hq
    exact rsame_no (fun e => by subst e; rw [recEq_iff.2 rfl] at hq; exact absurd hq (by decide))
  · rename (_ && _) = _ => hq
    rename_i xs ys i _ _ _ _ _ _ _ _ _
    change recEq (xs.getD i.toNat recE.dflt) (ys.getD i.toNat recE.dflt) = _ at hq
    rw [show ((i + 1 + 9223372036854775808) % 18446744073709551616 - 9223372036854775808).toNat = i.toNat + 1 by omega]
    exact take_next ht (by omega) (by omega) (recEq_iff.1 hq)
  · refine rsame_yes ?_
    rw [List.take_of_length_le (by omega), List.take_of_length_le (by omega)] at ht
    exact ht
set_option maxRecDepth 100000 in
theorem rsame_p : (FnIs Tryz.prog 10 ∧ FnOk Tryz.prog 10 rsame_s) ∧ (idsOk rsame_s.cs && idsOk rsame_s.cs' && Nat.ble rsame_s.n rsame_s.n') = true :=
  fn_of (l := []) (hi := rsame_h) (S := rsame_s) (fn := Tryz.f10) (c := Tryz.f10.body.get!) tysOk mixOk trivial (by kernel_rfl) (by kernel_rfl) (by kernel_rfl) (by kernel_rfl) (by kernel_rfl) rsame_d
theorem rsame_m : May Tryz.prog (10, rsame_s.call) := may_call rsame_p
theorem rsame_n : May Tryz.prog (10, rsame_s.callN) := may_callN rsame_p
end Go.J

set_option linter.unusedSimpArgs false
set_option linter.unusedVariables false
set_option linter.unusedSectionVars false
namespace Go.J
open Go.Proofs

/-- A function that meets a contract meets one that asks more and promises less. -/
theorem FnOk.weak2 {P : Program} {f : FuncId} {S : Spec} {p : Gh S.cs S.ar → Prop} {q : PostK (Gh S.cs S.ar) (Gh S.cs' S.rs)} (h : FnOk P f S) (hp' : ∀ x, p x → S.pre x) (hw : ∀ x y, p x → S.Post x y → Spec.Post { S with pre := p, post := q } x y) : FnOk P f { S with pre := p, post := q } := by
  intro w0 F0 G x vs hm hf hp
  refine Calls.mono (h w0 F0 G x vs hm hf (hp' x hp)) ?_
  rintro e w' ⟨rs, y, G', e1, e2, e3, e4, e5, e6⟩
  exact ⟨rs, y, G', e1, e2, e3, e4, e5, hw _ _ hp e6⟩
theorem weak2_p {P : Program} {f : FuncId} {S : Spec} {p : Gh S.cs S.ar → Prop} {q : PostK (Gh S.cs S.ar) (Gh S.cs' S.rs)} (h : (FnIs P f ∧ FnOk P f S) ∧ (idsOk S.cs && idsOk S.cs' && Nat.ble S.n S.n') = true) (hp' : ∀ x, p x → S.pre x) (hw : ∀ x y, p x → S.Post x y → Spec.Post { S with pre := p, post := q } x y) :
    (FnIs P f ∧ FnOk P f { S with pre := p, post := q }) ∧ (idsOk S.cs && idsOk S.cs' && Nat.ble S.n S.n') = true := ⟨⟨h.1.1, h.1.2.weak2 hp' hw⟩, h.2⟩

/-- A record whose numbers the program can hold. -/
def RFit (r : recE.ty) : Prop := recFit r
theorem RFit.in {r : recE.ty} (h : recFit r) : RFit r := h
theorem RFit.out {r : recE.ty} (h : RFit r) : recFit r := h
/-- A record of numbers, of which each is one of the program's. -/
def DFit (d : doE.ty) : Prop := doFit d
theorem DFit.in {d : doE.ty} (h : doFit d) : DFit d := h
theorem DFit.out {d : doE.ty} (h : DFit d) : doFit d := h
theorem small_fit {r : recE.ty} (h : recSmall r) : RFit r := by
  obtain ⟨k, n, t, ⟨kk, seq, tr, inst, id, side, ord, pr, q, sh, st, wh, a, b, tag, _⟩, _⟩ := r
  revert h
  dsimp only [RFit, recSmall, cmdSmall, recFit, cmdFit, fit64, El.ty]
  rintro ⟨h1, h2, h3, h4, h5, h6, hl, h7⟩
  refine ⟨⟨?_, ?_⟩, ⟨?_, ?_⟩, ⟨?_, ?_⟩, hl, ?_⟩
  all_goals omega
theorem zero_fit : RFit zeroR := by
  refine small_fit ?_
  refine ⟨by decide, by decide, by decide, by decide, by decide, by decide, rfl, ?_⟩
  decide
attribute [irreducible] RFit DFit

@[reducible] def krecw_s : Spec := { krec_s with pre := fun (d, _) => DFit d, post := .rel fun _ (r, _) => RFit r }
theorem krecw_m : May Tryz.prog (25, krecw_s.call) := may_call (weak2_p (S := krec_s) (p := krecw_s.pre) (q := krecw_s.post) krec_p (fun x h => DFit.out h) fun x y _ h => small_fit h)
@[reducible] def arightw_s : Spec := { aright_s with pre := fun (r, _) => RFit r, post := .fn fun (r, _) => (arightR r, ()) }
theorem arightw_m : May Tryz.prog (15, arightw_s.call) := may_call (weak2_p (S := aright_s) (p := arightw_s.pre) (q := arightw_s.post) aright_p (fun x h => (RFit.out h).2.2.2.1) fun x y _ h => h)
@[reducible] def aputw_s : Spec := { aput_s with pre := fun (r, _) => RFit r, post := .fn fun (r, _) => (aputR r, ()) }
theorem aputw_m : May Tryz.prog (18, aputw_s.call) := may_call (weak2_p (S := aput_s) (p := aputw_s.pre) (q := aputw_s.post) aput_p (fun x h => RFit.out h) fun x y _ h => h)
@[reducible] def aaddw_s : Spec := { aadd_s with pre := fun (b, link, n, r, _) => RFit r ∧ link.length = 32 ∧ b.length ≤ 10000000 ∧ 0 ≤ n ∧ n ≤ 10000000, post := .fn fun (b, link, n, r, _) => addF b link n r }
theorem aaddw_m : May Tryz.prog (16, aaddw_s.call) := may_call (weak2_p (S := aadd_s) (p := aaddw_s.pre) (q := aaddw_s.post) aadd_p (fun x h => ⟨RFit.out h.1, h.2⟩) fun x y _ h => h)
theorem getD_mem' {α : Type} {xs : List α} {i : Int} {d : α} (h0 : 0 ≤ i) (h : i < (xs.length : Int)) : xs.getD i.toNat d ∈ xs := by
  rw [List.getD_eq_getElem?_getD, List.getElem?_eq_getElem (by omega), Option.getD_some]
  exact List.getElem_mem _

@[reducible] def recs_s : Spec where
  n := 0
  cs := []
  ar := [.el (.rd doE), .el iE, .el recE]
  pre := fun (l, _, raw, _) => (∀ d ∈ l, DFit d) ∧ RFit raw
  n' := 1
  cs' := [(0, .row 33 recE)]
  rs := [.own 0]
  post := .rel fun _ (out, _) => out.length ≤ 12 ∧ ∀ r ∈ out, RFit r
@[reducible] def recs_a : Ann where
  nx := 2
  cs := [(0, .row 33 recE), (1, .own (.el recE))]
  ss := [(0, .el (.rd doE)), (1, .el iE), (5, .ref 1), (7, .own 0), (8, .el iE)]
  inv := fun (_, r0, l0, a0, _, _) (out, r, l, a, i, _) => r = r0 ∧ l = l0 ∧ a = a0 ∧ 0 ≤ i ∧ i ≤ 12 ∧ out.length ≤ i ∧ ∀ x ∈ out, RFit x
  mu := fun (_, _, _, _, i, _) => 12 - i.toNat
@[reducible] def recs_h : Hints := ⟨[], [(3, recs_a)], []⟩
@[reducible] noncomputable def recs_e : Env := ⟨tys, [(25, krecw_s.call)]⟩
set_option maxHeartbeats 1000000 in
set_option maxRecDepth 100000 in
theorem recs_d : denF recs_e recs_s recs_h Tryz.f6 := by
  intro l at_ k n t kk seq tr inst id side ord pr q sh st wh a b tag
  intro hpre
  dsimp only [recs_s] at hpre
  repeat' (first | (conv => whnf); first | done | exact True.intro | refine And.intro ?_ ?_ | refine Is.mk ?_ | (intro h; cases h; done) | (intro _))
  all_goals try dsimp only [maxLen, El.ty, recs_a] at *
  all_goals repeat (with_reducible cases ‹_ ∧ _›)
  all_goals try (with_reducible assumption)
  all_goals try (with_reducible rfl)
  all_goals try subst_vars
  all_goals try simp only [decide_eq_true_eq, decide_eq_false_iff_not, IntKind.wrap_i64, Bool.and_eq_true, List.length_append, List.length_singleton] at *
  all_goals try omega
  all_goals try ((with_reducible change ((([] : List recE.ty).length : Nat) : Int) ≤ 0); exact Int.le_refl 0)
  all_goals try (rename ∀ d : doE.ty, _ → DFit d => hd; exact hd _ (getD_mem' (by assumption) (by assumption)))
  all_goals rename ∀ x : recE.ty, _ → RFit x => ha
  all_goals rename _ ∈ _ => hr
  all_goals try exact ha _ hr
  all_goals rcases List.mem_append.1 hr with hr | hr
  all_goals try exact ha _ hr
  all_goals rw [List.mem_singleton.1 hr]
  all_goals try assumption
  all_goals (rename (_, _) = _ => he; rw [he]; assumption)
set_option maxRecDepth 100000 in
theorem recs_p : (FnIs Tryz.prog 6 ∧ FnOk Tryz.prog 6 recs_s) ∧ (idsOk recs_s.cs && idsOk recs_s.cs' && Nat.ble recs_s.n recs_s.n') = true :=
  fn_of (l := [(25, krecw_s.call)]) (hi := recs_h) (S := recs_s) (fn := Tryz.f6) (c := Tryz.f6.body.get!) tysOk mixOk ⟨.inl krecw_m, trivial⟩ (by kernel_rfl) (by kernel_rfl) (by kernel_rfl) (by kernel_rfl) (by kernel_rfl) recs_d
theorem recs_m : May Tryz.prog (6, recs_s.call) := may_call recs_p
theorem recs_n : May Tryz.prog (6, recs_s.callN) := may_callN recs_p
end Go.J

set_option linter.unusedSimpArgs false
set_option linter.unusedVariables false
set_option linter.unusedSectionVars false
namespace Go.J
open Go.Proofs

theorem rv_at {a b c : List UInt8} {o n : Nat} (ha : a.length = o) (hb : b.length = n) : rv (a ++ (b ++ c)) o n = fb b := by
  subst ha hb
  unfold rv
  rw [List.drop_left, List.take_left]
theorem rv_left {x t : List UInt8} {o n : Nat} (h : o + n ≤ x.length) : rv (x ++ t) o n = rv x o n := by
  unfold rv
  rw [List.drop_append_of_le_length (by omega), List.take_append_of_le_length (by rw [List.length_drop]; omega)]
theorem noneC_eq {c : cmdE.ty} (h : noneC c = true) : c = zeroC := by
  obtain ⟨k, seq, tr, inst, id, side, ord, pr, q, sh, st, wh, a, b, tag, _⟩ := c
  simp only [noneC, zs, zt, Bool.and_eq_true, decide_eq_true_eq, and_true] at h
  obtain ⟨⟨rfl, rfl, rfl, rfl, rfl, rfl, rfl, rfl, rfl, rfl, rfl, rfl, rfl, rfl⟩, rfl⟩ := h
  rfl
theorem right_facts {k n t : Int} {c : cmdE.ty} (h : arightF k n t c = true) : 1 ≤ k ∧ k ≤ 5 ∧ 0 ≤ n ∧ n ≤ 1099511627776 ∧ 0 ≤ t ∧ t ≤ 31 ∧ ((k = 2 ∧ rightC c = true) ∨ (k ≠ 2 ∧ c = zeroC)) := by
  unfold arightF at h
  rcases kinds5 k with rfl | rfl | rfl | rfl | rfl | ⟨n1, n2, n3, n4, n5⟩
  · simp only [Int.reduceEq, if_true, if_false, reduceIte, Bool.and_eq_true, decide_eq_true_eq] at h
    exact ⟨by omega, by omega, by omega, by omega, by omega, by omega, .inr ⟨by decide, noneC_eq h.2.2.2⟩⟩
  · simp only [Int.reduceEq, reduceIte, Bool.and_eq_true, decide_eq_true_eq] at h
    have := w1_in h.1
    exact ⟨by omega, by omega, by omega, by omega, by omega, by omega, .inl ⟨rfl, h.2.1⟩⟩
  · simp only [Int.reduceEq, reduceIte, Bool.and_eq_true, decide_eq_true_eq] at h
    have := w1_in h.1
    exact ⟨by omega, by omega, by omega, by omega, by omega, by omega, .inr ⟨by decide, noneC_eq h.2.2⟩⟩
  · simp only [Int.reduceEq, reduceIte, Bool.and_eq_true, decide_eq_true_eq] at h
    have := w1_in h.1
    exact ⟨by omega, by omega, by omega, by omega, by omega, by omega, .inr ⟨by decide, noneC_eq h.2.2⟩⟩
  · simp only [Int.reduceEq, reduceIte, Bool.and_eq_true, decide_eq_true_eq] at h
    have := w1_in h.1
    exact ⟨by omega, by omega, by omega, by omega, by omega, by omega, .inr ⟨by decide, noneC_eq h.2.2⟩⟩
  · rw [if_neg n1, if_neg n2, if_neg n3, if_neg n4, if_neg n5] at h
    cases h
theorem put_zeroC : putC zeroC = [] := put_not _ _ _ _ _ _ _ _ _ _ _ _ _ _ _ (by simp [rightF])
/-- Is a record's tag as long as it must be? -/
def TagOk (r : recE.ty) : Prop := r.2.2.2.1.2.2.2.2.2.2.2.2.2.2.2.2.2.2.1.length = 32
theorem RFit.tag {r : recE.ty} (h : RFit r) : TagOk r := h.out.2.2.2.1
theorem putC_facts {c : cmdE.ty} (ht : c.2.2.2.2.2.2.2.2.2.2.2.2.2.2.1.length = 32) (h : rightC c = true) : ((putC c).length : Int) = lenK c.1 ∧ 1 ≤ (putC c).length ∧ (putC c).length ≤ 33 ∧ rv (putC c) 0 1 = c.1 ∧ getF (putC c) = (c, true) := by
  obtain ⟨k, seq, tr, inst, id, side, ord, pr, q, sh, st, wh, a, b, tag, _⟩ := c
  have e : putC (k, seq, tr, inst, id, side, ord, pr, q, sh, st, wh, a, b, tag, ()) = bytesF k seq tr inst id side ord pr q sh st wh a b tag := put_right _ _ _ _ _ _ _ _ _ _ _ _ _ _ _ h
  have h' : rightF k seq tr inst id side ord pr q sh st wh a b tag = true := h
  have ht' : tag.length = 32 := ht
  have hl := right_len ht' h'
  have hk := right_kind h'
  have hm := lenK_le k
  have hp := bytes_pos k seq tr inst id side ord pr q sh st wh a b tag
  rw [e]
  exact ⟨hl, by omega, by omega, rv_first (by omega) (by omega) _, get_bytes ht' h'⟩
/-- The parts of a right record's bytes. -/
theorem aput_facts {k n t : Int} {c : cmdE.ty} (h : arightF k n t c = true) : rv (aputF k n t c) 0 1 = k ∧ rv (aputF k n t c) 1 8 = n ∧ rv (aputF k n t c) 9 1 = t ∧ (aputF k n t c).drop 10 = putC c ∧ (aputF k n t c).length = 10 + (putC c).length := by
  obtain ⟨k0, k1, n0, n1, t0, t1, _⟩ := right_facts h
  have e : aputF k n t c = be 1 k ++ (be 8 n ++ (be 1 t ++ putC c)) := by
    unfold aputF
    rw [show n % 18446744073709551616 = n by omega]
    simp only [List.append_assoc]
  rw [e]
  refine ⟨rv_first (by omega) (by omega) _, ?_, ?_, ?_, ?_⟩
  · rw [rv_at (be_length 1 k) (be_length 8 n)]
    exact fb_be 8 n n0 (by show n < 18446744073709551616; omega)
  · rw [← List.append_assoc, rv_at (by rw [List.length_append, be_length, be_length]) (be_length 1 t)]
    exact fb_be1 t0 (by omega)
  · rw [← List.append_assoc, ← List.append_assoc]
    exact List.drop_left' (by simp only [List.length_append, be_length])
  · simp only [List.length_append, be_length]
    omega
theorem aget_aput {r : recE.ty} (ht : TagOk r) (h : arightR r = true) : agetF (aputR r) = (r, true) := by
  obtain ⟨k, n, t, c, _⟩ := r
  obtain ⟨f1, f2, f3, f4, f5⟩ := aput_facts (show arightF k n t c = true from h)
  obtain ⟨k0, k1, n0, n1, t0, t1, hc⟩ := right_facts (show arightF k n t c = true from h)
  have e : agetR (aputF k n t c) = (k, n, t, c, ()) := by
    unfold agetR
    rw [f1, f2, f3, f4, wi n0 (by omega)]
    rcases hc with ⟨rfl, hr⟩ | ⟨hk, rfl⟩
    · rw [if_pos rfl, (putC_facts (c := c) ht hr).2.2.2.2]
    · rw [if_neg hk]
  show agetF (aputF k n t c) = _
  unfold agetF
  rw [e, if_pos]
  unfold agetB
  rw [e, h, f1, f4, f5]
  have e2 : aputR (k, n, t, c, ()) = aputF k n t c := rfl
  rw [e2, decide_eq_true (rfl : aputF k n t c = aputF k n t c), decide_eq_true (show 10 ≤ 10 + (putC c).length by omega)]
  rcases hc with ⟨rfl, hr⟩ | ⟨hk, rfl⟩
  · rw [(putC_facts (c := c) ht hr).2.2.2.2]; simp
  · rw [decide_eq_false hk]; rfl
theorem aput_inj {a b : recE.ty} (ta : TagOk a) (tb : TagOk b) (ha : arightR a = true) (hb : arightR b = true) (h : aputR a = aputR b) : a = b := by
  have e1 := aget_aput ta ha
  have e2 := aget_aput tb hb
  rw [h, e2] at e1
  exact (congrArg Prod.fst e1).symm
theorem aget_out {xs : List UInt8} (h : (agetF xs).2 = true) : TagOk (agetF xs).1 ∧ arightR (agetF xs).1 = true ∧ aputR (agetF xs).1 = xs := by
  unfold agetF at h ⊢
  by_cases hb : agetB xs = true
  · rw [if_pos hb]
    unfold agetB at hb
    simp only [Bool.and_eq_true, decide_eq_true_eq] at hb
    refine ⟨?_, hb.2.2.1, hb.2.2.2⟩
    show (if rv xs 0 1 = 2 then (getF (xs.drop 10)).1 else zeroC).2.2.2.2.2.2.2.2.2.2.2.2.2.2.1.length = 32
    split
    · exact (get_fit _).1
    · rfl
  · rw [if_neg hb] at h
    cases h
/-- How long a right record's bytes are, told by them. -/
theorem aput_len2 {r : recE.ty} (ht : TagOk r) (h : arightR r = true) : ((aputR r).length : Int) = (if rv (aputR r) 0 1 = 2 then 10 + lenK (rv (aputR r) 10 1) else 10) ∧ 10 ≤ (aputR r).length ∧ (aputR r).length ≤ 43 ∧ (rv (aputR r) 0 1 = 2 → 11 ≤ (aputR r).length) := by
  obtain ⟨k, n, t, c, _⟩ := r
  obtain ⟨f1, f2, f3, f4, f5⟩ := aput_facts (show arightF k n t c = true from h)
  obtain ⟨k0, k1, n0, n1, t0, t1, hc⟩ := right_facts (show arightF k n t c = true from h)
  have e2 : aputR (k, n, t, c, ()) = aputF k n t c := rfl
  rw [e2, f1, f5]
  rcases hc with ⟨rfl, hr⟩ | ⟨hk, rfl⟩
  · obtain ⟨g1, g2, g3, g4, _⟩ := putC_facts (c := c) ht hr
    have e3 : rv (aputF 2 n t c) 10 1 = rv (putC c) 0 1 := by
      unfold rv
      rw [f4, List.drop_zero]
    rw [if_pos rfl, e3, g4]
    exact ⟨by omega, by omega, by omega, fun _ => by omega⟩
  · rw [if_neg hk, put_zeroC]
    exact ⟨rfl, by decide, by decide, fun h => absurd h hk⟩
theorem aput_prefix {a b : recE.ty} (ta : TagOk a) (tb : TagOk b) (ha : arightR a = true) (hb : arightR b = true) {t : List UInt8} (h : aputR b = aputR a ++ t) : t = [] := by
  obtain ⟨a1, a2, _, a3⟩ := aput_len2 ta ha
  obtain ⟨b1, b2, _, b3⟩ := aput_len2 tb hb
  have e1 : rv (aputR b) 0 1 = rv (aputR a) 0 1 := by rw [h]; exact rv_left (by omega)
  have hl := congrArg List.length h
  rw [List.length_append] at hl
  refine List.eq_nil_of_length_eq_zero ?_
  by_cases hk : rv (aputR a) 0 1 = 2
  · have e2 : rv (aputR b) 10 1 = rv (aputR a) 10 1 := by rw [h]; exact rv_left (by have := a3 hk; omega)
    rw [e1, e2, if_pos hk] at b1
    rw [if_pos hk] at a1
    omega
  · rw [e1, if_neg hk] at b1
    rw [if_neg hk] at a1
    omega
theorem aget_short {r : recE.ty} (ht : TagOk r) (h : arightR r = true) {n : Nat} (hn : n < (aputR r).length) : (agetF ((aputR r).take n)).2 = false := by
  cases hg : (agetF ((aputR r).take n)).2
  · rfl
  · obtain ⟨g1, g2, g3⟩ := aget_out hg
    have := aput_prefix g1 ht g2 h (t := (aputR r).drop n) (by rw [g3, List.take_append_drop])
    have := congrArg List.length this
    rw [List.length_drop, List.length_nil] at this
    omega
theorem aget_long {r : recE.ty} (ht : TagOk r) (h : arightR r = true) (c : UInt8) : (agetF (aputR r ++ [c])).2 = false := by
  cases hg : (agetF (aputR r ++ [c])).2
  · rfl
  · obtain ⟨g1, g2, g3⟩ := aget_out hg
    have := aput_prefix ht g1 h g2 (t := [c]) g3
    cases this
end Go.J

set_option linter.unusedSimpArgs false
set_option linter.unusedVariables false
set_option linter.unusedSectionVars false
namespace Go.J
open Go.Proofs

theorem fb_len4 {n : Nat} (h : n ≤ 1000) : fb (be 4 (n : Int)) = n := fb_be4 (by omega) (by omega)
/-- An entry's parts. -/
theorem ent_parts {link X L rest : List UInt8} (hX : X.length ≤ 200) (hL : L.length = 32) (f : List UInt8 → List UInt8 → List UInt8) (hf : f = linkF) :
    entF link (be 4 (X.length : Int) ++ (X ++ (L ++ rest))) = if (agetF X).2 = true ∧ L = f link X then ((agetF X).1, f link X, 36 + (X.length : Int)) else (zeroR, link, 0) := by
  subst hf
  have e1 : rv (be 4 (X.length : Int) ++ (X ++ (L ++ rest))) 0 4 = X.length := by
    have := rv_at (a := []) (b := be 4 (X.length : Int)) (c := X ++ (L ++ rest)) (o := 0) (n := 4) rfl (be_length 4 _)
    rw [List.nil_append] at this
    rw [this, fb_len4 (by omega)]
  have e2 : ((be 4 (X.length : Int) ++ (X ++ (L ++ rest))).drop 4).take X.length = X := by
    rw [List.drop_left' (be_length 4 _), List.take_left' rfl]
  have e3 : ((be 4 (X.length : Int) ++ (X ++ (L ++ rest))).drop (4 + X.length)).take 32 = L := by
    rw [← List.append_assoc, List.drop_left' (by rw [List.length_append, be_length]), List.take_left' hL]
  have e4 : (be 4 (X.length : Int) ++ (X ++ (L ++ rest))).length = 4 + (X.length + (32 + rest.length)) := by
    simp only [List.length_append, be_length, hL]
  unfold entF
  rw [e1, Int.toNat_natCast, e2, e3, e4]
  by_cases hc : (agetF X).2 = true ∧ L = linkF link X
  · rw [if_pos hc, if_pos ⟨by omega, by omega, by omega, hc⟩]
  · rw [if_neg hc, if_neg fun h => hc h.2.2.2]
/-- A right record's entry is read. -/
theorem ent_ok {link : List UInt8} {r : recE.ty} (ht : TagOk r) (h : arightR r = true) (rest : List UInt8) : entF link (entB link r ++ rest) = (r, linkF link (aputR r), 36 + ((aputR r).length : Int)) := by
  have hl := (aput_len2 ht h).2.2.1
  have e : entB link r ++ rest = be 4 ((aputR r).length : Int) ++ (aputR r ++ (linkF link (aputR r) ++ rest)) := by simp only [entB, List.append_assoc]
  rw [e, ent_parts (by omega) (link_len _ _) linkF rfl, aget_aput ht h, if_pos ⟨rfl, rfl⟩]
theorem ent_len0 {link : List UInt8} {r : recE.ty} : (entB link r).length = 36 + (aputR r).length := by
  simp only [entB, List.length_append, be_length, link_len]; omega
theorem ent_first {link : List UInt8} {r : recE.ty} (ht : TagOk r) (h : arightR r = true) (rest : List UInt8) : rv (entB link r ++ rest) 0 4 = (aputR r).length := by
  have hl := (aput_len2 ht h).2.2.1
  have e : entB link r ++ rest = be 4 ((aputR r).length : Int) ++ (aputR r ++ (linkF link (aputR r) ++ rest)) := by simp only [entB, List.append_assoc]
  have := rv_at (a := []) (b := be 4 ((aputR r).length : Int)) (c := aputR r ++ (linkF link (aputR r) ++ rest)) (o := 0) (n := 4) rfl (be_length 4 _)
  rw [List.nil_append] at this
  rw [e, this, fb_len4 (by omega)]
/-- An entry that was cut is none. -/
theorem ent_cut {link ahead : List UInt8} {r : recE.ty} (ht : TagOk r) (h : arightR r = true) {m : Nat} (hm : m < (entB link r).length) : entF ahead ((entB link r).take m) = (zeroR, ahead, 0) := by
  have hl : ((entB link r).take m).length = m := by rw [List.length_take]; omega
  have hn := ent_len0 (link := link) (r := r)
  refine if_neg fun hc => ?_
  obtain ⟨h1, _, h3, _⟩ := hc
  rw [hl] at h1 h3
  have e : rv ((entB link r).take m) 0 4 = (aputR r).length := by
    have := ent_first (link := link) ht h []
    rw [List.append_nil] at this
    rw [← this, ← List.take_append_drop m (entB link r)]
    rw [rv_left (x := (entB link r).take m) (by omega), List.take_append_drop]
  rw [e] at h3
  omega
attribute [local irreducible] linkF entF entB aputR arightR agetF parseG
/-- The log of records behind a link; its link. -/
def encL : List UInt8 → List recE.ty → List UInt8
  | _, [] => []
  | link, r :: rs => entB link r ++ encL (linkF link (aputR r)) rs
def endL : List UInt8 → List recE.ty → List UInt8
  | link, [] => link
  | link, r :: rs => endL (linkF link (aputR r)) rs
theorem encL_append : ∀ (link : List UInt8) (xs ys : List recE.ty), encL link (xs ++ ys) = encL link xs ++ encL (endL link xs) ys
  | _, [], _ => rfl
  | link, r :: xs, ys => by
    show entB link r ++ encL _ (xs ++ ys) = entB link r ++ encL _ xs ++ encL (endL _ xs) ys
    rw [encL_append, List.append_assoc]
theorem endL_append : ∀ (link : List UInt8) (xs ys : List recE.ty), endL link (xs ++ ys) = endL (endL link xs) ys
  | _, [], _ => rfl
  | link, r :: xs, ys => endL_append _ xs ys
/-- All are right. -/
def RightL (rs : List recE.ty) : Prop := ∀ r ∈ rs, TagOk r ∧ arightR r = true
theorem parse_app : ∀ (rs : List recE.ty) (_ : RightL rs) (link tail : List UInt8) (at_ : Int),
    parseG link (encL link rs ++ tail) at_ = (rs ++ (parseG (endL link rs) tail (at_ + (encL link rs).length)).1, (parseG (endL link rs) tail (at_ + (encL link rs).length)).2)
  | [], _, link, tail, at_ => by
    show parseG link ([] ++ tail) at_ = ([] ++ (parseG link tail (at_ + (0 : Int))).1, (parseG link tail (at_ + (0 : Int))).2)
    rw [Int.add_zero]; rfl
  | r :: rs, hr, link, tail, at_ => by
    obtain ⟨ht, h⟩ := hr r (List.mem_cons_self ..)
    have e : encL link (r :: rs) ++ tail = entB link r ++ (encL (linkF link (aputR r)) rs ++ tail) := List.append_assoc ..
    have he := ent_ok (link := link) ht h (encL (linkF link (aputR r)) rs ++ tail)
    have hn := ent_len0 (link := link) (r := r)
    have hx : entB link r ++ (encL (linkF link (aputR r)) rs ++ tail) ≠ [] := by
      intro h0
      have := congrArg List.length h0
      rw [List.length_append, List.length_nil] at this
      omega
    rw [e, parseG_step hx (by rw [he]; show (36 + ((aputR r).length : Int)) ≠ 0; omega), he]
    dsimp only
    rw [List.drop_left' (by omega), parse_app rs (fun x hx => hr x (List.mem_cons_of_mem _ hx))]
    have e3 : at_ + (36 + ((aputR r).length : Int)) + ((encL (linkF link (aputR r)) rs).length : Int) = at_ + ((encL link (r :: rs)).length : Int) := by
      show _ = at_ + (((entB link r ++ encL (linkF link (aputR r)) rs).length : Nat) : Int)
      rw [List.length_append, hn]; omega
    rw [e3]
    rfl
/-- A whole log. -/
theorem parse_all {rs : List recE.ty} (h : RightL rs) : parseF (encL noSum rs) = (rs, -1) := by
  have := parse_app rs h noSum [] 0
  rw [List.append_nil, parseG_nil] at this
  unfold parseF
  rw [this, List.append_nil]
/-- A log that was cut within an entry. -/
theorem parse_cut {rs : List recE.ty} {r : recE.ty} (h : RightL rs) (ht : TagOk r) (hr : arightR r = true) {m : Nat} (h0 : 0 < m) (hm : m < (entB (endL noSum rs) r).length) :
    parseF (encL noSum rs ++ (entB (endL noSum rs) r).take m) = (rs, ((encL noSum rs).length : Int)) := by
  have := parse_app rs h noSum ((entB (endL noSum rs) r).take m) 0
  unfold parseF
  have hx : (entB (endL noSum rs) r).take m ≠ [] := by
    intro e
    have := congrArg List.length e
    rw [List.length_take, List.length_nil] at this
    omega
  rw [this, parseG_stop hx (by rw [ent_cut ht hr hm]), List.append_nil, Int.zero_add]
theorem encL_snoc (ws : List recE.ty) (link : List UInt8) (r : recE.ty) : encL link (ws ++ [r]) = encL link ws ++ entB (endL link ws) r := by
  rw [encL_append]
  show _ ++ (entB _ r ++ []) = _
  rw [List.append_nil]
theorem endL_snoc (ws : List recE.ty) (link : List UInt8) (r : recE.ty) : endL link (ws ++ [r]) = linkF (endL link ws) (aputR r) := endL_append link ws [r]
/-- The places at which entries end, the log's beginning first. -/
def endsL (ws : List recE.ty) : List Int := (List.range (ws.length + 1)).map fun j => ((encL noSum (ws.take j)).length : Int)
theorem endsL_len (ws : List recE.ty) : (endsL ws).length = ws.length + 1 := by simp [endsL]
theorem endsL_snoc (ws : List recE.ty) (r : recE.ty) : endsL (ws ++ [r]) = endsL ws ++ [((encL noSum (ws ++ [r])).length : Int)] := by
  unfold endsL
  rw [List.length_append, List.length_singleton, List.range_succ, List.map_append]
  congr 1
  · refine List.map_congr_left fun j hj => ?_
    rw [List.mem_range] at hj
    rw [List.take_append_of_le_length (by omega)]
  · show [((encL noSum ((ws ++ [r]).take (ws.length + 1))).length : Int)] = _
    rw [List.take_of_length_le (by rw [List.length_append, List.length_singleton]; omega)]
theorem endsL_get (ws : List recE.ty) {j : Nat} (h : j ≤ ws.length) : (endsL ws).getD j 0 = ((encL noSum (ws.take j)).length : Int) := by
  unfold endsL
  rw [List.getD_eq_getElem?_getD, List.getElem?_map, List.getElem?_range (by omega)]
  rfl
theorem encL_cut (ws : List recE.ty) (j : Nat) : encL noSum ws = encL noSum (ws.take j) ++ encL (endL noSum (ws.take j)) (ws.drop j) := by
  rw [← encL_append, List.take_append_drop]
theorem RightL.take {ws : List recE.ty} (h : RightL ws) (j : Nat) : RightL (ws.take j) := fun r hr => h r (List.mem_of_mem_take hr)
/-- THE LOG, cut at a place: the records that end no later, and the place behind them. -/
theorem parse_take {ws : List recE.ty} (h : RightL ws) {k n : Nat} (hk : k ≤ (encL noSum ws).length) (hn : n ≤ ws.length) (h1 : (encL noSum (ws.take n)).length ≤ k) (h2 : n < ws.length → k < (encL noSum (ws.take (n + 1))).length) :
    parseF ((encL noSum ws).take k) = (ws.take n, if ((encL noSum (ws.take n)).length : Int) = k then -1 else ((encL noSum (ws.take n)).length : Int)) := by
  by_cases he : (encL noSum (ws.take n)).length = k
  · have e : (encL noSum ws).take k = encL noSum (ws.take n) := by
      rw [encL_cut ws n, List.take_left' he]
    rw [e, parse_all (h.take n), if_pos (by omega)]
  · have hlt : n < ws.length := by
      refine Nat.lt_of_not_le fun hge => ?_
      rw [List.take_of_length_le hge] at h1 he
      omega
    have h3 := h2 hlt
    have hd : ws.drop n = ws[n] :: ws.drop (n + 1) := List.drop_eq_getElem_cons hlt
    have e4 : ws.take (n + 1) = ws.take n ++ [ws[n]] := by rw [List.take_add_one, List.getElem?_eq_getElem hlt]; rfl
    rw [e4, encL_snoc, List.length_append] at h3
    have e : (encL noSum ws).take k = encL noSum (ws.take n) ++ (entB (endL noSum (ws.take n)) ws[n]).take (k - (encL noSum (ws.take n)).length) := by
      rw [encL_cut ws n, hd]
      show List.take k (encL noSum (ws.take n) ++ (entB (endL noSum (ws.take n)) ws[n] ++ encL _ (ws.drop (n + 1)))) = _
      rw [List.take_append, List.take_of_length_le (by omega)]
      congr 1
      rw [List.take_append_of_le_length (by omega)]
    obtain ⟨ht, hr⟩ := h ws[n] (List.getElem_mem hlt)
    rw [e, parse_cut (h.take n) ht hr (by omega) (by omega), if_neg (by omega)]
end Go.J

set_option linter.unusedSimpArgs false
set_option linter.unusedVariables false
set_option linter.unusedSectionVars false
namespace Go.J
open Go.Proofs

def rec5 : recE.ty := (1, 5, 0, (0, 0, 0, 0, 0, 0, 0, 0, 0, 0, 0, 0, 0, 0, List.replicate 32 El.u8.dflt, ()), ())
theorem rec5_right : arightR rec5 = true := by kernel_rfl
theorem rec5_put : aputR rec5 = [1, 0, 0, 0, 0, 0, 0, 0, 5, 0] := by kernel_rfl
theorem rec5_fit : RFit rec5 := by
  refine small_fit ?_
  refine ⟨by decide, by decide, by decide, by decide, by decide, by decide, rfl, ?_⟩
  decide
theorem rec5_be : be 4 (([1, 0, 0, 0, 0, 0, 0, 0, 5, 0] : List UInt8).length : Int) = [0, 0, 0, 10] := by kernel_rfl
/-- The link behind the first. -/
def link5 : List UInt8 := linkF noSum (aputR rec5)
theorem link5_len : link5.length = 32 := link_len _ _
theorem ent5 : entB noSum rec5 = [0, 0, 0, 10, 1, 0, 0, 0, 0, 0, 0, 0, 5, 0] ++ link5 := by
  unfold entB link5
  rw [rec5_put, rec5_be]
  rfl
theorem add5 : addF [] noSum 0 rec5 = ([0, 0, 0, 10, 1, 0, 0, 0, 0, 0, 0, 0, 5, 0] ++ link5, link5, 1, true, ()) := by
  rw [addF_yes rec5_right, ent5]
  rfl
theorem parse5 : parseF ([0, 0, 0, 10, 1, 0, 0, 0, 0, 0, 0, 0, 5, 0] ++ link5 ++ [0]) = ([rec5], 46) := by
  have h := parse_app [rec5] (fun r hr => by rw [List.mem_singleton.1 hr]; exact ⟨rec5_fit.tag, rec5_right⟩) noSum [0] 0
  have e : encL noSum [rec5] = [0, 0, 0, 10, 1, 0, 0, 0, 0, 0, 0, 0, 5, 0] ++ link5 := by
    show entB noSum rec5 ++ [] = _
    rw [List.append_nil, ent5]
  have he : (entF (endL noSum [rec5]) [0]).2.2 = 0 := by
    unfold entF
    rw [if_neg fun h => absurd h.1 (by decide)]
  rw [e, parseG_stop (by simp) he, List.length_append, link5_len] at h
  exact h
theorem take14 : List.take (14 - 0 : Int).toNat (List.drop (Int.toNat 0) ([0, 0, 0, 10, 1, 0, 0, 0, 0, 0, 0, 0, 5, 0] ++ link5)) = [0, 0, 0, 10, 1, 0, 0, 0, 0, 0, 0, 0, 5, 0] :=
  List.take_left' (l₂ := link5) (i := 14) rfl
attribute [local irreducible] addF parseF linkF entB aputR arightR agetF rsameF link5
@[reducible] def auditRuns_s : Spec where
  n := 0
  cs := []
  ar := []
  pre := fun _ => True
  n' := 0
  cs' := []
  rs := [.el .bool]
  post := .fn fun _ => (true, ())
@[reducible] def auditRuns_h : Hints := ⟨[], [], []⟩
@[reducible] noncomputable def auditRuns_e : Env := ⟨tys, [(12, anew_s.call), (16, aaddw_s.call), (22, abytes_s.call), (17, same_s.call), (8, parse_s.call)]⟩
set_option maxHeartbeats 1000000 in
set_option maxRecDepth 100000 in
theorem auditRuns_d : denF auditRuns_e auditRuns_s auditRuns_h Tryz.f11 := by
  intro _
  repeat' (first | (conv => whnf); first | done | exact True.intro | refine And.intro ?_ ?_ | refine Is.mk ?_ | (intro h; cases h; done) | (intro _))
  all_goals try dsimp only [maxLen, El.ty] at *
  all_goals try exact rec5_fit
  all_goals have a5 : addF [] noSum 0 (1, 5, 0, (0, 0, 0, 0, 0, 0, 0, 0, 0, 0, 0, 0, 0, 0, List.replicate 32 El.u8.dflt, ()), ()) = ([0, 0, 0, 10, 1, 0, 0, 0, 0, 0, 0, 0, 5, 0] ++ link5, link5, 1, true, ()) := add5
  all_goals have p5 := parse5
  all_goals have l5 := link5_len
  all_goals have z0 : UInt8.ofNat (Int.toNat 0) = 0 := rfl
  all_goals have z1 : UInt8.ofNat (Int.toNat 1) = 1 := rfl
  all_goals have z5 : UInt8.ofNat (Int.toNat 5) = 5 := rfl
  all_goals have z10 : UInt8.ofNat (Int.toNat 10) = 10 := rfl
  all_goals have nl : noSum.length = 32 := rfl
  all_goals try simp only [a5, z0, z1, z5, z10, nl, take14, List.nil_append, p5, List.length_append, l5] at *
  all_goals try omega
  all_goals try simp only [List.length_cons, List.length_nil] at *
  all_goals try omega
  all_goals try (exfalso; simp at *; done)
  all_goals try (exact decide_eq_true True.intro)
  all_goals exfalso
  all_goals try (rename (_ && _) = false => h; have h : recEq rec5 rec5 = false := h; rw [recEq_iff.2 rfl] at h; exact absurd h (by decide))
set_option maxRecDepth 100000 in
theorem auditRuns_p : (FnIs Tryz.prog 11 ∧ FnOk Tryz.prog 11 auditRuns_s) ∧ (idsOk auditRuns_s.cs && idsOk auditRuns_s.cs' && Nat.ble auditRuns_s.n auditRuns_s.n') = true :=
  fn_of (l := [(12, anew_s.call), (16, aaddw_s.call), (22, abytes_s.call), (17, same_s.call), (8, parse_s.call)]) (hi := auditRuns_h) (S := auditRuns_s) (fn := Tryz.f11) (c := Tryz.f11.body.get!) tysOk mixOk ⟨.inl anew_m, .inl aaddw_m, .inl abytes_m, .inl same_m, .inl parse_m, trivial⟩ (by kernel_rfl) (by kernel_rfl) (by kernel_rfl) (by kernel_rfl) (by kernel_rfl) auditRuns_d
theorem auditRuns_m : May Tryz.prog (11, auditRuns_s.call) := may_call auditRuns_p
theorem auditRuns_n : May Tryz.prog (11, auditRuns_s.callN) := may_callN auditRuns_p
end Go.J

set_option linter.unusedSimpArgs false
set_option linter.unusedVariables false
set_option linter.unusedSectionVars false
namespace Go.J
open Go.Proofs

@[reducible] def flink_s : Spec := { link_s with }
attribute [local irreducible] shaF
@[reducible] def flink_h : Hints := ⟨[], [], []⟩
@[reducible] noncomputable def flink_e : Env := ⟨tys, [(52, fu32_s.call), (56, fsha_s.call)]⟩
set_option maxHeartbeats 1000000 in
set_option maxRecDepth 100000 in
theorem flink_d : denF flink_e flink_s flink_h Tryz.f29 := by
  intro prev xs
  intro hpre
  dsimp only [flink_s] at hpre
  obtain ⟨hp, hx⟩ := hpre
  repeat' (first | (conv => whnf); first | done | exact True.intro | refine And.intro ?_ ?_ | refine Is.mk ?_ | (intro h; cases h; done) | (intro _))
  all_goals try dsimp only [maxLen, El.ty, El.dflt] at *
  all_goals have e4 : IntKind.u32.wrap (xs.length : Int) = (xs.length : Int) := by rw [IntKind.wrap_u32]; omega
  all_goals try simp only [take32 hp, e4, List.nil_append, List.length_append, List.length_nil, be_length, IntKind.wrap_i64, decide_eq_true_eq, decide_eq_false_iff_not] at *
  all_goals first
    | omega
    | (exfalso; omega)
    | (with_reducible rfl)
    | (unfold linkF; rfl)
    | (unfold linkF; simp only [List.append_assoc])
set_option maxRecDepth 100000 in
theorem flink_p : (FnIs Tryz.prog 29 ∧ FnOk Tryz.prog 29 flink_s) ∧ (idsOk flink_s.cs && idsOk flink_s.cs' && Nat.ble flink_s.n flink_s.n') = true :=
  fn_of (l := [(52, fu32_s.call), (56, fsha_s.call)]) (hi := flink_h) (S := flink_s) (fn := Tryz.f29) (c := Tryz.f29.body.get!) tysOk mixOk ⟨.inl fu32_m, .inl fsha_m, trivial⟩ (by kernel_rfl) (by kernel_rfl) (by kernel_rfl) (by kernel_rfl) (by kernel_rfl) flink_d
theorem flink_m : May Tryz.prog (29, flink_s.call) := may_call flink_p
theorem flink_n : May Tryz.prog (29, flink_s.callN) := may_callN flink_p
theorem right_1 {k n t : Int} {c : cmdE.ty} (hk : k = 1) (h0 : 0 < n) (h1 : n ≤ 1099511627776) (ht : t = 0) : arightF k n t c = noneC c := by
  subst hk
  subst ht
  simp only [arightF, Int.reduceEq, reduceIte, decide_eq_true h0, decide_eq_true h1, decide_true, Bool.true_and]
theorem right_2 {k n t : Int} {c : cmdE.ty} (hk : k = 2) (h0 : n = 0) (t0 : 0 ≤ t) (t1 : t ≤ 31) : arightF k n t c = rightC c := by
  subst hk
  subst h0
  simp only [arightF, Int.reduceEq, reduceIte, w1, decide_eq_true t0, decide_eq_true t1, decide_true, Bool.true_and, Bool.and_true]
theorem right_3 {k n t : Int} {c : cmdE.ty} (h1 : k ≠ 1) (h2 : k ≠ 2) (k0 : 1 ≤ k) (k1 : k ≤ 5) (h0 : n = 0) (t0 : 0 ≤ t) (t1 : t ≤ 31) : arightF k n t c = noneC c := by
  subst h0
  have hk : k = 3 ∨ k = 4 ∨ k = 5 := by omega
  rcases hk with rfl | rfl | rfl
  all_goals simp only [arightF, Int.reduceEq, reduceIte, w1, decide_eq_true t0, decide_eq_true t1, decide_true, Bool.true_and]
theorem right_more {k n t : Int} {c : cmdE.ty} (h : arightF k n t c = true) : (k = 1 → 0 < n ∧ t = 0) ∧ (k ≠ 1 → n = 0) := by
  unfold arightF at h
  rcases kinds5 k with rfl | rfl | rfl | rfl | rfl | ⟨n1, n2, n3, n4, n5⟩
  · simp only [Int.reduceEq, reduceIte, Bool.and_eq_true, decide_eq_true_eq] at h
    exact ⟨fun _ => ⟨h.1, h.2.2.1⟩, fun e => absurd rfl e⟩
  · simp only [Int.reduceEq, reduceIte, Bool.and_eq_true, decide_eq_true_eq] at h
    exact ⟨fun e => absurd e (by decide), fun _ => h.2.2⟩
  · simp only [Int.reduceEq, reduceIte, Bool.and_eq_true, decide_eq_true_eq] at h
    exact ⟨fun e => absurd e (by decide), fun _ => h.2.1⟩
  · simp only [Int.reduceEq, reduceIte, Bool.and_eq_true, decide_eq_true_eq] at h
    exact ⟨fun e => absurd e (by decide), fun _ => h.2.1⟩
  · simp only [Int.reduceEq, reduceIte, Bool.and_eq_true, decide_eq_true_eq] at h
    exact ⟨fun e => absurd e (by decide), fun _ => h.2.1⟩
  · rw [if_neg n1, if_neg n2, if_neg n3, if_neg n4, if_neg n5] at h
    cases h
@[reducible] def frightR_s : Spec := { aright_s with }
attribute [local irreducible] arightF rightC
@[reducible] def frightR_h : Hints := ⟨[], [], []⟩
@[reducible] noncomputable def frightR_e : Env := ⟨tys, [(30, fright_s.call)]⟩
set_option maxHeartbeats 1000000 in
set_option maxRecDepth 100000 in
theorem frightR_d : denF frightR_e frightR_s frightR_h Tryz.f14 := by
  intro k n t kk seq tr inst id side ord pr q sh st wh a b tag
  intro htag
  dsimp only [frightR_s] at htag
  repeat' (first | (conv => whnf); first | done | exact True.intro | refine And.intro ?_ ?_ | refine Is.mk ?_ | (intro h; cases h; done) | (intro _))
  all_goals try dsimp only [maxLen, El.ty] at *
  all_goals try (with_reducible exact htag)
  all_goals simp only [decide_eq_true_eq, decide_eq_false_iff_not, Bool.not_eq_true', Bool.not_eq_false'] at *
  all_goals try (symm; refine Bool.eq_false_iff.2 fun hr => ?_; obtain ⟨r0, r1, r2, r3, r4, r5, r6⟩ := right_facts hr; obtain ⟨s0, s1⟩ := right_more hr; omega)
  all_goals first
    | rw [right_1 (by omega) (by omega) (by omega) (by omega)]
    | rw [right_2 (by omega) (by omega) (by omega) (by omega)]
    | rw [right_3 (by omega) (by omega) (by omega) (by omega) (by omega) (by omega) (by omega)]
  all_goals try simp only [zt_eq, noneC, zs, Bool.and_true, Bool.and_assoc]
  all_goals try (unfold rightC; rfl)
  all_goals try rfl
set_option maxRecDepth 100000 in
theorem frightR_p : (FnIs Tryz.prog 14 ∧ FnOk Tryz.prog 14 frightR_s) ∧ (idsOk frightR_s.cs && idsOk frightR_s.cs' && Nat.ble frightR_s.n frightR_s.n') = true :=
  fn_of (l := [(30, fright_s.call)]) (hi := frightR_h) (S := frightR_s) (fn := Tryz.f14) (c := Tryz.f14.body.get!) tysOk mixOk ⟨.inl fright_m, trivial⟩ (by kernel_rfl) (by kernel_rfl) (by kernel_rfl) (by kernel_rfl) (by kernel_rfl) frightR_d
theorem frightR_m : May Tryz.prog (14, frightR_s.call) := may_call frightR_p
theorem frightR_n : May Tryz.prog (14, frightR_s.callN) := may_callN frightR_p
@[reducible] def fputR_s : Spec := { aput_s with }
@[reducible] def fputR_h : Hints := ⟨[(1, (tks 0 2 (tks 3 3 (.last 2 false [4, 5] (.last 6 false [] (.last 7 false [] .done)))))), (2, (tks 0 3 (tks 4 2 (.last 3 false [5] (.last 6 false [] (.last 7 false [] (.last 8 false [] .done)))))))], [], []⟩
@[reducible] noncomputable def fputR_e : Env := ⟨tys, [(39, fu8_s.call), (38, fu64_s.call), (40, fput_s.call)]⟩
set_option maxHeartbeats 1000000 in
set_option maxRecDepth 100000 in
theorem fputR_d : denF fputR_e fputR_s fputR_h Tryz.f19 := by
  intro k n t kk seq tr inst id side ord pr q sh st wh a b tag
  intro hpre
  dsimp only [fputR_s, recFit] at hpre
  obtain ⟨⟨hk0, hk1⟩, ⟨hn0, hn1⟩, ⟨ht0, ht1⟩, hc⟩ := hpre
  dsimp only [cmdFit] at hc
  obtain ⟨htag, hb⟩ := hc
  have hl := put_le kk seq tr inst id side ord pr q sh st wh a b tag htag
  repeat' (first | (conv => whnf); first | done | exact True.intro | refine And.intro ?_ ?_ | refine Is.mk ?_ | (intro h; cases h; done) | (intro _))
  all_goals try dsimp only [maxLen, El.ty] at *
  all_goals try simp only [IntKind.wrap_u64, be1_mod, List.nil_append, List.length_append, List.length_nil, be_length, maxLen]
  all_goals first
    | exact htag
    | exact Int.emod_nonneg _ (by decide)
    | exact Int.emod_lt_of_pos _ (by decide)
    | (clear hl; omega)
    | (clear hb; omega)
    | (with_reducible rfl)
    | rfl
set_option maxRecDepth 100000 in
theorem fputR_p : (FnIs Tryz.prog 19 ∧ FnOk Tryz.prog 19 fputR_s) ∧ (idsOk fputR_s.cs && idsOk fputR_s.cs' && Nat.ble fputR_s.n fputR_s.n') = true :=
  fn_of (l := [(39, fu8_s.call), (38, fu64_s.call), (40, fput_s.call)]) (hi := fputR_h) (S := fputR_s) (fn := Tryz.f19) (c := Tryz.f19.body.get!) tysOk mixOk ⟨.inl fu8_m, .inl fu64_m, .inl fput_m, trivial⟩ (by kernel_rfl) (by kernel_rfl) (by kernel_rfl) (by kernel_rfl) (by kernel_rfl) fputR_d
theorem fputR_m : May Tryz.prog (19, fputR_s.call) := may_call fputR_p
theorem fputR_n : May Tryz.prog (19, fputR_s.callN) := may_callN fputR_p
@[reducible] def fgetR_s : Spec := { aget_s with }
@[reducible] def fru64r_s : Spec := { fru64_s with post := rr 8 .u64 }
theorem fru64r_m : May Tryz.prog (49, fru64r_s.call) := may_call (weak_p (q := rr 8 .u64) fru64_p fun x y h => by
  obtain ⟨xs, at_, bad, _⟩ := x; cases h; exact ⟨rfl, rfl, rfl, rfl⟩)
@[reducible] def fgetR_h : Hints := ⟨[(10, (.take 0 false (.last 1 false [] (.take 2 false (.take 3 true (.take 4 false (tks 7 2 (.last 5 false [8] (.take 6 false (tks 9 2 .done))))))))))], [], []⟩
@[reducible] noncomputable def fgetR_e : Env := ⟨tys, [(48, fru8r_s.call), (49, fru64r_s.call), (50, fget_s.call), (14, frightR_s.call), (19, fputR_s.call)]⟩
set_option maxHeartbeats 1000000 in
set_option maxRecDepth 100000 in
theorem fgetR_d : denF fgetR_e fgetR_s fgetR_h Tryz.f21 := by
  intro xs
  intro hpre
  dsimp only [fgetR_s] at hpre
  repeat' (first | (conv => whnf); first | done | exact True.intro | refine And.intro ?_ ?_ | refine Is.mk ?_ | (intro h; cases h; done) | (intro _))
  all_goals try dsimp only [maxLen, El.ty] at *
  all_goals repeat (with_reducible cases ‹_ ∧ _›)
  all_goals try subst_vars
  all_goals try (with_reducible rename List UInt8 => xs)
  all_goals try ((with_reducible apply in_l); (repeat (first | with_reducible refine Rd.in (by assumption) ?_)); (with_reducible exact in_z _))
  all_goals try ((with_reducible apply in_r); (repeat (first | with_reducible refine Rd.in (by assumption) ?_)); (with_reducible exact in_z _))
  all_goals try (with_reducible apply List.length_replicate)
  all_goals try omega
  all_goals (with_reducible rename Rd _ 0 false 1 _ _ _ => h1)
  all_goals revert h1
  all_goals try (with_reducible rename Rd _ _ _ 8 _ _ _ => h2)
  all_goals try (with_reducible rename Rd _ _ _ 1 _ _ _ => h3)
  all_goals intro h1
  all_goals try have l1 := h1.lt1
  all_goals try have l2 := h2.lt8
  all_goals try have l3 := h3.lt1
  all_goals try omega
  all_goals try (simp only [IntKind.wrap_i64]; omega)
  all_goals (rcases rd3 h1 h2 h3 with ⟨hlen, hb, rfl, rfl, rfl, rfl⟩ | ⟨hlen, hb⟩)
  all_goals cases hb
  all_goals clear h1 h2 h3
  all_goals try (exfalso; with_reducible exact not_tt (by assumption))
  all_goals try simp only [rest10] at *
  all_goals try (rw [List.length_drop]; omega)
  all_goals clear l1 l2 l3
  all_goals try (first | exact congrArg Prod.fst (aget_no (by omega) (by assumption) (by assumption) (by assumption)).symm | exact congrArg Prod.snd (aget_no (by omega) (by assumption) (by assumption) (by assumption)).symm | exact congrArg Prod.fst (aget_nx (by assumption) (by assumption)).symm | exact congrArg Prod.snd (aget_nx (by assumption) (by assumption)).symm)
  all_goals try simp only [agetF, agetB, agetR, arightR, aputR]
  all_goals (obtain ⟨k, seq, tr, inst, id, side, ord, pr, q, sh, st, wh, a, b, tag, ok, eg, hf⟩ := get_ex (xs.drop 10))
  all_goals try simp only [eg] at *
  all_goals (dsimp only [cmdFit] at hf; obtain ⟨htag, hf⟩ := hf)
  all_goals try exact htag
  all_goals try omega
  all_goals repeat (with_reducible cases ‹_ ∧ _›)
  all_goals try assumption
  all_goals (first | (have hn : 10 ≤ xs.length := by omega) | (have hn : ¬ 10 ≤ xs.length := by omega))
  all_goals clear hlen hpre
  all_goals try (rw [show decide (10 ≤ xs.length) = false from decide_eq_false hn]; rfl)
  all_goals try (simp_all [zeroR, zeroC, noTag, El.dflt]; done)
set_option maxRecDepth 100000 in
theorem fgetR_p : (FnIs Tryz.prog 21 ∧ FnOk Tryz.prog 21 fgetR_s) ∧ (idsOk fgetR_s.cs && idsOk fgetR_s.cs' && Nat.ble fgetR_s.n fgetR_s.n') = true :=
  fn_of (l := [(48, fru8r_s.call), (49, fru64r_s.call), (50, fget_s.call), (14, frightR_s.call), (19, fputR_s.call)]) (hi := fgetR_h) (S := fgetR_s) (fn := Tryz.f21) (c := Tryz.f21.body.get!) tysOk mixOk ⟨.inl fru8r_m, .inl fru64r_m, .inl fget_m, .inl frightR_m, .inl fputR_m, trivial⟩ (by kernel_rfl) (by kernel_rfl) (by kernel_rfl) (by kernel_rfl) (by kernel_rfl) fgetR_d
theorem fgetR_m : May Tryz.prog (21, fgetR_s.call) := may_call fgetR_p
theorem fgetR_n : May Tryz.prog (21, fgetR_s.callN) := may_callN fgetR_p
end Go.J

