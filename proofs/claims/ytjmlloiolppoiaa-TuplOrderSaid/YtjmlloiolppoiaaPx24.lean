/- Functions of the given program as plain Lean functions, and their contracts: written by a program of the prover. -/
import Derived.Test.YtjmlloiolppoiaaPx0
import Derived.Test.YtjmlloiolppoiaaPx1
import Derived.Test.YtjmlloiolppoiaaPx14
import Derived.Test.YtjmlloiolppoiaaPx15
import Derived.Test.YtjmlloiolppoiaaPx21
namespace Go.Proofs.Ytjmlloiolppoiaa.P
open Go.RowKit Go.Proofs.YtjmlloiolppoiaaW.PrintWords Go.Proofs.YtjmlloiolppoiaaW.PrintLast Go.Proofs.YtjmlloiolppoiaaW.PrintMore
attribute [local go_sem] max2_int min2_int max_two min_two max_three min_three max_four min_four   -- for this text's walks alone
set_option linter.unusedVariables false
set_option linter.unusedSimpArgs false

attribute [local go_sem high] eqA29
/-! ### entaillaw2_TuplOrder: function 7 -/
mutual
def entaillaw2_TuplOrder.l0 : Nat → Int → Int → Int → Int → ByteArray → ByteArray → ByteArray → ByteArray → ByteArray → ByteArray → ByteArray → ByteArray → ByteArray → ByteArray → ByteArray → ByteArray → ByteArray → ByteArray → ByteArray → ByteArray → ByteArray → ByteArray → Option (Bool)
  | 0, _, _, _, _, _, _, _, _, _, _, _, _, _, _, _, _, _, _, _, _, _, _ => none
  | k + 1, x3, x4, x5, x13, x409000, x409001, x409002, x409003, x409004, x409005, x410000, x410001, x410002, x410003, x410004, x410005, x411000, x411001, x411002, x411003, x411004, x411005 => if x13 < 2 then ((tupl_Less.f k x409000 x409001 x409002 x409003 x409004 x409005 x410000 x410001 x410002 x410003 x410004 x410005).bind fun t412 => ((tupl_Less.f k x410000 x410001 x410002 x410003 x410004 x410005 x411000 x411001 x411002 x411003 x411004 x411005).bind fun t413 => ((tupl_Less.f k x409000 x409001 x409002 x409003 x409004 x409005 x411000 x411001 x411002 x411003 x411004 x411005).bind fun t414 => (if t412 = true then (if t413 = true then (if t414 = true then ((tupl_Less.f k x409000 x409001 x409002 x409003 x409004 x409005 x409000 x409001 x409002 x409003 x409004 x409005).bind fun t415 => (if t415 = true then (entaillaw2_TuplOrder.j1 k x3 x4 x5 x13 true) else ((tupl_Less.f k x410000 x410001 x410002 x410003 x410004 x410005 x409000 x409001 x409002 x409003 x409004 x409005).bind fun t416 => (if t416 = true then (entaillaw2_TuplOrder.j1 k x3 x4 x5 x13 true) else (if ((!(x409000.toList == x410000.toList) || (!(x409001.toList == x410001.toList))) || (!(x409002.toList == x410002.toList) || ((!(x409003.toList == x410003.toList) || (!(x409004.toList == x410004.toList) || (!(x409005.toList == x410005.toList))))))) = true then (entaillaw2_TuplOrder.j1 k x3 x4 x5 x13 false) else (entaillaw2_TuplOrder.j1 k x3 x4 x5 x13 false)))))) else (entaillaw2_TuplOrder.j1 k x3 x4 x5 x13 true)) else ((tupl_Less.f k x409000 x409001 x409002 x409003 x409004 x409005 x409000 x409001 x409002 x409003 x409004 x409005).bind fun t417 => (if t417 = true then (entaillaw2_TuplOrder.j1 k x3 x4 x5 x13 true) else ((tupl_Less.f k x410000 x410001 x410002 x410003 x410004 x410005 x409000 x409001 x409002 x409003 x409004 x409005).bind fun t418 => (if t418 = true then (entaillaw2_TuplOrder.j1 k x3 x4 x5 x13 true) else (if ((!(x409000.toList == x410000.toList) || (!(x409001.toList == x410001.toList))) || (!(x409002.toList == x410002.toList) || ((!(x409003.toList == x410003.toList) || (!(x409004.toList == x410004.toList) || (!(x409005.toList == x410005.toList))))))) = true then (entaillaw2_TuplOrder.j1 k x3 x4 x5 x13 false) else (entaillaw2_TuplOrder.j1 k x3 x4 x5 x13 false))))))) else ((tupl_Less.f k x409000 x409001 x409002 x409003 x409004 x409005 x409000 x409001 x409002 x409003 x409004 x409005).bind fun t419 => (if t419 = true then (entaillaw2_TuplOrder.j1 k x3 x4 x5 x13 true) else (if ((!(x409000.toList == x410000.toList) || (!(x409001.toList == x410001.toList))) || (!(x409002.toList == x410002.toList) || ((!(x409003.toList == x410003.toList) || (!(x409004.toList == x410004.toList) || (!(x409005.toList == x410005.toList))))))) = true then ((tupl_Less.f k x410000 x410001 x410002 x410003 x410004 x410005 x409000 x409001 x409002 x409003 x409004 x409005).bind fun t420 => (entaillaw2_TuplOrder.j1 k x3 x4 x5 x13 (!t420))) else (entaillaw2_TuplOrder.j1 k x3 x4 x5 x13 false)))))))) else ((entaillaw2_awake.f k).bind fun t411 => (some t411))
def entaillaw2_TuplOrder.j1 : Nat → Int → Int → Int → Int → Bool → Option (Bool)
  | 0, _, _, _, _, _ => none
  | k + 1, x3, x4, x5, x13, x65 => if x65 = true then (none) else ((entaillaw2_Tame.f x3).bind fun bt421 => ((entaillaw2_Tame.f x4).bind fun bt427 => ((entaillaw2_Tame.f x5).bind fun bt433 => (entaillaw2_TuplOrder.l0 k x3 x4 x5 (wrap64 (x13 + 1)) bt421.1 bt421.2.1 bt421.2.2.1 bt421.2.2.2.1 bt421.2.2.2.2.1 bt421.2.2.2.2.2 bt427.1 bt427.2.1 bt427.2.2.1 bt427.2.2.2.1 bt427.2.2.2.2.1 bt427.2.2.2.2.2 bt433.1 bt433.2.1 bt433.2.2.1 bt433.2.2.2.1 bt433.2.2.2.2.1 bt433.2.2.2.2.2))))
end
def entaillaw2_TuplOrder.f (k : Nat) (a0_0 : ByteArray) (a0_1 : ByteArray) (a0_2 : ByteArray) (a0_3 : ByteArray) (a0_4 : ByteArray) (a0_5 : ByteArray) (a1_0 : ByteArray) (a1_1 : ByteArray) (a1_2 : ByteArray) (a1_3 : ByteArray) (a1_4 : ByteArray) (a1_5 : ByteArray) (a2_0 : ByteArray) (a2_1 : ByteArray) (a2_2 : ByteArray) (a2_3 : ByteArray) (a2_4 : ByteArray) (a2_5 : ByteArray) (a3 : Int) (a4 : Int) (a5 : Int) : Option (Bool) := entaillaw2_TuplOrder.l0 k a3 a4 a5 0 a0_0 a0_1 a0_2 a0_3 a0_4 a0_5 a1_0 a1_1 a1_2 a1_3 a1_4 a1_5 a2_0 a2_1 a2_2 a2_3 a2_4 a2_5
theorem entaillaw2_TuplOrder.mono_l : ∀ k, (∀ y0 y1 y2 y3 y4 y5 y6 y7 y8 y9 y10 y11 y12 y13 y14 y15 y16 y17 y18 y19 y20 y21, LeO (entaillaw2_TuplOrder.l0 k y0 y1 y2 y3 y4 y5 y6 y7 y8 y9 y10 y11 y12 y13 y14 y15 y16 y17 y18 y19 y20 y21) (entaillaw2_TuplOrder.l0 (k + 1) y0 y1 y2 y3 y4 y5 y6 y7 y8 y9 y10 y11 y12 y13 y14 y15 y16 y17 y18 y19 y20 y21)) ∧ (∀ y0 y1 y2 y3 y4, LeO (entaillaw2_TuplOrder.j1 k y0 y1 y2 y3 y4) (entaillaw2_TuplOrder.j1 (k + 1) y0 y1 y2 y3 y4))
  | 0 => ⟨fun _ _ _ _ _ _ _ _ _ _ _ _ _ _ _ _ _ _ _ _ _ _ r h => by simp [entaillaw2_TuplOrder.l0] at h, fun _ _ _ _ _ r h => by simp [entaillaw2_TuplOrder.j1] at h⟩
  | k + 1 => by
    obtain ⟨ih0, ih1⟩ := entaillaw2_TuplOrder.mono_l k
    refine ⟨?_, ?_⟩
    · intro y0 y1 y2 y3 y4 y5 y6 y7 y8 y9 y10 y11 y12 y13 y14 y15 y16 y17 y18 y19 y20 y21
      unfold entaillaw2_TuplOrder.l0
      repeat' first
      | (with_reducible exact ih0 _ _ _ _ _ _ _ _ _ _ _ _ _ _ _ _ _ _ _ _ _ _)
      | (with_reducible exact ih1 _ _ _ _ _)
      | (with_reducible exact entaillaw2_awake.mono _)
      | (with_reducible exact tupl_Less.mono _ _ _ _ _ _ _ _ _ _ _ _ _)
      | (with_reducible exact LeO.refl _)
      | (with_reducible exact LeO.none _)
      | (with_reducible refine LeO.ite ?_ ?_)
      | (with_reducible refine LeO.bind ?_ (fun _ => ?_))
      | exact ih0 _ _ _ _ _ _ _ _ _ _ _ _ _ _ _ _ _ _ _ _ _ _
      | exact ih1 _ _ _ _ _
      | exact entaillaw2_awake.mono _
      | exact tupl_Less.mono _ _ _ _ _ _ _ _ _ _ _ _ _
      | exact LeO.none _
      | refine LeO.ite ?_ ?_
      | refine LeO.bind ?_ (fun _ => ?_)
    · intro y0 y1 y2 y3 y4
      unfold entaillaw2_TuplOrder.j1
      repeat' first
      | (with_reducible exact ih0 _ _ _ _ _ _ _ _ _ _ _ _ _ _ _ _ _ _ _ _ _ _)
      | (with_reducible exact ih1 _ _ _ _ _)
      | (with_reducible exact entaillaw2_awake.mono _)
      | (with_reducible exact tupl_Less.mono _ _ _ _ _ _ _ _ _ _ _ _ _)
      | (with_reducible exact LeO.refl _)
      | (with_reducible exact LeO.none _)
      | (with_reducible refine LeO.ite ?_ ?_)
      | (with_reducible refine LeO.bind ?_ (fun _ => ?_))
      | exact ih0 _ _ _ _ _ _ _ _ _ _ _ _ _ _ _ _ _ _ _ _ _ _
      | exact ih1 _ _ _ _ _
      | exact entaillaw2_awake.mono _
      | exact tupl_Less.mono _ _ _ _ _ _ _ _ _ _ _ _ _
      | exact LeO.none _
      | refine LeO.ite ?_ ?_
      | refine LeO.bind ?_ (fun _ => ?_)
theorem entaillaw2_TuplOrder.mono : ∀ a0 a1 a2 a3 a4 a5 a6 a7 a8 a9 a10 a11 a12 a13 a14 a15 a16 a17 a18 a19 a20 k, LeO (entaillaw2_TuplOrder.f k a0 a1 a2 a3 a4 a5 a6 a7 a8 a9 a10 a11 a12 a13 a14 a15 a16 a17 a18 a19 a20) (entaillaw2_TuplOrder.f (k + 1) a0 a1 a2 a3 a4 a5 a6 a7 a8 a9 a10 a11 a12 a13 a14 a15 a16 a17 a18 a19 a20) := by
  intro a0 a1 a2 a3 a4 a5 a6 a7 a8 a9 a10 a11 a12 a13 a14 a15 a16 a17 a18 a19 a20 k
  obtain ⟨ih0, ih1⟩ := entaillaw2_TuplOrder.mono_l k
  unfold entaillaw2_TuplOrder.f
  repeat' first
      | (with_reducible exact ih0 _ _ _ _ _ _ _ _ _ _ _ _ _ _ _ _ _ _ _ _ _ _)
      | (with_reducible exact ih1 _ _ _ _ _)
      | (with_reducible exact entaillaw2_awake.mono _)
      | (with_reducible exact tupl_Less.mono _ _ _ _ _ _ _ _ _ _ _ _ _)
      | (with_reducible exact LeO.refl _)
      | (with_reducible exact LeO.none _)
      | (with_reducible refine LeO.ite ?_ ?_)
      | (with_reducible refine LeO.bind ?_ (fun _ => ?_))
      | exact ih0 _ _ _ _ _ _ _ _ _ _ _ _ _ _ _ _ _ _ _ _ _ _
      | exact ih1 _ _ _ _ _
      | exact entaillaw2_awake.mono _
      | exact tupl_Less.mono _ _ _ _ _ _ _ _ _ _ _ _ _
      | exact LeO.none _
      | refine LeO.ite ?_ ?_
      | refine LeO.bind ?_ (fun _ => ?_)
def entaillaw2_TuplOrder.T4 : Bool × List (List Nat × List Nat) := (true, [([], []), ([], []), ([0, 1], [0, 1]), ([], []), ([], []), ([3, 4, 2], [3, 4]), ([], []), ([], []), ([6, 7, 5], [6, 7]), ([2, 8, 0, 1, 2], [2]), ([5, 9, 0, 1, 2, 3, 4, 5, 9], [5]), ([8, 10, 0, 1, 2, 3, 4, 5, 6, 7, 8, 9, 10], [8])])
def entaillaw2_TuplOrder.B4 : List Nat := [0, 0, 3, 0, 0, 31, 0, 0, 255, 511, 1023, 2047]
theorem entaillaw2_TuplOrder.tab4 : rtab .any (opsOf Try.f7 4) = entaillaw2_TuplOrder.T4 := by kernel_rfl
theorem entaillaw2_TuplOrder.bits4 : waitsOk entaillaw2_TuplOrder.T4.2 entaillaw2_TuplOrder.B4 = true := by kernel_rfl
set_option maxHeartbeats 8000000 in
set_option maxRecDepth 100000 in
theorem entaillaw2_TuplOrder.calls (k : Nat) (a0_0 : ByteArray) (a0_1 : ByteArray) (a0_2 : ByteArray) (a0_3 : ByteArray) (a0_4 : ByteArray) (a0_5 : ByteArray) (a1_0 : ByteArray) (a1_1 : ByteArray) (a1_2 : ByteArray) (a1_3 : ByteArray) (a1_4 : ByteArray) (a1_5 : ByteArray) (a2_0 : ByteArray) (a2_1 : ByteArray) (a2_2 : ByteArray) (a2_3 : ByteArray) (a2_4 : ByteArray) (a2_5 : ByteArray) (a3 : Int) (a4 : Int) (a5 : Int) (r : Bool) (w : World) (h : entaillaw2_TuplOrder.f k a0_0 a0_1 a0_2 a0_3 a0_4 a0_5 a1_0 a1_1 a1_2 a1_3 a1_4 a1_5 a2_0 a2_1 a2_2 a2_3 a2_4 a2_5 a3 a4 a5 = some r) :
    Calls Try.prog 7 #[.agg #[.string a0_0, .string a0_1, .string a0_2, .string a0_3, .string a0_4, .string a0_5], .agg #[.string a1_0, .string a1_1, .string a1_2, .string a1_3, .string a1_4, .string a1_5], .agg #[.string a2_0, .string a2_1, .string a2_2, .string a2_3, .string a2_4, .string a2_5], .int .i64 a3, .int .i64 a4, .int .i64 a5] w fun e w' => e = .returned (.bool r) ∧ Below w.heap.size w w' := by
  have hu29 := Try.underlying29
  have HB := Aside0.mk (Below.refl w.heap.size w)
  have H : (entaillaw2_TuplOrder.l0 k a3 a4 a5 0 a0_0 a0_1 a0_2 a0_3 a0_4 a0_5 a1_0 a1_1 a1_2 a1_3 a1_4 a1_5 a2_0 a2_1 a2_2 a2_3 a2_4 a2_5) = some r := h
  clear h
  have H' := Aside0.mk H
  clear H
  go_enter Try.func7, Try.ntmps7
  go_wp2_with (first | ((with_reducible refine gate_dst (N := 6) rfl ?_); refine box_event ?hg (N := 6) ?hd (cs := #[.string a0_0, .string a0_1, .string a0_2, .string a0_3, .string a0_4, .string a0_5]) (t := 29) ?hr ?_; (case hd => rfl); (case hg => rfl); (case hr => first | (go_simp; done) | (go_simp; rfl)); intro gb408 hg w7 hbox hb; have n0_ := Aside0.mk (below_step (by repeat (first | (with_reducible first | exact HB.out | apply below_alloc | apply pw_below_drewN | apply below_drew1) | exact HB.out)) hb); have n1_ := Aside0.mk (hbox); have n2_ := Aside0.mk ((by rw [hg]; exact (below_size (by repeat (first | (with_reducible first | exact HB.out | apply below_alloc | apply pw_below_drewN | apply below_drew1) | exact HB.out))) : w.heap.size ≤ gb408)); have n3_ := Aside0.mk ((by rw [hg]; exact (below_size (by repeat (first | (with_reducible first | exact HB.out | apply below_alloc | apply pw_below_drewN | apply below_drew1) | exact HB.out))) : w.heap.size ≤ gb408)); clear HB; have HB := n0_; have BK408 := n1_; have GW408 := n2_; have GE408 := n3_; clear n0_ n1_ n2_ n3_; clear hb hbox hg) | ((with_reducible refine gate_dst (N := 7) rfl ?_); refine box_event ?hg (N := 7) ?hd (cs := #[.string a1_0, .string a1_1, .string a1_2, .string a1_3, .string a1_4, .string a1_5]) (t := 29) ?hr ?_; (case hd => rfl); (case hg => rfl); (case hr => first | (go_simp; done) | (go_simp; rfl)); intro gb409 hg w8 hbox hb; have n0_ := Aside0.mk (blk_below (g := gb408) (o := .cells #[.string a0_0, .string a0_1, .string a0_2, .string a0_3, .string a0_4, .string a0_5] 29 (0, 0)) (by (with_reducible repeat (first | refine blk_drewN ?_ _ | refine blk_drew ?_ | refine blk_alloc ?_ _)); exact BK408.out) hb); have n1_ := Aside0.mk (below_step (by repeat (first | (with_reducible first | exact HB.out | apply below_alloc | apply pw_below_drewN | apply below_drew1 | refine below_set ?_ GE408.out) | exact HB.out)) hb); have n2_ := Aside0.mk (hbox); have n3_ := Aside0.mk ((by rw [hg]; exact (below_size (by repeat (first | (with_reducible first | exact HB.out | apply below_alloc | apply pw_below_drewN | apply below_drew1 | refine below_set ?_ GE408.out) | exact HB.out))) : w.heap.size ≤ gb409)); have n4_ := Aside0.mk ((by rw [hg]; exact (below_size (by repeat (first | (with_reducible first | exact HB.out | apply below_alloc | apply pw_below_drewN | apply below_drew1 | refine below_set ?_ GE408.out) | exact HB.out))) : w.heap.size ≤ gb409)); have n5_ := Aside0.mk ((by rw [hg]; exact Nat.ne_of_lt (blk_lt (g := gb408) (o := .cells #[.string a0_0, .string a0_1, .string a0_2, .string a0_3, .string a0_4, .string a0_5] 29 (0, 0)) (by (with_reducible repeat (first | refine blk_drewN ?_ _ | refine blk_drew ?_ | refine blk_alloc ?_ _)); exact BK408.out)) : gb408 ≠ gb409)); have n6_ := Aside0.mk ((by rw [hg]; exact Nat.ne_of_gt (blk_lt (g := gb408) (o := .cells #[.string a0_0, .string a0_1, .string a0_2, .string a0_3, .string a0_4, .string a0_5] 29 (0, 0)) (by (with_reducible repeat (first | refine blk_drewN ?_ _ | refine blk_drew ?_ | refine blk_alloc ?_ _)); exact BK408.out)) : gb409 ≠ gb408)); clear BK408; clear HB; have BK408 := n0_; have HB := n1_; have BK409 := n2_; have GW409 := n3_; have GE409 := n4_; have NB408_409 := n5_; have NB409_408 := n6_; clear n0_ n1_ n2_ n3_ n4_ n5_ n6_; clear hb hbox hg) | ((with_reducible refine gate_dst (N := 8) rfl ?_); refine box_event ?hg (N := 8) ?hd (cs := #[.string a2_0, .string a2_1, .string a2_2, .string a2_3, .string a2_4, .string a2_5]) (t := 29) ?hr ?_; (case hd => rfl); (case hg => rfl); (case hr => first | (go_simp; done) | (go_simp; rfl)); intro gb410 hg w9 hbox hb; have n0_ := Aside0.mk (blk_below (g := gb408) (o := .cells #[.string a0_0, .string a0_1, .string a0_2, .string a0_3, .string a0_4, .string a0_5] 29 (0, 0)) (by (with_reducible repeat (first | refine blk_drewN ?_ _ | refine blk_drew ?_ | refine blk_alloc ?_ _)); exact BK408.out) hb); have n1_ := Aside0.mk (blk_below (g := gb409) (o := .cells #[.string a1_0, .string a1_1, .string a1_2, .string a1_3, .string a1_4, .string a1_5] 29 (0, 0)) (by (with_reducible repeat (first | refine blk_drewN ?_ _ | refine blk_drew ?_ | refine blk_alloc ?_ _)); exact BK409.out) hb); have n2_ := Aside0.mk (below_step (by repeat (first | (with_reducible first | exact HB.out | apply below_alloc | apply pw_below_drewN | apply below_drew1 | refine below_set ?_ GE408.out | refine below_set ?_ GE409.out) | exact HB.out)) hb); have n3_ := Aside0.mk (hbox); have n4_ := Aside0.mk ((by rw [hg]; exact (below_size (by repeat (first | (with_reducible first | exact HB.out | apply below_alloc | apply pw_below_drewN | apply below_drew1 | refine below_set ?_ GE408.out | refine below_set ?_ GE409.out) | exact HB.out))) : w.heap.size ≤ gb410)); have n5_ := Aside0.mk ((by rw [hg]; exact (below_size (by repeat (first | (with_reducible first | exact HB.out | apply below_alloc | apply pw_below_drewN | apply below_drew1 | refine below_set ?_ GE408.out | refine below_set ?_ GE409.out) | exact HB.out))) : w.heap.size ≤ gb410)); have n6_ := Aside0.mk ((by rw [hg]; exact Nat.ne_of_lt (blk_lt (g := gb408) (o := .cells #[.string a0_0, .string a0_1, .string a0_2, .string a0_3, .string a0_4, .string a0_5] 29 (0, 0)) (by (with_reducible repeat (first | refine blk_drewN ?_ _ | refine blk_drew ?_ | refine blk_alloc ?_ _)); exact BK408.out)) : gb408 ≠ gb410)); have n7_ := Aside0.mk ((by rw [hg]; exact Nat.ne_of_gt (blk_lt (g := gb408) (o := .cells #[.string a0_0, .string a0_1, .string a0_2, .string a0_3, .string a0_4, .string a0_5] 29 (0, 0)) (by (with_reducible repeat (first | refine blk_drewN ?_ _ | refine blk_drew ?_ | refine blk_alloc ?_ _)); exact BK408.out)) : gb410 ≠ gb408)); have n8_ := Aside0.mk ((by rw [hg]; exact Nat.ne_of_lt (blk_lt (g := gb409) (o := .cells #[.string a1_0, .string a1_1, .string a1_2, .string a1_3, .string a1_4, .string a1_5] 29 (0, 0)) (by (with_reducible repeat (first | refine blk_drewN ?_ _ | refine blk_drew ?_ | refine blk_alloc ?_ _)); exact BK409.out)) : gb409 ≠ gb410)); have n9_ := Aside0.mk ((by rw [hg]; exact Nat.ne_of_gt (blk_lt (g := gb409) (o := .cells #[.string a1_0, .string a1_1, .string a1_2, .string a1_3, .string a1_4, .string a1_5] 29 (0, 0)) (by (with_reducible repeat (first | refine blk_drewN ?_ _ | refine blk_drew ?_ | refine blk_alloc ?_ _)); exact BK409.out)) : gb410 ≠ gb409)); clear BK408; clear BK409; clear HB; have BK408 := n0_; have BK409 := n1_; have HB := n2_; have BK410 := n3_; have GW410 := n4_; have GE410 := n5_; have NB408_410 := n6_; have NB410_408 := n7_; have NB409_410 := n8_; have NB410_409 := n9_; clear n0_ n1_ n2_ n3_ n4_ n5_ n6_ n7_ n8_ n9_; clear hb hbox hg))
  go_loopg [13] k (fun kq v13 w' => ∃ (x13_1 : Int) (x409000_1 : ByteArray) (x409001_1 : ByteArray) (x409002_1 : ByteArray) (x409003_1 : ByteArray) (x409004_1 : ByteArray) (x409005_1 : ByteArray) (x410000_1 : ByteArray) (x410001_1 : ByteArray) (x410002_1 : ByteArray) (x410003_1 : ByteArray) (x410004_1 : ByteArray) (x410005_1 : ByteArray) (x411000_1 : ByteArray) (x411001_1 : ByteArray) (x411002_1 : ByteArray) (x411003_1 : ByteArray) (x411004_1 : ByteArray) (x411005_1 : ByteArray), v13 = .int .i64 x13_1 ∧ Aside0 (entaillaw2_TuplOrder.l0 kq a3 a4 a5 x13_1 x409000_1 x409001_1 x409002_1 x409003_1 x409004_1 x409005_1 x410000_1 x410001_1 x410002_1 x410003_1 x410004_1 x410005_1 x411000_1 x411001_1 x411002_1 x411003_1 x411004_1 x411005_1 = some r) ∧ Aside0 (kq ≤ k) ∧ Aside0 (w'.heap[gb408]? = some (.cells #[.string x409000_1, .string x409001_1, .string x409002_1, .string x409003_1, .string x409004_1, .string x409005_1] 29 (0, 0))) ∧ Aside0 (w'.heap[gb409]? = some (.cells #[.string x410000_1, .string x410001_1, .string x410002_1, .string x410003_1, .string x410004_1, .string x410005_1] 29 (0, 0))) ∧ Aside0 (w'.heap[gb410]? = some (.cells #[.string x411000_1, .string x411001_1, .string x411002_1, .string x411003_1, .string x411004_1, .string x411005_1] 29 (0, 0))) ∧ Aside0 (Below w.heap.size w w'))
  case atStart => exact ⟨(0), (a0_0), (a0_1), (a0_2), (a0_3), (a0_4), (a0_5), (a1_0), (a1_1), (a1_2), (a1_3), (a1_4), (a1_5), (a2_0), (a2_1), (a2_2), (a2_3), (a2_4), (a2_5), (by first | rfl | (simp; done) | (simp [*]; done)), H', ⟨Nat.le_refl _⟩, ⟨by (with_reducible repeat (first | refine blk_drewN ?_ _ | refine blk_drew ?_ | refine blk_alloc ?_ _)); exact BK408.out⟩, ⟨by (with_reducible repeat (first | refine blk_drewN ?_ _ | refine blk_drew ?_ | refine blk_alloc ?_ _)); exact BK409.out⟩, ⟨by (with_reducible repeat (first | refine blk_drewN ?_ _ | refine blk_drew ?_ | refine blk_alloc ?_ _)); exact BK410.out⟩, ⟨by repeat (first | (with_reducible first | exact HB.out | apply below_alloc | apply pw_below_drewN | apply below_drew1 | refine below_set ?_ GE408.out | refine below_set ?_ GE409.out | refine below_set ?_ GE410.out) | exact HB.out)⟩⟩
  case round =>
    clear H'
    try clear p2
    try clear c7
    obtain ⟨x13_1, x409000_1, x409001_1, x409002_1, x409003_1, x409004_1, x409005_1, x410000_1, x410001_1, x410002_1, x410003_1, x410004_1, x410005_1, x411000_1, x411001_1, x411002_1, x411003_1, x411004_1, x411005_1, rfl, HA, HK1, BK408, BK409, BK410, HB⟩ := hrel
    cases gk with
    | zero => exact absurd HA.out (by simp [entaillaw2_TuplOrder.l0])
    | succ k1 =>
      have H := HA.out
      clear HA
      simp only [entaillaw2_TuplOrder.l0] at H
      by_cases c10 : x13_1 < 2
      · rw [if_pos c10] at H
        have c10b0 : decide (x13_1 < 2) = true := decide_eq_true c10
        clear c10
        replace H := Option.bind_eq_some_iff.mp H
        obtain ⟨t412, A110, H⟩ := H
        replace H : ((tupl_Less.f k1 x410000_1 x410001_1 x410002_1 x410003_1 x410004_1 x410005_1 x411000_1 x411001_1 x411002_1 x411003_1 x411004_1 x411005_1).bind fun t413 => ((tupl_Less.f k1 x409000_1 x409001_1 x409002_1 x409003_1 x409004_1 x409005_1 x411000_1 x411001_1 x411002_1 x411003_1 x411004_1 x411005_1).bind fun t414 => (if t412 = true then (if t413 = true then (if t414 = true then ((tupl_Less.f k1 x409000_1 x409001_1 x409002_1 x409003_1 x409004_1 x409005_1 x409000_1 x409001_1 x409002_1 x409003_1 x409004_1 x409005_1).bind fun t415 => (if t415 = true then (entaillaw2_TuplOrder.j1 k1 a3 a4 a5 x13_1 true) else ((tupl_Less.f k1 x410000_1 x410001_1 x410002_1 x410003_1 x410004_1 x410005_1 x409000_1 x409001_1 x409002_1 x409003_1 x409004_1 x409005_1).bind fun t416 => (if t416 = true then (entaillaw2_TuplOrder.j1 k1 a3 a4 a5 x13_1 true) else (if ((!(x409000_1.toList == x410000_1.toList) || (!(x409001_1.toList == x410001_1.toList))) || (!(x409002_1.toList == x410002_1.toList) || ((!(x409003_1.toList == x410003_1.toList) || (!(x409004_1.toList == x410004_1.toList) || (!(x409005_1.toList == x410005_1.toList))))))) = true then (entaillaw2_TuplOrder.j1 k1 a3 a4 a5 x13_1 false) else (entaillaw2_TuplOrder.j1 k1 a3 a4 a5 x13_1 false)))))) else (entaillaw2_TuplOrder.j1 k1 a3 a4 a5 x13_1 true)) else ((tupl_Less.f k1 x409000_1 x409001_1 x409002_1 x409003_1 x409004_1 x409005_1 x409000_1 x409001_1 x409002_1 x409003_1 x409004_1 x409005_1).bind fun t417 => (if t417 = true then (entaillaw2_TuplOrder.j1 k1 a3 a4 a5 x13_1 true) else ((tupl_Less.f k1 x410000_1 x410001_1 x410002_1 x410003_1 x410004_1 x410005_1 x409000_1 x409001_1 x409002_1 x409003_1 x409004_1 x409005_1).bind fun t418 => (if t418 = true then (entaillaw2_TuplOrder.j1 k1 a3 a4 a5 x13_1 true) else (if ((!(x409000_1.toList == x410000_1.toList) || (!(x409001_1.toList == x410001_1.toList))) || (!(x409002_1.toList == x410002_1.toList) || ((!(x409003_1.toList == x410003_1.toList) || (!(x409004_1.toList == x410004_1.toList) || (!(x409005_1.toList == x410005_1.toList))))))) = true then (entaillaw2_TuplOrder.j1 k1 a3 a4 a5 x13_1 false) else (entaillaw2_TuplOrder.j1 k1 a3 a4 a5 x13_1 false))))))) else ((tupl_Less.f k1 x409000_1 x409001_1 x409002_1 x409003_1 x409004_1 x409005_1 x409000_1 x409001_1 x409002_1 x409003_1 x409004_1 x409005_1).bind fun t419 => (if t419 = true then (entaillaw2_TuplOrder.j1 k1 a3 a4 a5 x13_1 true) else (if ((!(x409000_1.toList == x410000_1.toList) || (!(x409001_1.toList == x410001_1.toList))) || (!(x409002_1.toList == x410002_1.toList) || ((!(x409003_1.toList == x410003_1.toList) || (!(x409004_1.toList == x410004_1.toList) || (!(x409005_1.toList == x410005_1.toList))))))) = true then ((tupl_Less.f k1 x410000_1 x410001_1 x410002_1 x410003_1 x410004_1 x410005_1 x409000_1 x409001_1 x409002_1 x409003_1 x409004_1 x409005_1).bind fun t420 => (entaillaw2_TuplOrder.j1 k1 a3 a4 a5 x13_1 (!t420))) else (entaillaw2_TuplOrder.j1 k1 a3 a4 a5 x13_1 false))))))) = some r := H
        have A11 := Aside0.mk A110
        clear A110
        replace H := Option.bind_eq_some_iff.mp H
        obtain ⟨t413, A120, H⟩ := H
        replace H : ((tupl_Less.f k1 x409000_1 x409001_1 x409002_1 x409003_1 x409004_1 x409005_1 x411000_1 x411001_1 x411002_1 x411003_1 x411004_1 x411005_1).bind fun t414 => (if t412 = true then (if t413 = true then (if t414 = true then ((tupl_Less.f k1 x409000_1 x409001_1 x409002_1 x409003_1 x409004_1 x409005_1 x409000_1 x409001_1 x409002_1 x409003_1 x409004_1 x409005_1).bind fun t415 => (if t415 = true then (entaillaw2_TuplOrder.j1 k1 a3 a4 a5 x13_1 true) else ((tupl_Less.f k1 x410000_1 x410001_1 x410002_1 x410003_1 x410004_1 x410005_1 x409000_1 x409001_1 x409002_1 x409003_1 x409004_1 x409005_1).bind fun t416 => (if t416 = true then (entaillaw2_TuplOrder.j1 k1 a3 a4 a5 x13_1 true) else (if ((!(x409000_1.toList == x410000_1.toList) || (!(x409001_1.toList == x410001_1.toList))) || (!(x409002_1.toList == x410002_1.toList) || ((!(x409003_1.toList == x410003_1.toList) || (!(x409004_1.toList == x410004_1.toList) || (!(x409005_1.toList == x410005_1.toList))))))) = true then (entaillaw2_TuplOrder.j1 k1 a3 a4 a5 x13_1 false) else (entaillaw2_TuplOrder.j1 k1 a3 a4 a5 x13_1 false)))))) else (entaillaw2_TuplOrder.j1 k1 a3 a4 a5 x13_1 true)) else ((tupl_Less.f k1 x409000_1 x409001_1 x409002_1 x409003_1 x409004_1 x409005_1 x409000_1 x409001_1 x409002_1 x409003_1 x409004_1 x409005_1).bind fun t417 => (if t417 = true then (entaillaw2_TuplOrder.j1 k1 a3 a4 a5 x13_1 true) else ((tupl_Less.f k1 x410000_1 x410001_1 x410002_1 x410003_1 x410004_1 x410005_1 x409000_1 x409001_1 x409002_1 x409003_1 x409004_1 x409005_1).bind fun t418 => (if t418 = true then (entaillaw2_TuplOrder.j1 k1 a3 a4 a5 x13_1 true) else (if ((!(x409000_1.toList == x410000_1.toList) || (!(x409001_1.toList == x410001_1.toList))) || (!(x409002_1.toList == x410002_1.toList) || ((!(x409003_1.toList == x410003_1.toList) || (!(x409004_1.toList == x410004_1.toList) || (!(x409005_1.toList == x410005_1.toList))))))) = true then (entaillaw2_TuplOrder.j1 k1 a3 a4 a5 x13_1 false) else (entaillaw2_TuplOrder.j1 k1 a3 a4 a5 x13_1 false))))))) else ((tupl_Less.f k1 x409000_1 x409001_1 x409002_1 x409003_1 x409004_1 x409005_1 x409000_1 x409001_1 x409002_1 x409003_1 x409004_1 x409005_1).bind fun t419 => (if t419 = true then (entaillaw2_TuplOrder.j1 k1 a3 a4 a5 x13_1 true) else (if ((!(x409000_1.toList == x410000_1.toList) || (!(x409001_1.toList == x410001_1.toList))) || (!(x409002_1.toList == x410002_1.toList) || ((!(x409003_1.toList == x410003_1.toList) || (!(x409004_1.toList == x410004_1.toList) || (!(x409005_1.toList == x410005_1.toList))))))) = true then ((tupl_Less.f k1 x410000_1 x410001_1 x410002_1 x410003_1 x410004_1 x410005_1 x409000_1 x409001_1 x409002_1 x409003_1 x409004_1 x409005_1).bind fun t420 => (entaillaw2_TuplOrder.j1 k1 a3 a4 a5 x13_1 (!t420))) else (entaillaw2_TuplOrder.j1 k1 a3 a4 a5 x13_1 false)))))) = some r := H
        have A12 := Aside0.mk A120
        clear A120
        replace H := Option.bind_eq_some_iff.mp H
        obtain ⟨t414, A130, H⟩ := H
        replace H : (if t412 = true then (if t413 = true then (if t414 = true then ((tupl_Less.f k1 x409000_1 x409001_1 x409002_1 x409003_1 x409004_1 x409005_1 x409000_1 x409001_1 x409002_1 x409003_1 x409004_1 x409005_1).bind fun t415 => (if t415 = true then (entaillaw2_TuplOrder.j1 k1 a3 a4 a5 x13_1 true) else ((tupl_Less.f k1 x410000_1 x410001_1 x410002_1 x410003_1 x410004_1 x410005_1 x409000_1 x409001_1 x409002_1 x409003_1 x409004_1 x409005_1).bind fun t416 => (if t416 = true then (entaillaw2_TuplOrder.j1 k1 a3 a4 a5 x13_1 true) else (if ((!(x409000_1.toList == x410000_1.toList) || (!(x409001_1.toList == x410001_1.toList))) || (!(x409002_1.toList == x410002_1.toList) || ((!(x409003_1.toList == x410003_1.toList) || (!(x409004_1.toList == x410004_1.toList) || (!(x409005_1.toList == x410005_1.toList))))))) = true then (entaillaw2_TuplOrder.j1 k1 a3 a4 a5 x13_1 false) else (entaillaw2_TuplOrder.j1 k1 a3 a4 a5 x13_1 false)))))) else (entaillaw2_TuplOrder.j1 k1 a3 a4 a5 x13_1 true)) else ((tupl_Less.f k1 x409000_1 x409001_1 x409002_1 x409003_1 x409004_1 x409005_1 x409000_1 x409001_1 x409002_1 x409003_1 x409004_1 x409005_1).bind fun t417 => (if t417 = true then (entaillaw2_TuplOrder.j1 k1 a3 a4 a5 x13_1 true) else ((tupl_Less.f k1 x410000_1 x410001_1 x410002_1 x410003_1 x410004_1 x410005_1 x409000_1 x409001_1 x409002_1 x409003_1 x409004_1 x409005_1).bind fun t418 => (if t418 = true then (entaillaw2_TuplOrder.j1 k1 a3 a4 a5 x13_1 true) else (if ((!(x409000_1.toList == x410000_1.toList) || (!(x409001_1.toList == x410001_1.toList))) || (!(x409002_1.toList == x410002_1.toList) || ((!(x409003_1.toList == x410003_1.toList) || (!(x409004_1.toList == x410004_1.toList) || (!(x409005_1.toList == x410005_1.toList))))))) = true then (entaillaw2_TuplOrder.j1 k1 a3 a4 a5 x13_1 false) else (entaillaw2_TuplOrder.j1 k1 a3 a4 a5 x13_1 false))))))) else ((tupl_Less.f k1 x409000_1 x409001_1 x409002_1 x409003_1 x409004_1 x409005_1 x409000_1 x409001_1 x409002_1 x409003_1 x409004_1 x409005_1).bind fun t419 => (if t419 = true then (entaillaw2_TuplOrder.j1 k1 a3 a4 a5 x13_1 true) else (if ((!(x409000_1.toList == x410000_1.toList) || (!(x409001_1.toList == x410001_1.toList))) || (!(x409002_1.toList == x410002_1.toList) || ((!(x409003_1.toList == x410003_1.toList) || (!(x409004_1.toList == x410004_1.toList) || (!(x409005_1.toList == x410005_1.toList))))))) = true then ((tupl_Less.f k1 x410000_1 x410001_1 x410002_1 x410003_1 x410004_1 x410005_1 x409000_1 x409001_1 x409002_1 x409003_1 x409004_1 x409005_1).bind fun t420 => (entaillaw2_TuplOrder.j1 k1 a3 a4 a5 x13_1 (!t420))) else (entaillaw2_TuplOrder.j1 k1 a3 a4 a5 x13_1 false))))) = some r := H
        have A13 := Aside0.mk A130
        clear A130
        have HC14 := Aside0.mk H
        clear H
        try go_wp2
        have n0_ := Aside0.mk (blk_drew BK408.out)
        have n1_ := Aside0.mk (blk_drew BK409.out)
        have n2_ := Aside0.mk (blk_drew BK410.out)
        have n3_ := Aside0.mk (below_drew1 HB.out)
        clear BK408
        clear BK409
        clear BK410
        clear HB
        have BK408 := n0_
        have BK409 := n1_
        have BK410 := n2_
        have HB := n3_
        clear n0_ n1_ n2_ n3_
        refine start_ (n := 12) (S := fun w' => w'.cell? ⟨gb408, 0, none⟩ = some (.string x409000_1) ∧ w'.cell? ⟨gb408, 1, none⟩ = some (.string x409001_1) ∧ w'.cell? ⟨gb408, 2, none⟩ = some (.string x409002_1) ∧ w'.cell? ⟨gb408, 3, none⟩ = some (.string x409003_1) ∧ w'.cell? ⟨gb408, 4, none⟩ = some (.string x409004_1) ∧ w'.cell? ⟨gb408, 5, none⟩ = some (.string x409005_1) ∧ w'.cell? ⟨gb409, 0, none⟩ = some (.string x410000_1) ∧ w'.cell? ⟨gb409, 1, none⟩ = some (.string x410001_1) ∧ w'.cell? ⟨gb409, 2, none⟩ = some (.string x410002_1) ∧ w'.cell? ⟨gb409, 3, none⟩ = some (.string x410003_1) ∧ w'.cell? ⟨gb409, 4, none⟩ = some (.string x410004_1) ∧ w'.cell? ⟨gb409, 5, none⟩ = some (.string x410005_1) ∧ w'.cell? ⟨gb410, 0, none⟩ = some (.string x411000_1) ∧ w'.cell? ⟨gb410, 1, none⟩ = some (.string x411001_1) ∧ w'.cell? ⟨gb410, 2, none⟩ = some (.string x411002_1) ∧ w'.cell? ⟨gb410, 3, none⟩ = some (.string x411003_1) ∧ w'.cell? ⟨gb410, 4, none⟩ = some (.string x411004_1) ∧ w'.cell? ⟨gb410, 5, none⟩ = some (.string x411005_1)) (ds := []) #[false, false, false, false, false, false, false, false, false, false, false, false] (by kernel_rfl) rfl rfl ⟨(blk_cell BK408.out 0).trans rfl, (blk_cell BK408.out 1).trans rfl, (blk_cell BK408.out 2).trans rfl, (blk_cell BK408.out 3).trans rfl, (blk_cell BK408.out 4).trans rfl, (blk_cell BK408.out 5).trans rfl, (blk_cell BK409.out 0).trans rfl, (blk_cell BK409.out 1).trans rfl, (blk_cell BK409.out 2).trans rfl, (blk_cell BK409.out 3).trans rfl, (blk_cell BK409.out 4).trans rfl, (blk_cell BK409.out 5).trans rfl, (blk_cell BK410.out 0).trans rfl, (blk_cell BK410.out 1).trans rfl, (blk_cell BK410.out 2).trans rfl, (blk_cell BK410.out 3).trans rfl, (blk_cell BK410.out 4).trans rfl, (blk_cell BK410.out 5).trans rfl⟩ (fun hHeld => ?_); refine with_tabW entaillaw2_TuplOrder.tab4 entaillaw2_TuplOrder.bits4 (fun HT_ HW_ => ?_)
        generalize wr.drew = w15 at BK408 BK409 BK410 HB hHeld ⊢
        refine take_ (i := 0) (N := some 21) (v := ?_) (a' := ?_) #[true, false, false, false, false, false, false, false, false, false, false, false] rfl rfl (take_ofW HT_.out HW_.out (by kernel_rfl)) (fun _ _ _ h => h) (Or.inl ⟨by rfl, ?_⟩) hHeld ?_ ?_
        rotate_left
        · rintro w' ⟨s0, s1, s2, s3, s4, s5, s6, s7, s8, s9, s10, s11, s12, s13, s14, s15, s16, s17⟩
          go_simp
          with_reducible rfl
        rotate_left
        · simp only [Act.put, List.setIfInBounds_toArray, List.set_cons_zero, List.set_cons_succ, i64_w, i32_w]
          rfl
        refine take_ (i := 1) (N := some 22) (v := ?_) (a' := ?_) #[true, true, false, false, false, false, false, false, false, false, false, false] rfl rfl (take_ofW HT_.out HW_.out (by kernel_rfl)) (fun _ _ _ h => h) (Or.inl ⟨by rfl, ?_⟩) hHeld ?_ ?_
        rotate_left
        · rintro w' ⟨s0, s1, s2, s3, s4, s5, s6, s7, s8, s9, s10, s11, s12, s13, s14, s15, s16, s17⟩
          go_simp
          with_reducible rfl
        rotate_left
        · simp only [Act.put, List.setIfInBounds_toArray, List.set_cons_zero, List.set_cons_succ, i64_w, i32_w]
          rfl
        refine take_ (i := 3) (N := some 24) (v := ?_) (a' := ?_) #[true, true, false, true, false, false, false, false, false, false, false, false] rfl rfl (take_ofW HT_.out HW_.out (by kernel_rfl)) (fun _ _ _ h => h) (Or.inl ⟨by rfl, ?_⟩) hHeld ?_ ?_
        rotate_left
        · rintro w' ⟨s0, s1, s2, s3, s4, s5, s6, s7, s8, s9, s10, s11, s12, s13, s14, s15, s16, s17⟩
          go_simp
          with_reducible rfl
        rotate_left
        · simp only [Act.put, List.setIfInBounds_toArray, List.set_cons_zero, List.set_cons_succ, i64_w, i32_w]
          rfl
        refine take_ (i := 4) (N := some 25) (v := ?_) (a' := ?_) #[true, true, false, true, true, false, false, false, false, false, false, false] rfl rfl (take_ofW HT_.out HW_.out (by kernel_rfl)) (fun _ _ _ h => h) (Or.inl ⟨by rfl, ?_⟩) hHeld ?_ ?_
        rotate_left
        · rintro w' ⟨s0, s1, s2, s3, s4, s5, s6, s7, s8, s9, s10, s11, s12, s13, s14, s15, s16, s17⟩
          go_simp
          with_reducible rfl
        rotate_left
        · simp only [Act.put, List.setIfInBounds_toArray, List.set_cons_zero, List.set_cons_succ, i64_w, i32_w]
          rfl
        refine take_ (i := 6) (N := some 27) (v := ?_) (a' := ?_) #[true, true, false, true, true, false, true, false, false, false, false, false] rfl rfl (take_ofW HT_.out HW_.out (by kernel_rfl)) (fun _ _ _ h => h) (Or.inl ⟨by rfl, ?_⟩) hHeld ?_ ?_
        rotate_left
        · rintro w' ⟨s0, s1, s2, s3, s4, s5, s6, s7, s8, s9, s10, s11, s12, s13, s14, s15, s16, s17⟩
          go_simp
          with_reducible rfl
        rotate_left
        · simp only [Act.put, List.setIfInBounds_toArray, List.set_cons_zero, List.set_cons_succ, i64_w, i32_w]
          rfl
        refine take_ (i := 7) (N := some 28) (v := ?_) (a' := ?_) #[true, true, false, true, true, false, true, true, false, false, false, false] rfl rfl (take_ofW HT_.out HW_.out (by kernel_rfl)) (fun _ _ _ h => h) (Or.inl ⟨by rfl, ?_⟩) hHeld ?_ ?_
        rotate_left
        · rintro w' ⟨s0, s1, s2, s3, s4, s5, s6, s7, s8, s9, s10, s11, s12, s13, s14, s15, s16, s17⟩
          go_simp
          with_reducible rfl
        rotate_left
        · simp only [Act.put, List.setIfInBounds_toArray, List.set_cons_zero, List.set_cons_succ, i64_w, i32_w]
          rfl
        refine one_ (i := 2) (N := some 23) #[true, true, true, true, true, false, true, true, false, false, false, false] rfl rfl (one_of HT_.out (by kernel_rfl)) (by decide) (fun K hK => ?_)
        refine goes_ Try.func16 (by kernel_rfl) rfl #[.agg #[.string x409000_1, .string x409001_1, .string x409002_1, .string x409003_1, .string x409004_1, .string x409005_1], .agg #[.string x410000_1, .string x410001_1, .string x410002_1, .string x410003_1, .string x410004_1, .string x410005_1]] (by rfl) rfl rfl (by (try simp only [List.map_toArray, List.map_cons, List.map_nil]); first | done | rfl | (simp only [List.length_drop, List.length_take]; rfl)) ?_
        with_reducible refine (tupl_Less.calls k1 x409000_1 x409001_1 x409002_1 x409003_1 x409004_1 x409005_1 x410000_1 x410001_1 x410002_1 x410003_1 x410004_1 x410005_1 t412 _ A11.out).mono ?_
        rintro e w16 ⟨rfl, hb⟩
        refine ⟨_, rfl, ?_⟩
        have n0_ := Aside0.mk (blk_below (g := gb408) (o := .cells #[.string x409000_1, .string x409001_1, .string x409002_1, .string x409003_1, .string x409004_1, .string x409005_1] 29 (0, 0)) (by (with_reducible repeat (first | refine blk_drewN ?_ _ | refine blk_drew ?_ | refine blk_alloc ?_ _)); exact BK408.out) hb)
        have n1_ := Aside0.mk (blk_below (g := gb409) (o := .cells #[.string x410000_1, .string x410001_1, .string x410002_1, .string x410003_1, .string x410004_1, .string x410005_1] 29 (0, 0)) (by (with_reducible repeat (first | refine blk_drewN ?_ _ | refine blk_drew ?_ | refine blk_alloc ?_ _)); exact BK409.out) hb)
        have n2_ := Aside0.mk (blk_below (g := gb410) (o := .cells #[.string x411000_1, .string x411001_1, .string x411002_1, .string x411003_1, .string x411004_1, .string x411005_1] 29 (0, 0)) (by (with_reducible repeat (first | refine blk_drewN ?_ _ | refine blk_drew ?_ | refine blk_alloc ?_ _)); exact BK410.out) hb)
        have n3_ := Aside0.mk (below_step (by repeat (first | (with_reducible first | exact HB.out | apply below_alloc | apply pw_below_drewN | apply below_drew1 | refine below_set ?_ GE408.out | refine below_set ?_ GE409.out | refine below_set ?_ GE410.out) | exact HB.out)) hb)
        clear BK408
        clear BK409
        clear BK410
        clear HB
        have BK408 := n0_
        have BK409 := n1_
        have BK410 := n2_
        have HB := n3_
        clear n0_ n1_ n2_ n3_
        (try clear hb)
        (try clear hb2)
        (try clear hk)
        (try clear hi)
        refine hK.out _ _ ⟨(blk_cell BK408.out 0).trans rfl, (blk_cell BK408.out 1).trans rfl, (blk_cell BK408.out 2).trans rfl, (blk_cell BK408.out 3).trans rfl, (blk_cell BK408.out 4).trans rfl, (blk_cell BK408.out 5).trans rfl, (blk_cell BK409.out 0).trans rfl, (blk_cell BK409.out 1).trans rfl, (blk_cell BK409.out 2).trans rfl, (blk_cell BK409.out 3).trans rfl, (blk_cell BK409.out 4).trans rfl, (blk_cell BK409.out 5).trans rfl, (blk_cell BK410.out 0).trans rfl, (blk_cell BK410.out 1).trans rfl, (blk_cell BK410.out 2).trans rfl, (blk_cell BK410.out 3).trans rfl, (blk_cell BK410.out 4).trans rfl, (blk_cell BK410.out 5).trans rfl⟩ (fun hHeld => ?_)
        clear hK K
        refine norm_ (a' := ?_) ?_ ?_
        rotate_left
        · show Act.put _ (some 23) _ = _
          simp only [Act.put, List.setIfInBounds_toArray, List.set_cons_zero, List.set_cons_succ, i64_w, i32_w]
          rfl
        refine one_ (i := 5) (N := some 26) #[true, true, true, true, true, true, true, true, false, false, false, false] rfl rfl (one_of HT_.out (by kernel_rfl)) (by decide) (fun K hK => ?_)
        refine goes_ Try.func16 (by kernel_rfl) rfl #[.agg #[.string x410000_1, .string x410001_1, .string x410002_1, .string x410003_1, .string x410004_1, .string x410005_1], .agg #[.string x411000_1, .string x411001_1, .string x411002_1, .string x411003_1, .string x411004_1, .string x411005_1]] (by rfl) rfl rfl (by (try simp only [List.map_toArray, List.map_cons, List.map_nil]); first | done | rfl | (simp only [List.length_drop, List.length_take]; rfl)) ?_
        with_reducible refine (tupl_Less.calls k1 x410000_1 x410001_1 x410002_1 x410003_1 x410004_1 x410005_1 x411000_1 x411001_1 x411002_1 x411003_1 x411004_1 x411005_1 t413 _ A12.out).mono ?_
        rintro e w17 ⟨rfl, hb⟩
        refine ⟨_, rfl, ?_⟩
        have n0_ := Aside0.mk (blk_below (g := gb408) (o := .cells #[.string x409000_1, .string x409001_1, .string x409002_1, .string x409003_1, .string x409004_1, .string x409005_1] 29 (0, 0)) (by (with_reducible repeat (first | refine blk_drewN ?_ _ | refine blk_drew ?_ | refine blk_alloc ?_ _)); exact BK408.out) hb)
        have n1_ := Aside0.mk (blk_below (g := gb409) (o := .cells #[.string x410000_1, .string x410001_1, .string x410002_1, .string x410003_1, .string x410004_1, .string x410005_1] 29 (0, 0)) (by (with_reducible repeat (first | refine blk_drewN ?_ _ | refine blk_drew ?_ | refine blk_alloc ?_ _)); exact BK409.out) hb)
        have n2_ := Aside0.mk (blk_below (g := gb410) (o := .cells #[.string x411000_1, .string x411001_1, .string x411002_1, .string x411003_1, .string x411004_1, .string x411005_1] 29 (0, 0)) (by (with_reducible repeat (first | refine blk_drewN ?_ _ | refine blk_drew ?_ | refine blk_alloc ?_ _)); exact BK410.out) hb)
        have n3_ := Aside0.mk (below_step (by repeat (first | (with_reducible first | exact HB.out | apply below_alloc | apply pw_below_drewN | apply below_drew1 | refine below_set ?_ GE408.out | refine below_set ?_ GE409.out | refine below_set ?_ GE410.out) | exact HB.out)) hb)
        clear BK408
        clear BK409
        clear BK410
        clear HB
        have BK408 := n0_
        have BK409 := n1_
        have BK410 := n2_
        have HB := n3_
        clear n0_ n1_ n2_ n3_
        (try clear hb)
        (try clear hb2)
        (try clear hk)
        (try clear hi)
        refine hK.out _ _ ⟨(blk_cell BK408.out 0).trans rfl, (blk_cell BK408.out 1).trans rfl, (blk_cell BK408.out 2).trans rfl, (blk_cell BK408.out 3).trans rfl, (blk_cell BK408.out 4).trans rfl, (blk_cell BK408.out 5).trans rfl, (blk_cell BK409.out 0).trans rfl, (blk_cell BK409.out 1).trans rfl, (blk_cell BK409.out 2).trans rfl, (blk_cell BK409.out 3).trans rfl, (blk_cell BK409.out 4).trans rfl, (blk_cell BK409.out 5).trans rfl, (blk_cell BK410.out 0).trans rfl, (blk_cell BK410.out 1).trans rfl, (blk_cell BK410.out 2).trans rfl, (blk_cell BK410.out 3).trans rfl, (blk_cell BK410.out 4).trans rfl, (blk_cell BK410.out 5).trans rfl⟩ (fun hHeld => ?_)
        clear hK K
        refine norm_ (a' := ?_) ?_ ?_
        rotate_left
        · show Act.put _ (some 26) _ = _
          simp only [Act.put, List.setIfInBounds_toArray, List.set_cons_zero, List.set_cons_succ, i64_w, i32_w]
          rfl
        refine one_ (i := 8) (N := some 29) #[true, true, true, true, true, true, true, true, true, false, false, false] rfl rfl (one_of HT_.out (by kernel_rfl)) (by decide) (fun K hK => ?_)
        refine goes_ Try.func16 (by kernel_rfl) rfl #[.agg #[.string x409000_1, .string x409001_1, .string x409002_1, .string x409003_1, .string x409004_1, .string x409005_1], .agg #[.string x411000_1, .string x411001_1, .string x411002_1, .string x411003_1, .string x411004_1, .string x411005_1]] (by rfl) rfl rfl (by (try simp only [List.map_toArray, List.map_cons, List.map_nil]); first | done | rfl | (simp only [List.length_drop, List.length_take]; rfl)) ?_
        with_reducible refine (tupl_Less.calls k1 x409000_1 x409001_1 x409002_1 x409003_1 x409004_1 x409005_1 x411000_1 x411001_1 x411002_1 x411003_1 x411004_1 x411005_1 t414 _ A13.out).mono ?_
        rintro e w18 ⟨rfl, hb⟩
        refine ⟨_, rfl, ?_⟩
        have n0_ := Aside0.mk (blk_below (g := gb408) (o := .cells #[.string x409000_1, .string x409001_1, .string x409002_1, .string x409003_1, .string x409004_1, .string x409005_1] 29 (0, 0)) (by (with_reducible repeat (first | refine blk_drewN ?_ _ | refine blk_drew ?_ | refine blk_alloc ?_ _)); exact BK408.out) hb)
        have n1_ := Aside0.mk (blk_below (g := gb409) (o := .cells #[.string x410000_1, .string x410001_1, .string x410002_1, .string x410003_1, .string x410004_1, .string x410005_1] 29 (0, 0)) (by (with_reducible repeat (first | refine blk_drewN ?_ _ | refine blk_drew ?_ | refine blk_alloc ?_ _)); exact BK409.out) hb)
        have n2_ := Aside0.mk (blk_below (g := gb410) (o := .cells #[.string x411000_1, .string x411001_1, .string x411002_1, .string x411003_1, .string x411004_1, .string x411005_1] 29 (0, 0)) (by (with_reducible repeat (first | refine blk_drewN ?_ _ | refine blk_drew ?_ | refine blk_alloc ?_ _)); exact BK410.out) hb)
        have n3_ := Aside0.mk (below_step (by repeat (first | (with_reducible first | exact HB.out | apply below_alloc | apply pw_below_drewN | apply below_drew1 | refine below_set ?_ GE408.out | refine below_set ?_ GE409.out | refine below_set ?_ GE410.out) | exact HB.out)) hb)
        clear BK408
        clear BK409
        clear BK410
        clear HB
        have BK408 := n0_
        have BK409 := n1_
        have BK410 := n2_
        have HB := n3_
        clear n0_ n1_ n2_ n3_
        (try clear hb)
        (try clear hb2)
        (try clear hk)
        (try clear hi)
        refine hK.out _ _ ⟨(blk_cell BK408.out 0).trans rfl, (blk_cell BK408.out 1).trans rfl, (blk_cell BK408.out 2).trans rfl, (blk_cell BK408.out 3).trans rfl, (blk_cell BK408.out 4).trans rfl, (blk_cell BK408.out 5).trans rfl, (blk_cell BK409.out 0).trans rfl, (blk_cell BK409.out 1).trans rfl, (blk_cell BK409.out 2).trans rfl, (blk_cell BK409.out 3).trans rfl, (blk_cell BK409.out 4).trans rfl, (blk_cell BK409.out 5).trans rfl, (blk_cell BK410.out 0).trans rfl, (blk_cell BK410.out 1).trans rfl, (blk_cell BK410.out 2).trans rfl, (blk_cell BK410.out 3).trans rfl, (blk_cell BK410.out 4).trans rfl, (blk_cell BK410.out 5).trans rfl⟩ (fun hHeld => ?_)
        clear hK K
        refine norm_ (a' := ?_) ?_ ?_
        rotate_left
        · show Act.put _ (some 29) _ = _
          simp only [Act.put, List.setIfInBounds_toArray, List.set_cons_zero, List.set_cons_succ, i64_w, i32_w]
          rfl
        refine pure_ (i := 9) (N := some 14) (v := ?_) (a' := ?_) #[true, true, true, true, true, true, true, true, true, true, false, false] rfl rfl (any_of HT_.out (by kernel_rfl)) (fun _ _ _ h => h) (Or.inl ⟨by rfl, ?_⟩) ?_ ?_
        rotate_left
        · intro w'
          go_simp
          with_reducible rfl
        rotate_left
        · simp only [Act.put, List.setIfInBounds_toArray, List.set_cons_zero, List.set_cons_succ, i64_w, i32_w]
          rfl
        refine pure_ (i := 10) (N := some 15) (v := ?_) (a' := ?_) #[true, true, true, true, true, true, true, true, true, true, true, false] rfl rfl (any_of HT_.out (by kernel_rfl)) (fun _ _ _ h => h) (Or.inl ⟨by rfl, ?_⟩) ?_ ?_
        rotate_left
        · intro w'
          go_simp
          with_reducible rfl
        rotate_left
        · simp only [Act.put, List.setIfInBounds_toArray, List.set_cons_zero, List.set_cons_succ, i64_w, i32_w]
          rfl
        refine pure_ (i := 11) (N := some 16) (v := ?_) (a' := ?_) #[true, true, true, true, true, true, true, true, true, true, true, true] rfl rfl (any_of HT_.out (by kernel_rfl)) (fun _ _ _ h => h) (Or.inl ⟨by rfl, ?_⟩) ?_ ?_
        rotate_left
        · intro w'
          go_simp
          with_reducible rfl
        rotate_left
        · simp only [Act.put, List.setIfInBounds_toArray, List.set_cons_zero, List.set_cons_succ, i64_w, i32_w]
          rfl
        refine done_ (done_of HT_.out (by kernel_rfl)) ?_
        go_upto_region 5 with (fail)
        go_cut [65] (fun v65 wc => ∃ (kq : Nat) (x65_13 : Bool), v65 = .bool x65_13 ∧ Aside0 (entaillaw2_TuplOrder.j1 kq a3 a4 a5 x13_1 x65_13 = some r) ∧ Aside0 (kq ≤ k1) ∧ Aside0 (wc.heap[gb408]? = some (.cells #[.string x409000_1, .string x409001_1, .string x409002_1, .string x409003_1, .string x409004_1, .string x409005_1] 29 (0, 0))) ∧ Aside0 (wc.heap[gb409]? = some (.cells #[.string x410000_1, .string x410001_1, .string x410002_1, .string x410003_1, .string x410004_1, .string x410005_1] 29 (0, 0))) ∧ Aside0 (wc.heap[gb410]? = some (.cells #[.string x411000_1, .string x411001_1, .string x411002_1, .string x411003_1, .string x411004_1, .string x411005_1] 29 (0, 0))) ∧ Aside0 (Below w.heap.size w wc))
        case first =>
          have H := HC14.out
          clear HC14
          by_cases c19 : t412 = true
          · subst c19
            have H1 : (if t413 = true then (if t414 = true then ((tupl_Less.f k1 x409000_1 x409001_1 x409002_1 x409003_1 x409004_1 x409005_1 x409000_1 x409001_1 x409002_1 x409003_1 x409004_1 x409005_1).bind fun t415 => (if t415 = true then (entaillaw2_TuplOrder.j1 k1 a3 a4 a5 x13_1 true) else ((tupl_Less.f k1 x410000_1 x410001_1 x410002_1 x410003_1 x410004_1 x410005_1 x409000_1 x409001_1 x409002_1 x409003_1 x409004_1 x409005_1).bind fun t416 => (if t416 = true then (entaillaw2_TuplOrder.j1 k1 a3 a4 a5 x13_1 true) else (if ((!(x409000_1.toList == x410000_1.toList) || (!(x409001_1.toList == x410001_1.toList))) || (!(x409002_1.toList == x410002_1.toList) || ((!(x409003_1.toList == x410003_1.toList) || (!(x409004_1.toList == x410004_1.toList) || (!(x409005_1.toList == x410005_1.toList))))))) = true then (entaillaw2_TuplOrder.j1 k1 a3 a4 a5 x13_1 false) else (entaillaw2_TuplOrder.j1 k1 a3 a4 a5 x13_1 false)))))) else (entaillaw2_TuplOrder.j1 k1 a3 a4 a5 x13_1 true)) else ((tupl_Less.f k1 x409000_1 x409001_1 x409002_1 x409003_1 x409004_1 x409005_1 x409000_1 x409001_1 x409002_1 x409003_1 x409004_1 x409005_1).bind fun t417 => (if t417 = true then (entaillaw2_TuplOrder.j1 k1 a3 a4 a5 x13_1 true) else ((tupl_Less.f k1 x410000_1 x410001_1 x410002_1 x410003_1 x410004_1 x410005_1 x409000_1 x409001_1 x409002_1 x409003_1 x409004_1 x409005_1).bind fun t418 => (if t418 = true then (entaillaw2_TuplOrder.j1 k1 a3 a4 a5 x13_1 true) else (if ((!(x409000_1.toList == x410000_1.toList) || (!(x409001_1.toList == x410001_1.toList))) || (!(x409002_1.toList == x410002_1.toList) || ((!(x409003_1.toList == x410003_1.toList) || (!(x409004_1.toList == x410004_1.toList) || (!(x409005_1.toList == x410005_1.toList))))))) = true then (entaillaw2_TuplOrder.j1 k1 a3 a4 a5 x13_1 false) else (entaillaw2_TuplOrder.j1 k1 a3 a4 a5 x13_1 false))))))) = some r := by rw [if_pos rfl] at H; exact H
            clear H
            have H := H1
            clear H1
            by_cases c20 : t413 = true
            · subst c20
              have H1 : (if t414 = true then ((tupl_Less.f k1 x409000_1 x409001_1 x409002_1 x409003_1 x409004_1 x409005_1 x409000_1 x409001_1 x409002_1 x409003_1 x409004_1 x409005_1).bind fun t415 => (if t415 = true then (entaillaw2_TuplOrder.j1 k1 a3 a4 a5 x13_1 true) else ((tupl_Less.f k1 x410000_1 x410001_1 x410002_1 x410003_1 x410004_1 x410005_1 x409000_1 x409001_1 x409002_1 x409003_1 x409004_1 x409005_1).bind fun t416 => (if t416 = true then (entaillaw2_TuplOrder.j1 k1 a3 a4 a5 x13_1 true) else (if ((!(x409000_1.toList == x410000_1.toList) || (!(x409001_1.toList == x410001_1.toList))) || (!(x409002_1.toList == x410002_1.toList) || ((!(x409003_1.toList == x410003_1.toList) || (!(x409004_1.toList == x410004_1.toList) || (!(x409005_1.toList == x410005_1.toList))))))) = true then (entaillaw2_TuplOrder.j1 k1 a3 a4 a5 x13_1 false) else (entaillaw2_TuplOrder.j1 k1 a3 a4 a5 x13_1 false)))))) else (entaillaw2_TuplOrder.j1 k1 a3 a4 a5 x13_1 true)) = some r := by rw [if_pos rfl] at H; exact H
              clear H
              have H := H1
              clear H1
              by_cases c21 : t414 = true
              · subst c21
                have H1 : ((tupl_Less.f k1 x409000_1 x409001_1 x409002_1 x409003_1 x409004_1 x409005_1 x409000_1 x409001_1 x409002_1 x409003_1 x409004_1 x409005_1).bind fun t415 => (if t415 = true then (entaillaw2_TuplOrder.j1 k1 a3 a4 a5 x13_1 true) else ((tupl_Less.f k1 x410000_1 x410001_1 x410002_1 x410003_1 x410004_1 x410005_1 x409000_1 x409001_1 x409002_1 x409003_1 x409004_1 x409005_1).bind fun t416 => (if t416 = true then (entaillaw2_TuplOrder.j1 k1 a3 a4 a5 x13_1 true) else (if ((!(x409000_1.toList == x410000_1.toList) || (!(x409001_1.toList == x410001_1.toList))) || (!(x409002_1.toList == x410002_1.toList) || ((!(x409003_1.toList == x410003_1.toList) || (!(x409004_1.toList == x410004_1.toList) || (!(x409005_1.toList == x410005_1.toList))))))) = true then (entaillaw2_TuplOrder.j1 k1 a3 a4 a5 x13_1 false) else (entaillaw2_TuplOrder.j1 k1 a3 a4 a5 x13_1 false)))))) = some r := by rw [if_pos rfl] at H; exact H
                clear H
                have H := H1
                clear H1
                replace H := Option.bind_eq_some_iff.mp H
                obtain ⟨t415, A220, H⟩ := H
                replace H : (if t415 = true then (entaillaw2_TuplOrder.j1 k1 a3 a4 a5 x13_1 true) else ((tupl_Less.f k1 x410000_1 x410001_1 x410002_1 x410003_1 x410004_1 x410005_1 x409000_1 x409001_1 x409002_1 x409003_1 x409004_1 x409005_1).bind fun t416 => (if t416 = true then (entaillaw2_TuplOrder.j1 k1 a3 a4 a5 x13_1 true) else (if ((!(x409000_1.toList == x410000_1.toList) || (!(x409001_1.toList == x410001_1.toList))) || (!(x409002_1.toList == x410002_1.toList) || ((!(x409003_1.toList == x410003_1.toList) || (!(x409004_1.toList == x410004_1.toList) || (!(x409005_1.toList == x410005_1.toList))))))) = true then (entaillaw2_TuplOrder.j1 k1 a3 a4 a5 x13_1 false) else (entaillaw2_TuplOrder.j1 k1 a3 a4 a5 x13_1 false))))) = some r := H
                have A22 := Aside0.mk A220
                clear A220
                by_cases c23 : t415 = true
                · subst c23
                  have H1 : (entaillaw2_TuplOrder.j1 k1 a3 a4 a5 x13_1 true) = some r := by rw [if_pos rfl] at H; exact H
                  clear H
                  have H := H1
                  clear H1
                  have H' := Aside0.mk H
                  clear H
                  have hnb24 := NB408_409.out
                  have hnc24 := NB409_408.out
                  have hnb25 := NB408_410.out
                  have hnc25 := NB410_408.out
                  have hcz26_0 : w18.cell? ⟨gb408, 0, none⟩ = some (.string x409000_1) := (blk_cell BK408.out 0).trans rfl
                  have hcz26_1 : w18.cell? ⟨gb408, 1, none⟩ = some (.string x409001_1) := (blk_cell BK408.out 1).trans rfl
                  have hcz26_2 : w18.cell? ⟨gb408, 2, none⟩ = some (.string x409002_1) := (blk_cell BK408.out 2).trans rfl
                  have hcz26_3 : w18.cell? ⟨gb408, 3, none⟩ = some (.string x409003_1) := (blk_cell BK408.out 3).trans rfl
                  have hcz26_4 : w18.cell? ⟨gb408, 4, none⟩ = some (.string x409004_1) := (blk_cell BK408.out 4).trans rfl
                  have hcz26_5 : w18.cell? ⟨gb408, 5, none⟩ = some (.string x409005_1) := (blk_cell BK408.out 5).trans rfl
                  have hfz26_0 := blk_frozen BK408.out 0
                  have hfz26_1 := blk_frozen BK408.out 1
                  have hfz26_2 := blk_frozen BK408.out 2
                  have hfz26_3 := blk_frozen BK408.out 3
                  have hfz26_4 := blk_frozen BK408.out 4
                  have hfz26_5 := blk_frozen BK408.out 5
                  go_wp2_with (first | (go_at_call 16; (with_reducible refine (tupl_Less.calls k1 x409000_1 x409001_1 x409002_1 x409003_1 x409004_1 x409005_1 x409000_1 x409001_1 x409002_1 x409003_1 x409004_1 x409005_1 true _ A22.out).mono ?_); rintro e w27 ⟨rfl, hb⟩; have n0_ := Aside0.mk (blk_below (g := gb408) (o := .cells #[.string x409000_1, .string x409001_1, .string x409002_1, .string x409003_1, .string x409004_1, .string x409005_1] 29 (0, 0)) (by (with_reducible repeat (first | refine blk_drewN ?_ _ | refine blk_drew ?_ | refine blk_alloc ?_ _)); exact BK408.out) hb); have n1_ := Aside0.mk (blk_below (g := gb409) (o := .cells #[.string x410000_1, .string x410001_1, .string x410002_1, .string x410003_1, .string x410004_1, .string x410005_1] 29 (0, 0)) (by (with_reducible repeat (first | refine blk_drewN ?_ _ | refine blk_drew ?_ | refine blk_alloc ?_ _)); exact BK409.out) hb); have n2_ := Aside0.mk (blk_below (g := gb410) (o := .cells #[.string x411000_1, .string x411001_1, .string x411002_1, .string x411003_1, .string x411004_1, .string x411005_1] 29 (0, 0)) (by (with_reducible repeat (first | refine blk_drewN ?_ _ | refine blk_drew ?_ | refine blk_alloc ?_ _)); exact BK410.out) hb); have n3_ := Aside0.mk (below_step (by repeat (first | (with_reducible first | exact HB.out | apply below_alloc | apply pw_below_drewN | apply below_drew1 | refine below_set ?_ GE408.out | refine below_set ?_ GE409.out | refine below_set ?_ GE410.out) | exact HB.out)) hb); clear BK408; clear BK409; clear BK410; clear HB; have BK408 := n0_; have BK409 := n1_; have BK410 := n2_; have HB := n3_; clear n0_ n1_ n2_ n3_; (try clear hb); (try clear hb2); (try clear hk); (try clear hi)))
                  go_meet
                  case rel => exact ⟨_, (true), (by first | rfl | (simp; done) | (simp [*]; done)), H', ⟨by have := HK1.out; first | omega | exact Nat.le_refl _⟩, ⟨by (with_reducible repeat (first | refine blk_drewN ?_ _ | refine blk_drew ?_ | refine blk_alloc ?_ _)); exact BK408.out⟩, ⟨by (with_reducible repeat (first | refine blk_drewN ?_ _ | refine blk_drew ?_ | refine blk_alloc ?_ _)); exact BK409.out⟩, ⟨by (with_reducible repeat (first | refine blk_drewN ?_ _ | refine blk_drew ?_ | refine blk_alloc ?_ _)); exact BK410.out⟩, ⟨by repeat (first | (with_reducible first | exact HB.out | apply below_alloc | apply pw_below_drewN | apply below_drew1 | refine below_set ?_ GE408.out | refine below_set ?_ GE409.out | refine below_set ?_ GE410.out) | exact HB.out)⟩⟩
                · replace c23 := Bool.eq_false_iff.mpr c23
                  subst c23
                  have H1 : ((tupl_Less.f k1 x410000_1 x410001_1 x410002_1 x410003_1 x410004_1 x410005_1 x409000_1 x409001_1 x409002_1 x409003_1 x409004_1 x409005_1).bind fun t416 => (if t416 = true then (entaillaw2_TuplOrder.j1 k1 a3 a4 a5 x13_1 true) else (if ((!(x409000_1.toList == x410000_1.toList) || (!(x409001_1.toList == x410001_1.toList))) || (!(x409002_1.toList == x410002_1.toList) || ((!(x409003_1.toList == x410003_1.toList) || (!(x409004_1.toList == x410004_1.toList) || (!(x409005_1.toList == x410005_1.toList))))))) = true then (entaillaw2_TuplOrder.j1 k1 a3 a4 a5 x13_1 false) else (entaillaw2_TuplOrder.j1 k1 a3 a4 a5 x13_1 false)))) = some r := by rw [if_neg (show ¬ (false = true) by decide)] at H; exact H
                  clear H
                  have H := H1
                  clear H1
                  replace H := Option.bind_eq_some_iff.mp H
                  obtain ⟨t416, A280, H⟩ := H
                  replace H : (if t416 = true then (entaillaw2_TuplOrder.j1 k1 a3 a4 a5 x13_1 true) else (if ((!(x409000_1.toList == x410000_1.toList) || (!(x409001_1.toList == x410001_1.toList))) || (!(x409002_1.toList == x410002_1.toList) || ((!(x409003_1.toList == x410003_1.toList) || (!(x409004_1.toList == x410004_1.toList) || (!(x409005_1.toList == x410005_1.toList))))))) = true then (entaillaw2_TuplOrder.j1 k1 a3 a4 a5 x13_1 false) else (entaillaw2_TuplOrder.j1 k1 a3 a4 a5 x13_1 false))) = some r := H
                  have A28 := Aside0.mk A280
                  clear A280
                  by_cases c29 : t416 = true
                  · subst c29
                    have H1 : (entaillaw2_TuplOrder.j1 k1 a3 a4 a5 x13_1 true) = some r := by rw [if_pos rfl] at H; exact H
                    clear H
                    have H := H1
                    clear H1
                    have H' := Aside0.mk H
                    clear H
                    have hnb30 := NB408_409.out
                    have hnc30 := NB409_408.out
                    have hnb31 := NB408_410.out
                    have hnc31 := NB410_408.out
                    have hcz32_0 : w18.cell? ⟨gb408, 0, none⟩ = some (.string x409000_1) := (blk_cell BK408.out 0).trans rfl
                    have hcz32_1 : w18.cell? ⟨gb408, 1, none⟩ = some (.string x409001_1) := (blk_cell BK408.out 1).trans rfl
                    have hcz32_2 : w18.cell? ⟨gb408, 2, none⟩ = some (.string x409002_1) := (blk_cell BK408.out 2).trans rfl
                    have hcz32_3 : w18.cell? ⟨gb408, 3, none⟩ = some (.string x409003_1) := (blk_cell BK408.out 3).trans rfl
                    have hcz32_4 : w18.cell? ⟨gb408, 4, none⟩ = some (.string x409004_1) := (blk_cell BK408.out 4).trans rfl
                    have hcz32_5 : w18.cell? ⟨gb408, 5, none⟩ = some (.string x409005_1) := (blk_cell BK408.out 5).trans rfl
                    have hfz32_0 := blk_frozen BK408.out 0
                    have hfz32_1 := blk_frozen BK408.out 1
                    have hfz32_2 := blk_frozen BK408.out 2
                    have hfz32_3 := blk_frozen BK408.out 3
                    have hfz32_4 := blk_frozen BK408.out 4
                    have hfz32_5 := blk_frozen BK408.out 5
                    go_wp2_with (first | (go_at_call 16; (with_reducible refine (tupl_Less.calls k1 x409000_1 x409001_1 x409002_1 x409003_1 x409004_1 x409005_1 x409000_1 x409001_1 x409002_1 x409003_1 x409004_1 x409005_1 false _ A22.out).mono ?_); rintro e w33 ⟨rfl, hb⟩; have n0_ := Aside0.mk (blk_below (g := gb408) (o := .cells #[.string x409000_1, .string x409001_1, .string x409002_1, .string x409003_1, .string x409004_1, .string x409005_1] 29 (0, 0)) (by (with_reducible repeat (first | refine blk_drewN ?_ _ | refine blk_drew ?_ | refine blk_alloc ?_ _)); exact BK408.out) hb); have n1_ := Aside0.mk (blk_below (g := gb409) (o := .cells #[.string x410000_1, .string x410001_1, .string x410002_1, .string x410003_1, .string x410004_1, .string x410005_1] 29 (0, 0)) (by (with_reducible repeat (first | refine blk_drewN ?_ _ | refine blk_drew ?_ | refine blk_alloc ?_ _)); exact BK409.out) hb); have n2_ := Aside0.mk (blk_below (g := gb410) (o := .cells #[.string x411000_1, .string x411001_1, .string x411002_1, .string x411003_1, .string x411004_1, .string x411005_1] 29 (0, 0)) (by (with_reducible repeat (first | refine blk_drewN ?_ _ | refine blk_drew ?_ | refine blk_alloc ?_ _)); exact BK410.out) hb); have n3_ := Aside0.mk (below_step (by repeat (first | (with_reducible first | exact HB.out | apply below_alloc | apply pw_below_drewN | apply below_drew1 | refine below_set ?_ GE408.out | refine below_set ?_ GE409.out | refine below_set ?_ GE410.out) | exact HB.out)) hb); clear BK408; clear BK409; clear BK410; clear HB; have BK408 := n0_; have BK409 := n1_; have BK410 := n2_; have HB := n3_; clear n0_ n1_ n2_ n3_; (try clear hb); (try clear hb2); (try clear hk); (try clear hi); have hnb34 := NB409_410.out; have hnc34 := NB410_409.out; have hcz35_0 : w33.cell? ⟨gb409, 0, none⟩ = some (.string x410000_1) := (blk_cell BK409.out 0).trans rfl; have hcz35_1 : w33.cell? ⟨gb409, 1, none⟩ = some (.string x410001_1) := (blk_cell BK409.out 1).trans rfl; have hcz35_2 : w33.cell? ⟨gb409, 2, none⟩ = some (.string x410002_1) := (blk_cell BK409.out 2).trans rfl; have hcz35_3 : w33.cell? ⟨gb409, 3, none⟩ = some (.string x410003_1) := (blk_cell BK409.out 3).trans rfl; have hcz35_4 : w33.cell? ⟨gb409, 4, none⟩ = some (.string x410004_1) := (blk_cell BK409.out 4).trans rfl; have hcz35_5 : w33.cell? ⟨gb409, 5, none⟩ = some (.string x410005_1) := (blk_cell BK409.out 5).trans rfl; have hfz35_0 := blk_frozen BK409.out 0; have hfz35_1 := blk_frozen BK409.out 1; have hfz35_2 := blk_frozen BK409.out 2; have hfz35_3 := blk_frozen BK409.out 3; have hfz35_4 := blk_frozen BK409.out 4; have hfz35_5 := blk_frozen BK409.out 5; have hcz36_0 : w33.cell? ⟨gb408, 0, none⟩ = some (.string x409000_1) := (blk_cell BK408.out 0).trans rfl; have hcz36_1 : w33.cell? ⟨gb408, 1, none⟩ = some (.string x409001_1) := (blk_cell BK408.out 1).trans rfl; have hcz36_2 : w33.cell? ⟨gb408, 2, none⟩ = some (.string x409002_1) := (blk_cell BK408.out 2).trans rfl; have hcz36_3 : w33.cell? ⟨gb408, 3, none⟩ = some (.string x409003_1) := (blk_cell BK408.out 3).trans rfl; have hcz36_4 : w33.cell? ⟨gb408, 4, none⟩ = some (.string x409004_1) := (blk_cell BK408.out 4).trans rfl; have hcz36_5 : w33.cell? ⟨gb408, 5, none⟩ = some (.string x409005_1) := (blk_cell BK408.out 5).trans rfl; have hfz36_0 := blk_frozen BK408.out 0; have hfz36_1 := blk_frozen BK408.out 1; have hfz36_2 := blk_frozen BK408.out 2; have hfz36_3 := blk_frozen BK408.out 3; have hfz36_4 := blk_frozen BK408.out 4; have hfz36_5 := blk_frozen BK408.out 5) | (go_at_call 16; (with_reducible refine (tupl_Less.calls k1 x410000_1 x410001_1 x410002_1 x410003_1 x410004_1 x410005_1 x409000_1 x409001_1 x409002_1 x409003_1 x409004_1 x409005_1 true _ A28.out).mono ?_); rintro e w37 ⟨rfl, hb⟩; have n0_ := Aside0.mk (blk_below (g := gb408) (o := .cells #[.string x409000_1, .string x409001_1, .string x409002_1, .string x409003_1, .string x409004_1, .string x409005_1] 29 (0, 0)) (by (with_reducible repeat (first | refine blk_drewN ?_ _ | refine blk_drew ?_ | refine blk_alloc ?_ _)); exact BK408.out) hb); have n1_ := Aside0.mk (blk_below (g := gb409) (o := .cells #[.string x410000_1, .string x410001_1, .string x410002_1, .string x410003_1, .string x410004_1, .string x410005_1] 29 (0, 0)) (by (with_reducible repeat (first | refine blk_drewN ?_ _ | refine blk_drew ?_ | refine blk_alloc ?_ _)); exact BK409.out) hb); have n2_ := Aside0.mk (blk_below (g := gb410) (o := .cells #[.string x411000_1, .string x411001_1, .string x411002_1, .string x411003_1, .string x411004_1, .string x411005_1] 29 (0, 0)) (by (with_reducible repeat (first | refine blk_drewN ?_ _ | refine blk_drew ?_ | refine blk_alloc ?_ _)); exact BK410.out) hb); have n3_ := Aside0.mk (below_step (by repeat (first | (with_reducible first | exact HB.out | apply below_alloc | apply pw_below_drewN | apply below_drew1 | refine below_set ?_ GE408.out | refine below_set ?_ GE409.out | refine below_set ?_ GE410.out) | exact HB.out)) hb); clear BK408; clear BK409; clear BK410; clear HB; have BK408 := n0_; have BK409 := n1_; have BK410 := n2_; have HB := n3_; clear n0_ n1_ n2_ n3_; (try clear hb); (try clear hb2); (try clear hk); (try clear hi)))
                    go_meet
                    case rel => exact ⟨_, (true), (by first | rfl | (simp; done) | (simp [*]; done)), H', ⟨by have := HK1.out; first | omega | exact Nat.le_refl _⟩, ⟨by (with_reducible repeat (first | refine blk_drewN ?_ _ | refine blk_drew ?_ | refine blk_alloc ?_ _)); exact BK408.out⟩, ⟨by (with_reducible repeat (first | refine blk_drewN ?_ _ | refine blk_drew ?_ | refine blk_alloc ?_ _)); exact BK409.out⟩, ⟨by (with_reducible repeat (first | refine blk_drewN ?_ _ | refine blk_drew ?_ | refine blk_alloc ?_ _)); exact BK410.out⟩, ⟨by repeat (first | (with_reducible first | exact HB.out | apply below_alloc | apply pw_below_drewN | apply below_drew1 | refine below_set ?_ GE408.out | refine below_set ?_ GE409.out | refine below_set ?_ GE410.out) | exact HB.out)⟩⟩
                  · replace c29 := Bool.eq_false_iff.mpr c29
                    subst c29
                    have H1 : (if ((!(x409000_1.toList == x410000_1.toList) || (!(x409001_1.toList == x410001_1.toList))) || (!(x409002_1.toList == x410002_1.toList) || ((!(x409003_1.toList == x410003_1.toList) || (!(x409004_1.toList == x410004_1.toList) || (!(x409005_1.toList == x410005_1.toList))))))) = true then (entaillaw2_TuplOrder.j1 k1 a3 a4 a5 x13_1 false) else (entaillaw2_TuplOrder.j1 k1 a3 a4 a5 x13_1 false)) = some r := by rw [if_neg (show ¬ (false = true) by decide)] at H; exact H
                    clear H
                    have H := H1
                    clear H1
                    by_cases c38 : ((!(x409000_1.toList == x410000_1.toList) || (!(x409001_1.toList == x410001_1.toList))) || (!(x409002_1.toList == x410002_1.toList) || ((!(x409003_1.toList == x410003_1.toList) || (!(x409004_1.toList == x410004_1.toList) || (!(x409005_1.toList == x410005_1.toList))))))) = true
                    · rw [if_pos c38] at H
                      have c38b0 : ((!(x409000_1.toList == x410000_1.toList) || (!(x409001_1.toList == x410001_1.toList))) || (!(x409002_1.toList == x410002_1.toList) || ((!(x409003_1.toList == x410003_1.toList) || (!(x409004_1.toList == x410004_1.toList) || (!(x409005_1.toList == x410005_1.toList))))))) = true := c38
                      clear c38
                      (first | rw [c38b0] | (simp only [i64_w, i32_w]; rw [c38b0]) | skip)
                      have H' := Aside0.mk H
                      clear H
                      have hnb39 := NB408_409.out
                      have hnc39 := NB409_408.out
                      have hnb40 := NB408_410.out
                      have hnc40 := NB410_408.out
                      have hcz41_0 : w18.cell? ⟨gb408, 0, none⟩ = some (.string x409000_1) := (blk_cell BK408.out 0).trans rfl
                      have hcz41_1 : w18.cell? ⟨gb408, 1, none⟩ = some (.string x409001_1) := (blk_cell BK408.out 1).trans rfl
                      have hcz41_2 : w18.cell? ⟨gb408, 2, none⟩ = some (.string x409002_1) := (blk_cell BK408.out 2).trans rfl
                      have hcz41_3 : w18.cell? ⟨gb408, 3, none⟩ = some (.string x409003_1) := (blk_cell BK408.out 3).trans rfl
                      have hcz41_4 : w18.cell? ⟨gb408, 4, none⟩ = some (.string x409004_1) := (blk_cell BK408.out 4).trans rfl
                      have hcz41_5 : w18.cell? ⟨gb408, 5, none⟩ = some (.string x409005_1) := (blk_cell BK408.out 5).trans rfl
                      have hfz41_0 := blk_frozen BK408.out 0
                      have hfz41_1 := blk_frozen BK408.out 1
                      have hfz41_2 := blk_frozen BK408.out 2
                      have hfz41_3 := blk_frozen BK408.out 3
                      have hfz41_4 := blk_frozen BK408.out 4
                      have hfz41_5 := blk_frozen BK408.out 5
                      go_wp2_with (first | (go_at_call 16; (with_reducible refine (tupl_Less.calls k1 x409000_1 x409001_1 x409002_1 x409003_1 x409004_1 x409005_1 x409000_1 x409001_1 x409002_1 x409003_1 x409004_1 x409005_1 false _ A22.out).mono ?_); rintro e w42 ⟨rfl, hb⟩; have n0_ := Aside0.mk (blk_below (g := gb408) (o := .cells #[.string x409000_1, .string x409001_1, .string x409002_1, .string x409003_1, .string x409004_1, .string x409005_1] 29 (0, 0)) (by (with_reducible repeat (first | refine blk_drewN ?_ _ | refine blk_drew ?_ | refine blk_alloc ?_ _)); exact BK408.out) hb); have n1_ := Aside0.mk (blk_below (g := gb409) (o := .cells #[.string x410000_1, .string x410001_1, .string x410002_1, .string x410003_1, .string x410004_1, .string x410005_1] 29 (0, 0)) (by (with_reducible repeat (first | refine blk_drewN ?_ _ | refine blk_drew ?_ | refine blk_alloc ?_ _)); exact BK409.out) hb); have n2_ := Aside0.mk (blk_below (g := gb410) (o := .cells #[.string x411000_1, .string x411001_1, .string x411002_1, .string x411003_1, .string x411004_1, .string x411005_1] 29 (0, 0)) (by (with_reducible repeat (first | refine blk_drewN ?_ _ | refine blk_drew ?_ | refine blk_alloc ?_ _)); exact BK410.out) hb); have n3_ := Aside0.mk (below_step (by repeat (first | (with_reducible first | exact HB.out | apply below_alloc | apply pw_below_drewN | apply below_drew1 | refine below_set ?_ GE408.out | refine below_set ?_ GE409.out | refine below_set ?_ GE410.out) | exact HB.out)) hb); clear BK408; clear BK409; clear BK410; clear HB; have BK408 := n0_; have BK409 := n1_; have BK410 := n2_; have HB := n3_; clear n0_ n1_ n2_ n3_; (try clear hb); (try clear hb2); (try clear hk); (try clear hi); have hnb43 := NB409_410.out; have hnc43 := NB410_409.out; have hcz44_0 : w42.cell? ⟨gb409, 0, none⟩ = some (.string x410000_1) := (blk_cell BK409.out 0).trans rfl; have hcz44_1 : w42.cell? ⟨gb409, 1, none⟩ = some (.string x410001_1) := (blk_cell BK409.out 1).trans rfl; have hcz44_2 : w42.cell? ⟨gb409, 2, none⟩ = some (.string x410002_1) := (blk_cell BK409.out 2).trans rfl; have hcz44_3 : w42.cell? ⟨gb409, 3, none⟩ = some (.string x410003_1) := (blk_cell BK409.out 3).trans rfl; have hcz44_4 : w42.cell? ⟨gb409, 4, none⟩ = some (.string x410004_1) := (blk_cell BK409.out 4).trans rfl; have hcz44_5 : w42.cell? ⟨gb409, 5, none⟩ = some (.string x410005_1) := (blk_cell BK409.out 5).trans rfl; have hfz44_0 := blk_frozen BK409.out 0; have hfz44_1 := blk_frozen BK409.out 1; have hfz44_2 := blk_frozen BK409.out 2; have hfz44_3 := blk_frozen BK409.out 3; have hfz44_4 := blk_frozen BK409.out 4; have hfz44_5 := blk_frozen BK409.out 5; have hcz45_0 : w42.cell? ⟨gb408, 0, none⟩ = some (.string x409000_1) := (blk_cell BK408.out 0).trans rfl; have hcz45_1 : w42.cell? ⟨gb408, 1, none⟩ = some (.string x409001_1) := (blk_cell BK408.out 1).trans rfl; have hcz45_2 : w42.cell? ⟨gb408, 2, none⟩ = some (.string x409002_1) := (blk_cell BK408.out 2).trans rfl; have hcz45_3 : w42.cell? ⟨gb408, 3, none⟩ = some (.string x409003_1) := (blk_cell BK408.out 3).trans rfl; have hcz45_4 : w42.cell? ⟨gb408, 4, none⟩ = some (.string x409004_1) := (blk_cell BK408.out 4).trans rfl; have hcz45_5 : w42.cell? ⟨gb408, 5, none⟩ = some (.string x409005_1) := (blk_cell BK408.out 5).trans rfl; have hfz45_0 := blk_frozen BK408.out 0; have hfz45_1 := blk_frozen BK408.out 1; have hfz45_2 := blk_frozen BK408.out 2; have hfz45_3 := blk_frozen BK408.out 3; have hfz45_4 := blk_frozen BK408.out 4; have hfz45_5 := blk_frozen BK408.out 5) | (go_at_call 16; (with_reducible refine (tupl_Less.calls k1 x410000_1 x410001_1 x410002_1 x410003_1 x410004_1 x410005_1 x409000_1 x409001_1 x409002_1 x409003_1 x409004_1 x409005_1 false _ A28.out).mono ?_); rintro e w46 ⟨rfl, hb⟩; have n0_ := Aside0.mk (blk_below (g := gb408) (o := .cells #[.string x409000_1, .string x409001_1, .string x409002_1, .string x409003_1, .string x409004_1, .string x409005_1] 29 (0, 0)) (by (with_reducible repeat (first | refine blk_drewN ?_ _ | refine blk_drew ?_ | refine blk_alloc ?_ _)); exact BK408.out) hb); have n1_ := Aside0.mk (blk_below (g := gb409) (o := .cells #[.string x410000_1, .string x410001_1, .string x410002_1, .string x410003_1, .string x410004_1, .string x410005_1] 29 (0, 0)) (by (with_reducible repeat (first | refine blk_drewN ?_ _ | refine blk_drew ?_ | refine blk_alloc ?_ _)); exact BK409.out) hb); have n2_ := Aside0.mk (blk_below (g := gb410) (o := .cells #[.string x411000_1, .string x411001_1, .string x411002_1, .string x411003_1, .string x411004_1, .string x411005_1] 29 (0, 0)) (by (with_reducible repeat (first | refine blk_drewN ?_ _ | refine blk_drew ?_ | refine blk_alloc ?_ _)); exact BK410.out) hb); have n3_ := Aside0.mk (below_step (by repeat (first | (with_reducible first | exact HB.out | apply below_alloc | apply pw_below_drewN | apply below_drew1 | refine below_set ?_ GE408.out | refine below_set ?_ GE409.out | refine below_set ?_ GE410.out) | exact HB.out)) hb); clear BK408; clear BK409; clear BK410; clear HB; have BK408 := n0_; have BK409 := n1_; have BK410 := n2_; have HB := n3_; clear n0_ n1_ n2_ n3_; (try clear hb); (try clear hb2); (try clear hk); (try clear hi); have hcz47_0 : w46.cell? ⟨gb408, 0, none⟩ = some (.string x409000_1) := (blk_cell BK408.out 0).trans rfl; have hcz47_1 : w46.cell? ⟨gb408, 1, none⟩ = some (.string x409001_1) := (blk_cell BK408.out 1).trans rfl; have hcz47_2 : w46.cell? ⟨gb408, 2, none⟩ = some (.string x409002_1) := (blk_cell BK408.out 2).trans rfl; have hcz47_3 : w46.cell? ⟨gb408, 3, none⟩ = some (.string x409003_1) := (blk_cell BK408.out 3).trans rfl; have hcz47_4 : w46.cell? ⟨gb408, 4, none⟩ = some (.string x409004_1) := (blk_cell BK408.out 4).trans rfl; have hcz47_5 : w46.cell? ⟨gb408, 5, none⟩ = some (.string x409005_1) := (blk_cell BK408.out 5).trans rfl; have hfz47_0 := blk_frozen BK408.out 0; have hfz47_1 := blk_frozen BK408.out 1; have hfz47_2 := blk_frozen BK408.out 2; have hfz47_3 := blk_frozen BK408.out 3; have hfz47_4 := blk_frozen BK408.out 4; have hfz47_5 := blk_frozen BK408.out 5; have hcz48_0 : w46.cell? ⟨gb409, 0, none⟩ = some (.string x410000_1) := (blk_cell BK409.out 0).trans rfl; have hcz48_1 : w46.cell? ⟨gb409, 1, none⟩ = some (.string x410001_1) := (blk_cell BK409.out 1).trans rfl; have hcz48_2 : w46.cell? ⟨gb409, 2, none⟩ = some (.string x410002_1) := (blk_cell BK409.out 2).trans rfl; have hcz48_3 : w46.cell? ⟨gb409, 3, none⟩ = some (.string x410003_1) := (blk_cell BK409.out 3).trans rfl; have hcz48_4 : w46.cell? ⟨gb409, 4, none⟩ = some (.string x410004_1) := (blk_cell BK409.out 4).trans rfl; have hcz48_5 : w46.cell? ⟨gb409, 5, none⟩ = some (.string x410005_1) := (blk_cell BK409.out 5).trans rfl; have hfz48_0 := blk_frozen BK409.out 0; have hfz48_1 := blk_frozen BK409.out 1; have hfz48_2 := blk_frozen BK409.out 2; have hfz48_3 := blk_frozen BK409.out 3; have hfz48_4 := blk_frozen BK409.out 4; have hfz48_5 := blk_frozen BK409.out 5))
                      go_meet
                      case rel => exact ⟨_, (false), (by first | rfl | (simp; done) | (simp [*]; done)), H', ⟨by have := HK1.out; first | omega | exact Nat.le_refl _⟩, ⟨by (with_reducible repeat (first | refine blk_drewN ?_ _ | refine blk_drew ?_ | refine blk_alloc ?_ _)); exact BK408.out⟩, ⟨by (with_reducible repeat (first | refine blk_drewN ?_ _ | refine blk_drew ?_ | refine blk_alloc ?_ _)); exact BK409.out⟩, ⟨by (with_reducible repeat (first | refine blk_drewN ?_ _ | refine blk_drew ?_ | refine blk_alloc ?_ _)); exact BK410.out⟩, ⟨by repeat (first | (with_reducible first | exact HB.out | apply below_alloc | apply pw_below_drewN | apply below_drew1 | refine below_set ?_ GE408.out | refine below_set ?_ GE409.out | refine below_set ?_ GE410.out) | exact HB.out)⟩⟩
                    · rw [if_neg c38] at H
                      have c38b0 : ((!(x409000_1.toList == x410000_1.toList) || (!(x409001_1.toList == x410001_1.toList))) || (!(x409002_1.toList == x410002_1.toList) || ((!(x409003_1.toList == x410003_1.toList) || (!(x409004_1.toList == x410004_1.toList) || (!(x409005_1.toList == x410005_1.toList))))))) = false := by simpa using c38
                      clear c38
                      (first | rw [c38b0] | (simp only [i64_w, i32_w]; rw [c38b0]) | skip)
                      have H' := Aside0.mk H
                      clear H
                      have hnb49 := NB408_409.out
                      have hnc49 := NB409_408.out
                      have hnb50 := NB408_410.out
                      have hnc50 := NB410_408.out
                      have hcz51_0 : w18.cell? ⟨gb408, 0, none⟩ = some (.string x409000_1) := (blk_cell BK408.out 0).trans rfl
                      have hcz51_1 : w18.cell? ⟨gb408, 1, none⟩ = some (.string x409001_1) := (blk_cell BK408.out 1).trans rfl
                      have hcz51_2 : w18.cell? ⟨gb408, 2, none⟩ = some (.string x409002_1) := (blk_cell BK408.out 2).trans rfl
                      have hcz51_3 : w18.cell? ⟨gb408, 3, none⟩ = some (.string x409003_1) := (blk_cell BK408.out 3).trans rfl
                      have hcz51_4 : w18.cell? ⟨gb408, 4, none⟩ = some (.string x409004_1) := (blk_cell BK408.out 4).trans rfl
                      have hcz51_5 : w18.cell? ⟨gb408, 5, none⟩ = some (.string x409005_1) := (blk_cell BK408.out 5).trans rfl
                      have hfz51_0 := blk_frozen BK408.out 0
                      have hfz51_1 := blk_frozen BK408.out 1
                      have hfz51_2 := blk_frozen BK408.out 2
                      have hfz51_3 := blk_frozen BK408.out 3
                      have hfz51_4 := blk_frozen BK408.out 4
                      have hfz51_5 := blk_frozen BK408.out 5
                      go_wp2_with (first | (go_at_call 16; (with_reducible refine (tupl_Less.calls k1 x409000_1 x409001_1 x409002_1 x409003_1 x409004_1 x409005_1 x409000_1 x409001_1 x409002_1 x409003_1 x409004_1 x409005_1 false _ A22.out).mono ?_); rintro e w52 ⟨rfl, hb⟩; have n0_ := Aside0.mk (blk_below (g := gb408) (o := .cells #[.string x409000_1, .string x409001_1, .string x409002_1, .string x409003_1, .string x409004_1, .string x409005_1] 29 (0, 0)) (by (with_reducible repeat (first | refine blk_drewN ?_ _ | refine blk_drew ?_ | refine blk_alloc ?_ _)); exact BK408.out) hb); have n1_ := Aside0.mk (blk_below (g := gb409) (o := .cells #[.string x410000_1, .string x410001_1, .string x410002_1, .string x410003_1, .string x410004_1, .string x410005_1] 29 (0, 0)) (by (with_reducible repeat (first | refine blk_drewN ?_ _ | refine blk_drew ?_ | refine blk_alloc ?_ _)); exact BK409.out) hb); have n2_ := Aside0.mk (blk_below (g := gb410) (o := .cells #[.string x411000_1, .string x411001_1, .string x411002_1, .string x411003_1, .string x411004_1, .string x411005_1] 29 (0, 0)) (by (with_reducible repeat (first | refine blk_drewN ?_ _ | refine blk_drew ?_ | refine blk_alloc ?_ _)); exact BK410.out) hb); have n3_ := Aside0.mk (below_step (by repeat (first | (with_reducible first | exact HB.out | apply below_alloc | apply pw_below_drewN | apply below_drew1 | refine below_set ?_ GE408.out | refine below_set ?_ GE409.out | refine below_set ?_ GE410.out) | exact HB.out)) hb); clear BK408; clear BK409; clear BK410; clear HB; have BK408 := n0_; have BK409 := n1_; have BK410 := n2_; have HB := n3_; clear n0_ n1_ n2_ n3_; (try clear hb); (try clear hb2); (try clear hk); (try clear hi); have hnb53 := NB409_410.out; have hnc53 := NB410_409.out; have hcz54_0 : w52.cell? ⟨gb409, 0, none⟩ = some (.string x410000_1) := (blk_cell BK409.out 0).trans rfl; have hcz54_1 : w52.cell? ⟨gb409, 1, none⟩ = some (.string x410001_1) := (blk_cell BK409.out 1).trans rfl; have hcz54_2 : w52.cell? ⟨gb409, 2, none⟩ = some (.string x410002_1) := (blk_cell BK409.out 2).trans rfl; have hcz54_3 : w52.cell? ⟨gb409, 3, none⟩ = some (.string x410003_1) := (blk_cell BK409.out 3).trans rfl; have hcz54_4 : w52.cell? ⟨gb409, 4, none⟩ = some (.string x410004_1) := (blk_cell BK409.out 4).trans rfl; have hcz54_5 : w52.cell? ⟨gb409, 5, none⟩ = some (.string x410005_1) := (blk_cell BK409.out 5).trans rfl; have hfz54_0 := blk_frozen BK409.out 0; have hfz54_1 := blk_frozen BK409.out 1; have hfz54_2 := blk_frozen BK409.out 2; have hfz54_3 := blk_frozen BK409.out 3; have hfz54_4 := blk_frozen BK409.out 4; have hfz54_5 := blk_frozen BK409.out 5; have hcz55_0 : w52.cell? ⟨gb408, 0, none⟩ = some (.string x409000_1) := (blk_cell BK408.out 0).trans rfl; have hcz55_1 : w52.cell? ⟨gb408, 1, none⟩ = some (.string x409001_1) := (blk_cell BK408.out 1).trans rfl; have hcz55_2 : w52.cell? ⟨gb408, 2, none⟩ = some (.string x409002_1) := (blk_cell BK408.out 2).trans rfl; have hcz55_3 : w52.cell? ⟨gb408, 3, none⟩ = some (.string x409003_1) := (blk_cell BK408.out 3).trans rfl; have hcz55_4 : w52.cell? ⟨gb408, 4, none⟩ = some (.string x409004_1) := (blk_cell BK408.out 4).trans rfl; have hcz55_5 : w52.cell? ⟨gb408, 5, none⟩ = some (.string x409005_1) := (blk_cell BK408.out 5).trans rfl; have hfz55_0 := blk_frozen BK408.out 0; have hfz55_1 := blk_frozen BK408.out 1; have hfz55_2 := blk_frozen BK408.out 2; have hfz55_3 := blk_frozen BK408.out 3; have hfz55_4 := blk_frozen BK408.out 4; have hfz55_5 := blk_frozen BK408.out 5) | (go_at_call 16; (with_reducible refine (tupl_Less.calls k1 x410000_1 x410001_1 x410002_1 x410003_1 x410004_1 x410005_1 x409000_1 x409001_1 x409002_1 x409003_1 x409004_1 x409005_1 false _ A28.out).mono ?_); rintro e w56 ⟨rfl, hb⟩; have n0_ := Aside0.mk (blk_below (g := gb408) (o := .cells #[.string x409000_1, .string x409001_1, .string x409002_1, .string x409003_1, .string x409004_1, .string x409005_1] 29 (0, 0)) (by (with_reducible repeat (first | refine blk_drewN ?_ _ | refine blk_drew ?_ | refine blk_alloc ?_ _)); exact BK408.out) hb); have n1_ := Aside0.mk (blk_below (g := gb409) (o := .cells #[.string x410000_1, .string x410001_1, .string x410002_1, .string x410003_1, .string x410004_1, .string x410005_1] 29 (0, 0)) (by (with_reducible repeat (first | refine blk_drewN ?_ _ | refine blk_drew ?_ | refine blk_alloc ?_ _)); exact BK409.out) hb); have n2_ := Aside0.mk (blk_below (g := gb410) (o := .cells #[.string x411000_1, .string x411001_1, .string x411002_1, .string x411003_1, .string x411004_1, .string x411005_1] 29 (0, 0)) (by (with_reducible repeat (first | refine blk_drewN ?_ _ | refine blk_drew ?_ | refine blk_alloc ?_ _)); exact BK410.out) hb); have n3_ := Aside0.mk (below_step (by repeat (first | (with_reducible first | exact HB.out | apply below_alloc | apply pw_below_drewN | apply below_drew1 | refine below_set ?_ GE408.out | refine below_set ?_ GE409.out | refine below_set ?_ GE410.out) | exact HB.out)) hb); clear BK408; clear BK409; clear BK410; clear HB; have BK408 := n0_; have BK409 := n1_; have BK410 := n2_; have HB := n3_; clear n0_ n1_ n2_ n3_; (try clear hb); (try clear hb2); (try clear hk); (try clear hi); have hcz57_0 : w56.cell? ⟨gb408, 0, none⟩ = some (.string x409000_1) := (blk_cell BK408.out 0).trans rfl; have hcz57_1 : w56.cell? ⟨gb408, 1, none⟩ = some (.string x409001_1) := (blk_cell BK408.out 1).trans rfl; have hcz57_2 : w56.cell? ⟨gb408, 2, none⟩ = some (.string x409002_1) := (blk_cell BK408.out 2).trans rfl; have hcz57_3 : w56.cell? ⟨gb408, 3, none⟩ = some (.string x409003_1) := (blk_cell BK408.out 3).trans rfl; have hcz57_4 : w56.cell? ⟨gb408, 4, none⟩ = some (.string x409004_1) := (blk_cell BK408.out 4).trans rfl; have hcz57_5 : w56.cell? ⟨gb408, 5, none⟩ = some (.string x409005_1) := (blk_cell BK408.out 5).trans rfl; have hfz57_0 := blk_frozen BK408.out 0; have hfz57_1 := blk_frozen BK408.out 1; have hfz57_2 := blk_frozen BK408.out 2; have hfz57_3 := blk_frozen BK408.out 3; have hfz57_4 := blk_frozen BK408.out 4; have hfz57_5 := blk_frozen BK408.out 5; have hcz58_0 : w56.cell? ⟨gb409, 0, none⟩ = some (.string x410000_1) := (blk_cell BK409.out 0).trans rfl; have hcz58_1 : w56.cell? ⟨gb409, 1, none⟩ = some (.string x410001_1) := (blk_cell BK409.out 1).trans rfl; have hcz58_2 : w56.cell? ⟨gb409, 2, none⟩ = some (.string x410002_1) := (blk_cell BK409.out 2).trans rfl; have hcz58_3 : w56.cell? ⟨gb409, 3, none⟩ = some (.string x410003_1) := (blk_cell BK409.out 3).trans rfl; have hcz58_4 : w56.cell? ⟨gb409, 4, none⟩ = some (.string x410004_1) := (blk_cell BK409.out 4).trans rfl; have hcz58_5 : w56.cell? ⟨gb409, 5, none⟩ = some (.string x410005_1) := (blk_cell BK409.out 5).trans rfl; have hfz58_0 := blk_frozen BK409.out 0; have hfz58_1 := blk_frozen BK409.out 1; have hfz58_2 := blk_frozen BK409.out 2; have hfz58_3 := blk_frozen BK409.out 3; have hfz58_4 := blk_frozen BK409.out 4; have hfz58_5 := blk_frozen BK409.out 5))
                      go_meet
                      case rel => exact ⟨_, (false), (by first | rfl | (simp; done) | (simp [*]; done)), H', ⟨by have := HK1.out; first | omega | exact Nat.le_refl _⟩, ⟨by (with_reducible repeat (first | refine blk_drewN ?_ _ | refine blk_drew ?_ | refine blk_alloc ?_ _)); exact BK408.out⟩, ⟨by (with_reducible repeat (first | refine blk_drewN ?_ _ | refine blk_drew ?_ | refine blk_alloc ?_ _)); exact BK409.out⟩, ⟨by (with_reducible repeat (first | refine blk_drewN ?_ _ | refine blk_drew ?_ | refine blk_alloc ?_ _)); exact BK410.out⟩, ⟨by repeat (first | (with_reducible first | exact HB.out | apply below_alloc | apply pw_below_drewN | apply below_drew1 | refine below_set ?_ GE408.out | refine below_set ?_ GE409.out | refine below_set ?_ GE410.out) | exact HB.out)⟩⟩
              · replace c21 := Bool.eq_false_iff.mpr c21
                subst c21
                have H1 : (entaillaw2_TuplOrder.j1 k1 a3 a4 a5 x13_1 true) = some r := by rw [if_neg (show ¬ (false = true) by decide)] at H; exact H
                clear H
                have H := H1
                clear H1
                have H' := Aside0.mk H
                clear H
                go_wp2
                go_meet
                case rel => exact ⟨_, (true), (by first | rfl | (simp; done) | (simp [*]; done)), H', ⟨by have := HK1.out; first | omega | exact Nat.le_refl _⟩, ⟨by (with_reducible repeat (first | refine blk_drewN ?_ _ | refine blk_drew ?_ | refine blk_alloc ?_ _)); exact BK408.out⟩, ⟨by (with_reducible repeat (first | refine blk_drewN ?_ _ | refine blk_drew ?_ | refine blk_alloc ?_ _)); exact BK409.out⟩, ⟨by (with_reducible repeat (first | refine blk_drewN ?_ _ | refine blk_drew ?_ | refine blk_alloc ?_ _)); exact BK410.out⟩, ⟨by repeat (first | (with_reducible first | exact HB.out | apply below_alloc | apply pw_below_drewN | apply below_drew1 | refine below_set ?_ GE408.out | refine below_set ?_ GE409.out | refine below_set ?_ GE410.out) | exact HB.out)⟩⟩
            · replace c20 := Bool.eq_false_iff.mpr c20
              subst c20
              have H1 : ((tupl_Less.f k1 x409000_1 x409001_1 x409002_1 x409003_1 x409004_1 x409005_1 x409000_1 x409001_1 x409002_1 x409003_1 x409004_1 x409005_1).bind fun t417 => (if t417 = true then (entaillaw2_TuplOrder.j1 k1 a3 a4 a5 x13_1 true) else ((tupl_Less.f k1 x410000_1 x410001_1 x410002_1 x410003_1 x410004_1 x410005_1 x409000_1 x409001_1 x409002_1 x409003_1 x409004_1 x409005_1).bind fun t418 => (if t418 = true then (entaillaw2_TuplOrder.j1 k1 a3 a4 a5 x13_1 true) else (if ((!(x409000_1.toList == x410000_1.toList) || (!(x409001_1.toList == x410001_1.toList))) || (!(x409002_1.toList == x410002_1.toList) || ((!(x409003_1.toList == x410003_1.toList) || (!(x409004_1.toList == x410004_1.toList) || (!(x409005_1.toList == x410005_1.toList))))))) = true then (entaillaw2_TuplOrder.j1 k1 a3 a4 a5 x13_1 false) else (entaillaw2_TuplOrder.j1 k1 a3 a4 a5 x13_1 false)))))) = some r := by rw [if_neg (show ¬ (false = true) by decide)] at H; exact H
              clear H
              have H := H1
              clear H1
              replace H := Option.bind_eq_some_iff.mp H
              obtain ⟨t417, A590, H⟩ := H
              replace H : (if t417 = true then (entaillaw2_TuplOrder.j1 k1 a3 a4 a5 x13_1 true) else ((tupl_Less.f k1 x410000_1 x410001_1 x410002_1 x410003_1 x410004_1 x410005_1 x409000_1 x409001_1 x409002_1 x409003_1 x409004_1 x409005_1).bind fun t418 => (if t418 = true then (entaillaw2_TuplOrder.j1 k1 a3 a4 a5 x13_1 true) else (if ((!(x409000_1.toList == x410000_1.toList) || (!(x409001_1.toList == x410001_1.toList))) || (!(x409002_1.toList == x410002_1.toList) || ((!(x409003_1.toList == x410003_1.toList) || (!(x409004_1.toList == x410004_1.toList) || (!(x409005_1.toList == x410005_1.toList))))))) = true then (entaillaw2_TuplOrder.j1 k1 a3 a4 a5 x13_1 false) else (entaillaw2_TuplOrder.j1 k1 a3 a4 a5 x13_1 false))))) = some r := H
              have A59 := Aside0.mk A590
              clear A590
              by_cases c60 : t417 = true
              · subst c60
                have H1 : (entaillaw2_TuplOrder.j1 k1 a3 a4 a5 x13_1 true) = some r := by rw [if_pos rfl] at H; exact H
                clear H
                have H := H1
                clear H1
                have H' := Aside0.mk H
                clear H
                have hnb61 := NB408_409.out
                have hnc61 := NB409_408.out
                have hnb62 := NB408_410.out
                have hnc62 := NB410_408.out
                have hcz63_0 : w18.cell? ⟨gb408, 0, none⟩ = some (.string x409000_1) := (blk_cell BK408.out 0).trans rfl
                have hcz63_1 : w18.cell? ⟨gb408, 1, none⟩ = some (.string x409001_1) := (blk_cell BK408.out 1).trans rfl
                have hcz63_2 : w18.cell? ⟨gb408, 2, none⟩ = some (.string x409002_1) := (blk_cell BK408.out 2).trans rfl
                have hcz63_3 : w18.cell? ⟨gb408, 3, none⟩ = some (.string x409003_1) := (blk_cell BK408.out 3).trans rfl
                have hcz63_4 : w18.cell? ⟨gb408, 4, none⟩ = some (.string x409004_1) := (blk_cell BK408.out 4).trans rfl
                have hcz63_5 : w18.cell? ⟨gb408, 5, none⟩ = some (.string x409005_1) := (blk_cell BK408.out 5).trans rfl
                have hfz63_0 := blk_frozen BK408.out 0
                have hfz63_1 := blk_frozen BK408.out 1
                have hfz63_2 := blk_frozen BK408.out 2
                have hfz63_3 := blk_frozen BK408.out 3
                have hfz63_4 := blk_frozen BK408.out 4
                have hfz63_5 := blk_frozen BK408.out 5
                go_wp2_with (first | (go_at_call 16; (with_reducible refine (tupl_Less.calls k1 x409000_1 x409001_1 x409002_1 x409003_1 x409004_1 x409005_1 x409000_1 x409001_1 x409002_1 x409003_1 x409004_1 x409005_1 true _ A59.out).mono ?_); rintro e w64 ⟨rfl, hb⟩; have n0_ := Aside0.mk (blk_below (g := gb408) (o := .cells #[.string x409000_1, .string x409001_1, .string x409002_1, .string x409003_1, .string x409004_1, .string x409005_1] 29 (0, 0)) (by (with_reducible repeat (first | refine blk_drewN ?_ _ | refine blk_drew ?_ | refine blk_alloc ?_ _)); exact BK408.out) hb); have n1_ := Aside0.mk (blk_below (g := gb409) (o := .cells #[.string x410000_1, .string x410001_1, .string x410002_1, .string x410003_1, .string x410004_1, .string x410005_1] 29 (0, 0)) (by (with_reducible repeat (first | refine blk_drewN ?_ _ | refine blk_drew ?_ | refine blk_alloc ?_ _)); exact BK409.out) hb); have n2_ := Aside0.mk (blk_below (g := gb410) (o := .cells #[.string x411000_1, .string x411001_1, .string x411002_1, .string x411003_1, .string x411004_1, .string x411005_1] 29 (0, 0)) (by (with_reducible repeat (first | refine blk_drewN ?_ _ | refine blk_drew ?_ | refine blk_alloc ?_ _)); exact BK410.out) hb); have n3_ := Aside0.mk (below_step (by repeat (first | (with_reducible first | exact HB.out | apply below_alloc | apply pw_below_drewN | apply below_drew1 | refine below_set ?_ GE408.out | refine below_set ?_ GE409.out | refine below_set ?_ GE410.out) | exact HB.out)) hb); clear BK408; clear BK409; clear BK410; clear HB; have BK408 := n0_; have BK409 := n1_; have BK410 := n2_; have HB := n3_; clear n0_ n1_ n2_ n3_; (try clear hb); (try clear hb2); (try clear hk); (try clear hi)))
                go_meet
                case rel => exact ⟨_, (true), (by first | rfl | (simp; done) | (simp [*]; done)), H', ⟨by have := HK1.out; first | omega | exact Nat.le_refl _⟩, ⟨by (with_reducible repeat (first | refine blk_drewN ?_ _ | refine blk_drew ?_ | refine blk_alloc ?_ _)); exact BK408.out⟩, ⟨by (with_reducible repeat (first | refine blk_drewN ?_ _ | refine blk_drew ?_ | refine blk_alloc ?_ _)); exact BK409.out⟩, ⟨by (with_reducible repeat (first | refine blk_drewN ?_ _ | refine blk_drew ?_ | refine blk_alloc ?_ _)); exact BK410.out⟩, ⟨by repeat (first | (with_reducible first | exact HB.out | apply below_alloc | apply pw_below_drewN | apply below_drew1 | refine below_set ?_ GE408.out | refine below_set ?_ GE409.out | refine below_set ?_ GE410.out) | exact HB.out)⟩⟩
              · replace c60 := Bool.eq_false_iff.mpr c60
                subst c60
                have H1 : ((tupl_Less.f k1 x410000_1 x410001_1 x410002_1 x410003_1 x410004_1 x410005_1 x409000_1 x409001_1 x409002_1 x409003_1 x409004_1 x409005_1).bind fun t418 => (if t418 = true then (entaillaw2_TuplOrder.j1 k1 a3 a4 a5 x13_1 true) else (if ((!(x409000_1.toList == x410000_1.toList) || (!(x409001_1.toList == x410001_1.toList))) || (!(x409002_1.toList == x410002_1.toList) || ((!(x409003_1.toList == x410003_1.toList) || (!(x409004_1.toList == x410004_1.toList) || (!(x409005_1.toList == x410005_1.toList))))))) = true then (entaillaw2_TuplOrder.j1 k1 a3 a4 a5 x13_1 false) else (entaillaw2_TuplOrder.j1 k1 a3 a4 a5 x13_1 false)))) = some r := by rw [if_neg (show ¬ (false = true) by decide)] at H; exact H
                clear H
                have H := H1
                clear H1
                replace H := Option.bind_eq_some_iff.mp H
                obtain ⟨t418, A650, H⟩ := H
                replace H : (if t418 = true then (entaillaw2_TuplOrder.j1 k1 a3 a4 a5 x13_1 true) else (if ((!(x409000_1.toList == x410000_1.toList) || (!(x409001_1.toList == x410001_1.toList))) || (!(x409002_1.toList == x410002_1.toList) || ((!(x409003_1.toList == x410003_1.toList) || (!(x409004_1.toList == x410004_1.toList) || (!(x409005_1.toList == x410005_1.toList))))))) = true then (entaillaw2_TuplOrder.j1 k1 a3 a4 a5 x13_1 false) else (entaillaw2_TuplOrder.j1 k1 a3 a4 a5 x13_1 false))) = some r := H
                have A65 := Aside0.mk A650
                clear A650
                by_cases c66 : t418 = true
                · subst c66
                  have H1 : (entaillaw2_TuplOrder.j1 k1 a3 a4 a5 x13_1 true) = some r := by rw [if_pos rfl] at H; exact H
                  clear H
                  have H := H1
                  clear H1
                  have H' := Aside0.mk H
                  clear H
                  have hnb67 := NB408_409.out
                  have hnc67 := NB409_408.out
                  have hnb68 := NB408_410.out
                  have hnc68 := NB410_408.out
                  have hcz69_0 : w18.cell? ⟨gb408, 0, none⟩ = some (.string x409000_1) := (blk_cell BK408.out 0).trans rfl
                  have hcz69_1 : w18.cell? ⟨gb408, 1, none⟩ = some (.string x409001_1) := (blk_cell BK408.out 1).trans rfl
                  have hcz69_2 : w18.cell? ⟨gb408, 2, none⟩ = some (.string x409002_1) := (blk_cell BK408.out 2).trans rfl
                  have hcz69_3 : w18.cell? ⟨gb408, 3, none⟩ = some (.string x409003_1) := (blk_cell BK408.out 3).trans rfl
                  have hcz69_4 : w18.cell? ⟨gb408, 4, none⟩ = some (.string x409004_1) := (blk_cell BK408.out 4).trans rfl
                  have hcz69_5 : w18.cell? ⟨gb408, 5, none⟩ = some (.string x409005_1) := (blk_cell BK408.out 5).trans rfl
                  have hfz69_0 := blk_frozen BK408.out 0
                  have hfz69_1 := blk_frozen BK408.out 1
                  have hfz69_2 := blk_frozen BK408.out 2
                  have hfz69_3 := blk_frozen BK408.out 3
                  have hfz69_4 := blk_frozen BK408.out 4
                  have hfz69_5 := blk_frozen BK408.out 5
                  go_wp2_with (first | (go_at_call 16; (with_reducible refine (tupl_Less.calls k1 x409000_1 x409001_1 x409002_1 x409003_1 x409004_1 x409005_1 x409000_1 x409001_1 x409002_1 x409003_1 x409004_1 x409005_1 false _ A59.out).mono ?_); rintro e w70 ⟨rfl, hb⟩; have n0_ := Aside0.mk (blk_below (g := gb408) (o := .cells #[.string x409000_1, .string x409001_1, .string x409002_1, .string x409003_1, .string x409004_1, .string x409005_1] 29 (0, 0)) (by (with_reducible repeat (first | refine blk_drewN ?_ _ | refine blk_drew ?_ | refine blk_alloc ?_ _)); exact BK408.out) hb); have n1_ := Aside0.mk (blk_below (g := gb409) (o := .cells #[.string x410000_1, .string x410001_1, .string x410002_1, .string x410003_1, .string x410004_1, .string x410005_1] 29 (0, 0)) (by (with_reducible repeat (first | refine blk_drewN ?_ _ | refine blk_drew ?_ | refine blk_alloc ?_ _)); exact BK409.out) hb); have n2_ := Aside0.mk (blk_below (g := gb410) (o := .cells #[.string x411000_1, .string x411001_1, .string x411002_1, .string x411003_1, .string x411004_1, .string x411005_1] 29 (0, 0)) (by (with_reducible repeat (first | refine blk_drewN ?_ _ | refine blk_drew ?_ | refine blk_alloc ?_ _)); exact BK410.out) hb); have n3_ := Aside0.mk (below_step (by repeat (first | (with_reducible first | exact HB.out | apply below_alloc | apply pw_below_drewN | apply below_drew1 | refine below_set ?_ GE408.out | refine below_set ?_ GE409.out | refine below_set ?_ GE410.out) | exact HB.out)) hb); clear BK408; clear BK409; clear BK410; clear HB; have BK408 := n0_; have BK409 := n1_; have BK410 := n2_; have HB := n3_; clear n0_ n1_ n2_ n3_; (try clear hb); (try clear hb2); (try clear hk); (try clear hi); have hnb71 := NB409_410.out; have hnc71 := NB410_409.out; have hcz72_0 : w70.cell? ⟨gb409, 0, none⟩ = some (.string x410000_1) := (blk_cell BK409.out 0).trans rfl; have hcz72_1 : w70.cell? ⟨gb409, 1, none⟩ = some (.string x410001_1) := (blk_cell BK409.out 1).trans rfl; have hcz72_2 : w70.cell? ⟨gb409, 2, none⟩ = some (.string x410002_1) := (blk_cell BK409.out 2).trans rfl; have hcz72_3 : w70.cell? ⟨gb409, 3, none⟩ = some (.string x410003_1) := (blk_cell BK409.out 3).trans rfl; have hcz72_4 : w70.cell? ⟨gb409, 4, none⟩ = some (.string x410004_1) := (blk_cell BK409.out 4).trans rfl; have hcz72_5 : w70.cell? ⟨gb409, 5, none⟩ = some (.string x410005_1) := (blk_cell BK409.out 5).trans rfl; have hfz72_0 := blk_frozen BK409.out 0; have hfz72_1 := blk_frozen BK409.out 1; have hfz72_2 := blk_frozen BK409.out 2; have hfz72_3 := blk_frozen BK409.out 3; have hfz72_4 := blk_frozen BK409.out 4; have hfz72_5 := blk_frozen BK409.out 5; have hcz73_0 : w70.cell? ⟨gb408, 0, none⟩ = some (.string x409000_1) := (blk_cell BK408.out 0).trans rfl; have hcz73_1 : w70.cell? ⟨gb408, 1, none⟩ = some (.string x409001_1) := (blk_cell BK408.out 1).trans rfl; have hcz73_2 : w70.cell? ⟨gb408, 2, none⟩ = some (.string x409002_1) := (blk_cell BK408.out 2).trans rfl; have hcz73_3 : w70.cell? ⟨gb408, 3, none⟩ = some (.string x409003_1) := (blk_cell BK408.out 3).trans rfl; have hcz73_4 : w70.cell? ⟨gb408, 4, none⟩ = some (.string x409004_1) := (blk_cell BK408.out 4).trans rfl; have hcz73_5 : w70.cell? ⟨gb408, 5, none⟩ = some (.string x409005_1) := (blk_cell BK408.out 5).trans rfl; have hfz73_0 := blk_frozen BK408.out 0; have hfz73_1 := blk_frozen BK408.out 1; have hfz73_2 := blk_frozen BK408.out 2; have hfz73_3 := blk_frozen BK408.out 3; have hfz73_4 := blk_frozen BK408.out 4; have hfz73_5 := blk_frozen BK408.out 5) | (go_at_call 16; (with_reducible refine (tupl_Less.calls k1 x410000_1 x410001_1 x410002_1 x410003_1 x410004_1 x410005_1 x409000_1 x409001_1 x409002_1 x409003_1 x409004_1 x409005_1 true _ A65.out).mono ?_); rintro e w74 ⟨rfl, hb⟩; have n0_ := Aside0.mk (blk_below (g := gb408) (o := .cells #[.string x409000_1, .string x409001_1, .string x409002_1, .string x409003_1, .string x409004_1, .string x409005_1] 29 (0, 0)) (by (with_reducible repeat (first | refine blk_drewN ?_ _ | refine blk_drew ?_ | refine blk_alloc ?_ _)); exact BK408.out) hb); have n1_ := Aside0.mk (blk_below (g := gb409) (o := .cells #[.string x410000_1, .string x410001_1, .string x410002_1, .string x410003_1, .string x410004_1, .string x410005_1] 29 (0, 0)) (by (with_reducible repeat (first | refine blk_drewN ?_ _ | refine blk_drew ?_ | refine blk_alloc ?_ _)); exact BK409.out) hb); have n2_ := Aside0.mk (blk_below (g := gb410) (o := .cells #[.string x411000_1, .string x411001_1, .string x411002_1, .string x411003_1, .string x411004_1, .string x411005_1] 29 (0, 0)) (by (with_reducible repeat (first | refine blk_drewN ?_ _ | refine blk_drew ?_ | refine blk_alloc ?_ _)); exact BK410.out) hb); have n3_ := Aside0.mk (below_step (by repeat (first | (with_reducible first | exact HB.out | apply below_alloc | apply pw_below_drewN | apply below_drew1 | refine below_set ?_ GE408.out | refine below_set ?_ GE409.out | refine below_set ?_ GE410.out) | exact HB.out)) hb); clear BK408; clear BK409; clear BK410; clear HB; have BK408 := n0_; have BK409 := n1_; have BK410 := n2_; have HB := n3_; clear n0_ n1_ n2_ n3_; (try clear hb); (try clear hb2); (try clear hk); (try clear hi)))
                  go_meet
                  case rel => exact ⟨_, (true), (by first | rfl | (simp; done) | (simp [*]; done)), H', ⟨by have := HK1.out; first | omega | exact Nat.le_refl _⟩, ⟨by (with_reducible repeat (first | refine blk_drewN ?_ _ | refine blk_drew ?_ | refine blk_alloc ?_ _)); exact BK408.out⟩, ⟨by (with_reducible repeat (first | refine blk_drewN ?_ _ | refine blk_drew ?_ | refine blk_alloc ?_ _)); exact BK409.out⟩, ⟨by (with_reducible repeat (first | refine blk_drewN ?_ _ | refine blk_drew ?_ | refine blk_alloc ?_ _)); exact BK410.out⟩, ⟨by repeat (first | (with_reducible first | exact HB.out | apply below_alloc | apply pw_below_drewN | apply below_drew1 | refine below_set ?_ GE408.out | refine below_set ?_ GE409.out | refine below_set ?_ GE410.out) | exact HB.out)⟩⟩
                · replace c66 := Bool.eq_false_iff.mpr c66
                  subst c66
                  have H1 : (if ((!(x409000_1.toList == x410000_1.toList) || (!(x409001_1.toList == x410001_1.toList))) || (!(x409002_1.toList == x410002_1.toList) || ((!(x409003_1.toList == x410003_1.toList) || (!(x409004_1.toList == x410004_1.toList) || (!(x409005_1.toList == x410005_1.toList))))))) = true then (entaillaw2_TuplOrder.j1 k1 a3 a4 a5 x13_1 false) else (entaillaw2_TuplOrder.j1 k1 a3 a4 a5 x13_1 false)) = some r := by rw [if_neg (show ¬ (false = true) by decide)] at H; exact H
                  clear H
                  have H := H1
                  clear H1
                  by_cases c75 : ((!(x409000_1.toList == x410000_1.toList) || (!(x409001_1.toList == x410001_1.toList))) || (!(x409002_1.toList == x410002_1.toList) || ((!(x409003_1.toList == x410003_1.toList) || (!(x409004_1.toList == x410004_1.toList) || (!(x409005_1.toList == x410005_1.toList))))))) = true
                  · rw [if_pos c75] at H
                    have c75b0 : ((!(x409000_1.toList == x410000_1.toList) || (!(x409001_1.toList == x410001_1.toList))) || (!(x409002_1.toList == x410002_1.toList) || ((!(x409003_1.toList == x410003_1.toList) || (!(x409004_1.toList == x410004_1.toList) || (!(x409005_1.toList == x410005_1.toList))))))) = true := c75
                    clear c75
                    have H' := Aside0.mk H
                    clear H
                    have hnb76 := NB408_409.out
                    have hnc76 := NB409_408.out
                    have hnb77 := NB408_410.out
                    have hnc77 := NB410_408.out
                    have hcz78_0 : w18.cell? ⟨gb408, 0, none⟩ = some (.string x409000_1) := (blk_cell BK408.out 0).trans rfl
                    have hcz78_1 : w18.cell? ⟨gb408, 1, none⟩ = some (.string x409001_1) := (blk_cell BK408.out 1).trans rfl
                    have hcz78_2 : w18.cell? ⟨gb408, 2, none⟩ = some (.string x409002_1) := (blk_cell BK408.out 2).trans rfl
                    have hcz78_3 : w18.cell? ⟨gb408, 3, none⟩ = some (.string x409003_1) := (blk_cell BK408.out 3).trans rfl
                    have hcz78_4 : w18.cell? ⟨gb408, 4, none⟩ = some (.string x409004_1) := (blk_cell BK408.out 4).trans rfl
                    have hcz78_5 : w18.cell? ⟨gb408, 5, none⟩ = some (.string x409005_1) := (blk_cell BK408.out 5).trans rfl
                    have hfz78_0 := blk_frozen BK408.out 0
                    have hfz78_1 := blk_frozen BK408.out 1
                    have hfz78_2 := blk_frozen BK408.out 2
                    have hfz78_3 := blk_frozen BK408.out 3
                    have hfz78_4 := blk_frozen BK408.out 4
                    have hfz78_5 := blk_frozen BK408.out 5
                    go_wp2_with (first | (go_at_call 16; (with_reducible refine (tupl_Less.calls k1 x409000_1 x409001_1 x409002_1 x409003_1 x409004_1 x409005_1 x409000_1 x409001_1 x409002_1 x409003_1 x409004_1 x409005_1 false _ A59.out).mono ?_); rintro e w79 ⟨rfl, hb⟩; have n0_ := Aside0.mk (blk_below (g := gb408) (o := .cells #[.string x409000_1, .string x409001_1, .string x409002_1, .string x409003_1, .string x409004_1, .string x409005_1] 29 (0, 0)) (by (with_reducible repeat (first | refine blk_drewN ?_ _ | refine blk_drew ?_ | refine blk_alloc ?_ _)); exact BK408.out) hb); have n1_ := Aside0.mk (blk_below (g := gb409) (o := .cells #[.string x410000_1, .string x410001_1, .string x410002_1, .string x410003_1, .string x410004_1, .string x410005_1] 29 (0, 0)) (by (with_reducible repeat (first | refine blk_drewN ?_ _ | refine blk_drew ?_ | refine blk_alloc ?_ _)); exact BK409.out) hb); have n2_ := Aside0.mk (blk_below (g := gb410) (o := .cells #[.string x411000_1, .string x411001_1, .string x411002_1, .string x411003_1, .string x411004_1, .string x411005_1] 29 (0, 0)) (by (with_reducible repeat (first | refine blk_drewN ?_ _ | refine blk_drew ?_ | refine blk_alloc ?_ _)); exact BK410.out) hb); have n3_ := Aside0.mk (below_step (by repeat (first | (with_reducible first | exact HB.out | apply below_alloc | apply pw_below_drewN | apply below_drew1 | refine below_set ?_ GE408.out | refine below_set ?_ GE409.out | refine below_set ?_ GE410.out) | exact HB.out)) hb); clear BK408; clear BK409; clear BK410; clear HB; have BK408 := n0_; have BK409 := n1_; have BK410 := n2_; have HB := n3_; clear n0_ n1_ n2_ n3_; (try clear hb); (try clear hb2); (try clear hk); (try clear hi); have hnb80 := NB409_410.out; have hnc80 := NB410_409.out; have hcz81_0 : w79.cell? ⟨gb409, 0, none⟩ = some (.string x410000_1) := (blk_cell BK409.out 0).trans rfl; have hcz81_1 : w79.cell? ⟨gb409, 1, none⟩ = some (.string x410001_1) := (blk_cell BK409.out 1).trans rfl; have hcz81_2 : w79.cell? ⟨gb409, 2, none⟩ = some (.string x410002_1) := (blk_cell BK409.out 2).trans rfl; have hcz81_3 : w79.cell? ⟨gb409, 3, none⟩ = some (.string x410003_1) := (blk_cell BK409.out 3).trans rfl; have hcz81_4 : w79.cell? ⟨gb409, 4, none⟩ = some (.string x410004_1) := (blk_cell BK409.out 4).trans rfl; have hcz81_5 : w79.cell? ⟨gb409, 5, none⟩ = some (.string x410005_1) := (blk_cell BK409.out 5).trans rfl; have hfz81_0 := blk_frozen BK409.out 0; have hfz81_1 := blk_frozen BK409.out 1; have hfz81_2 := blk_frozen BK409.out 2; have hfz81_3 := blk_frozen BK409.out 3; have hfz81_4 := blk_frozen BK409.out 4; have hfz81_5 := blk_frozen BK409.out 5; have hcz82_0 : w79.cell? ⟨gb408, 0, none⟩ = some (.string x409000_1) := (blk_cell BK408.out 0).trans rfl; have hcz82_1 : w79.cell? ⟨gb408, 1, none⟩ = some (.string x409001_1) := (blk_cell BK408.out 1).trans rfl; have hcz82_2 : w79.cell? ⟨gb408, 2, none⟩ = some (.string x409002_1) := (blk_cell BK408.out 2).trans rfl; have hcz82_3 : w79.cell? ⟨gb408, 3, none⟩ = some (.string x409003_1) := (blk_cell BK408.out 3).trans rfl; have hcz82_4 : w79.cell? ⟨gb408, 4, none⟩ = some (.string x409004_1) := (blk_cell BK408.out 4).trans rfl; have hcz82_5 : w79.cell? ⟨gb408, 5, none⟩ = some (.string x409005_1) := (blk_cell BK408.out 5).trans rfl; have hfz82_0 := blk_frozen BK408.out 0; have hfz82_1 := blk_frozen BK408.out 1; have hfz82_2 := blk_frozen BK408.out 2; have hfz82_3 := blk_frozen BK408.out 3; have hfz82_4 := blk_frozen BK408.out 4; have hfz82_5 := blk_frozen BK408.out 5) | (go_at_call 16; (with_reducible refine (tupl_Less.calls k1 x410000_1 x410001_1 x410002_1 x410003_1 x410004_1 x410005_1 x409000_1 x409001_1 x409002_1 x409003_1 x409004_1 x409005_1 false _ A65.out).mono ?_); rintro e w83 ⟨rfl, hb⟩; have n0_ := Aside0.mk (blk_below (g := gb408) (o := .cells #[.string x409000_1, .string x409001_1, .string x409002_1, .string x409003_1, .string x409004_1, .string x409005_1] 29 (0, 0)) (by (with_reducible repeat (first | refine blk_drewN ?_ _ | refine blk_drew ?_ | refine blk_alloc ?_ _)); exact BK408.out) hb); have n1_ := Aside0.mk (blk_below (g := gb409) (o := .cells #[.string x410000_1, .string x410001_1, .string x410002_1, .string x410003_1, .string x410004_1, .string x410005_1] 29 (0, 0)) (by (with_reducible repeat (first | refine blk_drewN ?_ _ | refine blk_drew ?_ | refine blk_alloc ?_ _)); exact BK409.out) hb); have n2_ := Aside0.mk (blk_below (g := gb410) (o := .cells #[.string x411000_1, .string x411001_1, .string x411002_1, .string x411003_1, .string x411004_1, .string x411005_1] 29 (0, 0)) (by (with_reducible repeat (first | refine blk_drewN ?_ _ | refine blk_drew ?_ | refine blk_alloc ?_ _)); exact BK410.out) hb); have n3_ := Aside0.mk (below_step (by repeat (first | (with_reducible first | exact HB.out | apply below_alloc | apply pw_below_drewN | apply below_drew1 | refine below_set ?_ GE408.out | refine below_set ?_ GE409.out | refine below_set ?_ GE410.out) | exact HB.out)) hb); clear BK408; clear BK409; clear BK410; clear HB; have BK408 := n0_; have BK409 := n1_; have BK410 := n2_; have HB := n3_; clear n0_ n1_ n2_ n3_; (try clear hb); (try clear hb2); (try clear hk); (try clear hi); have hcz84_0 : w83.cell? ⟨gb408, 0, none⟩ = some (.string x409000_1) := (blk_cell BK408.out 0).trans rfl; have hcz84_1 : w83.cell? ⟨gb408, 1, none⟩ = some (.string x409001_1) := (blk_cell BK408.out 1).trans rfl; have hcz84_2 : w83.cell? ⟨gb408, 2, none⟩ = some (.string x409002_1) := (blk_cell BK408.out 2).trans rfl; have hcz84_3 : w83.cell? ⟨gb408, 3, none⟩ = some (.string x409003_1) := (blk_cell BK408.out 3).trans rfl; have hcz84_4 : w83.cell? ⟨gb408, 4, none⟩ = some (.string x409004_1) := (blk_cell BK408.out 4).trans rfl; have hcz84_5 : w83.cell? ⟨gb408, 5, none⟩ = some (.string x409005_1) := (blk_cell BK408.out 5).trans rfl; have hfz84_0 := blk_frozen BK408.out 0; have hfz84_1 := blk_frozen BK408.out 1; have hfz84_2 := blk_frozen BK408.out 2; have hfz84_3 := blk_frozen BK408.out 3; have hfz84_4 := blk_frozen BK408.out 4; have hfz84_5 := blk_frozen BK408.out 5; have hcz85_0 : w83.cell? ⟨gb409, 0, none⟩ = some (.string x410000_1) := (blk_cell BK409.out 0).trans rfl; have hcz85_1 : w83.cell? ⟨gb409, 1, none⟩ = some (.string x410001_1) := (blk_cell BK409.out 1).trans rfl; have hcz85_2 : w83.cell? ⟨gb409, 2, none⟩ = some (.string x410002_1) := (blk_cell BK409.out 2).trans rfl; have hcz85_3 : w83.cell? ⟨gb409, 3, none⟩ = some (.string x410003_1) := (blk_cell BK409.out 3).trans rfl; have hcz85_4 : w83.cell? ⟨gb409, 4, none⟩ = some (.string x410004_1) := (blk_cell BK409.out 4).trans rfl; have hcz85_5 : w83.cell? ⟨gb409, 5, none⟩ = some (.string x410005_1) := (blk_cell BK409.out 5).trans rfl; have hfz85_0 := blk_frozen BK409.out 0; have hfz85_1 := blk_frozen BK409.out 1; have hfz85_2 := blk_frozen BK409.out 2; have hfz85_3 := blk_frozen BK409.out 3; have hfz85_4 := blk_frozen BK409.out 4; have hfz85_5 := blk_frozen BK409.out 5))
                    go_meet
                    case rel => exact ⟨_, (false), (by first | rfl | (simp; done) | (simp [*]; done)), H', ⟨by have := HK1.out; first | omega | exact Nat.le_refl _⟩, ⟨by (with_reducible repeat (first | refine blk_drewN ?_ _ | refine blk_drew ?_ | refine blk_alloc ?_ _)); exact BK408.out⟩, ⟨by (with_reducible repeat (first | refine blk_drewN ?_ _ | refine blk_drew ?_ | refine blk_alloc ?_ _)); exact BK409.out⟩, ⟨by (with_reducible repeat (first | refine blk_drewN ?_ _ | refine blk_drew ?_ | refine blk_alloc ?_ _)); exact BK410.out⟩, ⟨by repeat (first | (with_reducible first | exact HB.out | apply below_alloc | apply pw_below_drewN | apply below_drew1 | refine below_set ?_ GE408.out | refine below_set ?_ GE409.out | refine below_set ?_ GE410.out) | exact HB.out)⟩⟩
                  · rw [if_neg c75] at H
                    have c75b0 : ((!(x409000_1.toList == x410000_1.toList) || (!(x409001_1.toList == x410001_1.toList))) || (!(x409002_1.toList == x410002_1.toList) || ((!(x409003_1.toList == x410003_1.toList) || (!(x409004_1.toList == x410004_1.toList) || (!(x409005_1.toList == x410005_1.toList))))))) = false := by simpa using c75
                    clear c75
                    have H' := Aside0.mk H
                    clear H
                    have hnb86 := NB408_409.out
                    have hnc86 := NB409_408.out
                    have hnb87 := NB408_410.out
                    have hnc87 := NB410_408.out
                    have hcz88_0 : w18.cell? ⟨gb408, 0, none⟩ = some (.string x409000_1) := (blk_cell BK408.out 0).trans rfl
                    have hcz88_1 : w18.cell? ⟨gb408, 1, none⟩ = some (.string x409001_1) := (blk_cell BK408.out 1).trans rfl
                    have hcz88_2 : w18.cell? ⟨gb408, 2, none⟩ = some (.string x409002_1) := (blk_cell BK408.out 2).trans rfl
                    have hcz88_3 : w18.cell? ⟨gb408, 3, none⟩ = some (.string x409003_1) := (blk_cell BK408.out 3).trans rfl
                    have hcz88_4 : w18.cell? ⟨gb408, 4, none⟩ = some (.string x409004_1) := (blk_cell BK408.out 4).trans rfl
                    have hcz88_5 : w18.cell? ⟨gb408, 5, none⟩ = some (.string x409005_1) := (blk_cell BK408.out 5).trans rfl
                    have hfz88_0 := blk_frozen BK408.out 0
                    have hfz88_1 := blk_frozen BK408.out 1
                    have hfz88_2 := blk_frozen BK408.out 2
                    have hfz88_3 := blk_frozen BK408.out 3
                    have hfz88_4 := blk_frozen BK408.out 4
                    have hfz88_5 := blk_frozen BK408.out 5
                    go_wp2_with (first | (go_at_call 16; (with_reducible refine (tupl_Less.calls k1 x409000_1 x409001_1 x409002_1 x409003_1 x409004_1 x409005_1 x409000_1 x409001_1 x409002_1 x409003_1 x409004_1 x409005_1 false _ A59.out).mono ?_); rintro e w89 ⟨rfl, hb⟩; have n0_ := Aside0.mk (blk_below (g := gb408) (o := .cells #[.string x409000_1, .string x409001_1, .string x409002_1, .string x409003_1, .string x409004_1, .string x409005_1] 29 (0, 0)) (by (with_reducible repeat (first | refine blk_drewN ?_ _ | refine blk_drew ?_ | refine blk_alloc ?_ _)); exact BK408.out) hb); have n1_ := Aside0.mk (blk_below (g := gb409) (o := .cells #[.string x410000_1, .string x410001_1, .string x410002_1, .string x410003_1, .string x410004_1, .string x410005_1] 29 (0, 0)) (by (with_reducible repeat (first | refine blk_drewN ?_ _ | refine blk_drew ?_ | refine blk_alloc ?_ _)); exact BK409.out) hb); have n2_ := Aside0.mk (blk_below (g := gb410) (o := .cells #[.string x411000_1, .string x411001_1, .string x411002_1, .string x411003_1, .string x411004_1, .string x411005_1] 29 (0, 0)) (by (with_reducible repeat (first | refine blk_drewN ?_ _ | refine blk_drew ?_ | refine blk_alloc ?_ _)); exact BK410.out) hb); have n3_ := Aside0.mk (below_step (by repeat (first | (with_reducible first | exact HB.out | apply below_alloc | apply pw_below_drewN | apply below_drew1 | refine below_set ?_ GE408.out | refine below_set ?_ GE409.out | refine below_set ?_ GE410.out) | exact HB.out)) hb); clear BK408; clear BK409; clear BK410; clear HB; have BK408 := n0_; have BK409 := n1_; have BK410 := n2_; have HB := n3_; clear n0_ n1_ n2_ n3_; (try clear hb); (try clear hb2); (try clear hk); (try clear hi); have hnb90 := NB409_410.out; have hnc90 := NB410_409.out; have hcz91_0 : w89.cell? ⟨gb409, 0, none⟩ = some (.string x410000_1) := (blk_cell BK409.out 0).trans rfl; have hcz91_1 : w89.cell? ⟨gb409, 1, none⟩ = some (.string x410001_1) := (blk_cell BK409.out 1).trans rfl; have hcz91_2 : w89.cell? ⟨gb409, 2, none⟩ = some (.string x410002_1) := (blk_cell BK409.out 2).trans rfl; have hcz91_3 : w89.cell? ⟨gb409, 3, none⟩ = some (.string x410003_1) := (blk_cell BK409.out 3).trans rfl; have hcz91_4 : w89.cell? ⟨gb409, 4, none⟩ = some (.string x410004_1) := (blk_cell BK409.out 4).trans rfl; have hcz91_5 : w89.cell? ⟨gb409, 5, none⟩ = some (.string x410005_1) := (blk_cell BK409.out 5).trans rfl; have hfz91_0 := blk_frozen BK409.out 0; have hfz91_1 := blk_frozen BK409.out 1; have hfz91_2 := blk_frozen BK409.out 2; have hfz91_3 := blk_frozen BK409.out 3; have hfz91_4 := blk_frozen BK409.out 4; have hfz91_5 := blk_frozen BK409.out 5; have hcz92_0 : w89.cell? ⟨gb408, 0, none⟩ = some (.string x409000_1) := (blk_cell BK408.out 0).trans rfl; have hcz92_1 : w89.cell? ⟨gb408, 1, none⟩ = some (.string x409001_1) := (blk_cell BK408.out 1).trans rfl; have hcz92_2 : w89.cell? ⟨gb408, 2, none⟩ = some (.string x409002_1) := (blk_cell BK408.out 2).trans rfl; have hcz92_3 : w89.cell? ⟨gb408, 3, none⟩ = some (.string x409003_1) := (blk_cell BK408.out 3).trans rfl; have hcz92_4 : w89.cell? ⟨gb408, 4, none⟩ = some (.string x409004_1) := (blk_cell BK408.out 4).trans rfl; have hcz92_5 : w89.cell? ⟨gb408, 5, none⟩ = some (.string x409005_1) := (blk_cell BK408.out 5).trans rfl; have hfz92_0 := blk_frozen BK408.out 0; have hfz92_1 := blk_frozen BK408.out 1; have hfz92_2 := blk_frozen BK408.out 2; have hfz92_3 := blk_frozen BK408.out 3; have hfz92_4 := blk_frozen BK408.out 4; have hfz92_5 := blk_frozen BK408.out 5) | (go_at_call 16; (with_reducible refine (tupl_Less.calls k1 x410000_1 x410001_1 x410002_1 x410003_1 x410004_1 x410005_1 x409000_1 x409001_1 x409002_1 x409003_1 x409004_1 x409005_1 false _ A65.out).mono ?_); rintro e w93 ⟨rfl, hb⟩; have n0_ := Aside0.mk (blk_below (g := gb408) (o := .cells #[.string x409000_1, .string x409001_1, .string x409002_1, .string x409003_1, .string x409004_1, .string x409005_1] 29 (0, 0)) (by (with_reducible repeat (first | refine blk_drewN ?_ _ | refine blk_drew ?_ | refine blk_alloc ?_ _)); exact BK408.out) hb); have n1_ := Aside0.mk (blk_below (g := gb409) (o := .cells #[.string x410000_1, .string x410001_1, .string x410002_1, .string x410003_1, .string x410004_1, .string x410005_1] 29 (0, 0)) (by (with_reducible repeat (first | refine blk_drewN ?_ _ | refine blk_drew ?_ | refine blk_alloc ?_ _)); exact BK409.out) hb); have n2_ := Aside0.mk (blk_below (g := gb410) (o := .cells #[.string x411000_1, .string x411001_1, .string x411002_1, .string x411003_1, .string x411004_1, .string x411005_1] 29 (0, 0)) (by (with_reducible repeat (first | refine blk_drewN ?_ _ | refine blk_drew ?_ | refine blk_alloc ?_ _)); exact BK410.out) hb); have n3_ := Aside0.mk (below_step (by repeat (first | (with_reducible first | exact HB.out | apply below_alloc | apply pw_below_drewN | apply below_drew1 | refine below_set ?_ GE408.out | refine below_set ?_ GE409.out | refine below_set ?_ GE410.out) | exact HB.out)) hb); clear BK408; clear BK409; clear BK410; clear HB; have BK408 := n0_; have BK409 := n1_; have BK410 := n2_; have HB := n3_; clear n0_ n1_ n2_ n3_; (try clear hb); (try clear hb2); (try clear hk); (try clear hi); have hcz94_0 : w93.cell? ⟨gb408, 0, none⟩ = some (.string x409000_1) := (blk_cell BK408.out 0).trans rfl; have hcz94_1 : w93.cell? ⟨gb408, 1, none⟩ = some (.string x409001_1) := (blk_cell BK408.out 1).trans rfl; have hcz94_2 : w93.cell? ⟨gb408, 2, none⟩ = some (.string x409002_1) := (blk_cell BK408.out 2).trans rfl; have hcz94_3 : w93.cell? ⟨gb408, 3, none⟩ = some (.string x409003_1) := (blk_cell BK408.out 3).trans rfl; have hcz94_4 : w93.cell? ⟨gb408, 4, none⟩ = some (.string x409004_1) := (blk_cell BK408.out 4).trans rfl; have hcz94_5 : w93.cell? ⟨gb408, 5, none⟩ = some (.string x409005_1) := (blk_cell BK408.out 5).trans rfl; have hfz94_0 := blk_frozen BK408.out 0; have hfz94_1 := blk_frozen BK408.out 1; have hfz94_2 := blk_frozen BK408.out 2; have hfz94_3 := blk_frozen BK408.out 3; have hfz94_4 := blk_frozen BK408.out 4; have hfz94_5 := blk_frozen BK408.out 5; have hcz95_0 : w93.cell? ⟨gb409, 0, none⟩ = some (.string x410000_1) := (blk_cell BK409.out 0).trans rfl; have hcz95_1 : w93.cell? ⟨gb409, 1, none⟩ = some (.string x410001_1) := (blk_cell BK409.out 1).trans rfl; have hcz95_2 : w93.cell? ⟨gb409, 2, none⟩ = some (.string x410002_1) := (blk_cell BK409.out 2).trans rfl; have hcz95_3 : w93.cell? ⟨gb409, 3, none⟩ = some (.string x410003_1) := (blk_cell BK409.out 3).trans rfl; have hcz95_4 : w93.cell? ⟨gb409, 4, none⟩ = some (.string x410004_1) := (blk_cell BK409.out 4).trans rfl; have hcz95_5 : w93.cell? ⟨gb409, 5, none⟩ = some (.string x410005_1) := (blk_cell BK409.out 5).trans rfl; have hfz95_0 := blk_frozen BK409.out 0; have hfz95_1 := blk_frozen BK409.out 1; have hfz95_2 := blk_frozen BK409.out 2; have hfz95_3 := blk_frozen BK409.out 3; have hfz95_4 := blk_frozen BK409.out 4; have hfz95_5 := blk_frozen BK409.out 5))
                    go_meet
                    case rel => exact ⟨_, (false), (by first | rfl | (simp; done) | (simp [*]; done)), H', ⟨by have := HK1.out; first | omega | exact Nat.le_refl _⟩, ⟨by (with_reducible repeat (first | refine blk_drewN ?_ _ | refine blk_drew ?_ | refine blk_alloc ?_ _)); exact BK408.out⟩, ⟨by (with_reducible repeat (first | refine blk_drewN ?_ _ | refine blk_drew ?_ | refine blk_alloc ?_ _)); exact BK409.out⟩, ⟨by (with_reducible repeat (first | refine blk_drewN ?_ _ | refine blk_drew ?_ | refine blk_alloc ?_ _)); exact BK410.out⟩, ⟨by repeat (first | (with_reducible first | exact HB.out | apply below_alloc | apply pw_below_drewN | apply below_drew1 | refine below_set ?_ GE408.out | refine below_set ?_ GE409.out | refine below_set ?_ GE410.out) | exact HB.out)⟩⟩
          · replace c19 := Bool.eq_false_iff.mpr c19
            subst c19
            have H1 : ((tupl_Less.f k1 x409000_1 x409001_1 x409002_1 x409003_1 x409004_1 x409005_1 x409000_1 x409001_1 x409002_1 x409003_1 x409004_1 x409005_1).bind fun t419 => (if t419 = true then (entaillaw2_TuplOrder.j1 k1 a3 a4 a5 x13_1 true) else (if ((!(x409000_1.toList == x410000_1.toList) || (!(x409001_1.toList == x410001_1.toList))) || (!(x409002_1.toList == x410002_1.toList) || ((!(x409003_1.toList == x410003_1.toList) || (!(x409004_1.toList == x410004_1.toList) || (!(x409005_1.toList == x410005_1.toList))))))) = true then ((tupl_Less.f k1 x410000_1 x410001_1 x410002_1 x410003_1 x410004_1 x410005_1 x409000_1 x409001_1 x409002_1 x409003_1 x409004_1 x409005_1).bind fun t420 => (entaillaw2_TuplOrder.j1 k1 a3 a4 a5 x13_1 (!t420))) else (entaillaw2_TuplOrder.j1 k1 a3 a4 a5 x13_1 false)))) = some r := by rw [if_neg (show ¬ (false = true) by decide)] at H; exact H
            clear H
            have H := H1
            clear H1
            replace H := Option.bind_eq_some_iff.mp H
            obtain ⟨t419, A960, H⟩ := H
            replace H : (if t419 = true then (entaillaw2_TuplOrder.j1 k1 a3 a4 a5 x13_1 true) else (if ((!(x409000_1.toList == x410000_1.toList) || (!(x409001_1.toList == x410001_1.toList))) || (!(x409002_1.toList == x410002_1.toList) || ((!(x409003_1.toList == x410003_1.toList) || (!(x409004_1.toList == x410004_1.toList) || (!(x409005_1.toList == x410005_1.toList))))))) = true then ((tupl_Less.f k1 x410000_1 x410001_1 x410002_1 x410003_1 x410004_1 x410005_1 x409000_1 x409001_1 x409002_1 x409003_1 x409004_1 x409005_1).bind fun t420 => (entaillaw2_TuplOrder.j1 k1 a3 a4 a5 x13_1 (!t420))) else (entaillaw2_TuplOrder.j1 k1 a3 a4 a5 x13_1 false))) = some r := H
            have A96 := Aside0.mk A960
            clear A960
            by_cases c97 : t419 = true
            · subst c97
              have H1 : (entaillaw2_TuplOrder.j1 k1 a3 a4 a5 x13_1 true) = some r := by rw [if_pos rfl] at H; exact H
              clear H
              have H := H1
              clear H1
              have H' := Aside0.mk H
              clear H
              have hnb98 := NB408_409.out
              have hnc98 := NB409_408.out
              have hnb99 := NB408_410.out
              have hnc99 := NB410_408.out
              have hcz100_0 : w18.cell? ⟨gb408, 0, none⟩ = some (.string x409000_1) := (blk_cell BK408.out 0).trans rfl
              have hcz100_1 : w18.cell? ⟨gb408, 1, none⟩ = some (.string x409001_1) := (blk_cell BK408.out 1).trans rfl
              have hcz100_2 : w18.cell? ⟨gb408, 2, none⟩ = some (.string x409002_1) := (blk_cell BK408.out 2).trans rfl
              have hcz100_3 : w18.cell? ⟨gb408, 3, none⟩ = some (.string x409003_1) := (blk_cell BK408.out 3).trans rfl
              have hcz100_4 : w18.cell? ⟨gb408, 4, none⟩ = some (.string x409004_1) := (blk_cell BK408.out 4).trans rfl
              have hcz100_5 : w18.cell? ⟨gb408, 5, none⟩ = some (.string x409005_1) := (blk_cell BK408.out 5).trans rfl
              have hfz100_0 := blk_frozen BK408.out 0
              have hfz100_1 := blk_frozen BK408.out 1
              have hfz100_2 := blk_frozen BK408.out 2
              have hfz100_3 := blk_frozen BK408.out 3
              have hfz100_4 := blk_frozen BK408.out 4
              have hfz100_5 := blk_frozen BK408.out 5
              go_wp2_with (first | (go_at_call 16; (with_reducible refine (tupl_Less.calls k1 x409000_1 x409001_1 x409002_1 x409003_1 x409004_1 x409005_1 x409000_1 x409001_1 x409002_1 x409003_1 x409004_1 x409005_1 true _ A96.out).mono ?_); rintro e w101 ⟨rfl, hb⟩; have n0_ := Aside0.mk (blk_below (g := gb408) (o := .cells #[.string x409000_1, .string x409001_1, .string x409002_1, .string x409003_1, .string x409004_1, .string x409005_1] 29 (0, 0)) (by (with_reducible repeat (first | refine blk_drewN ?_ _ | refine blk_drew ?_ | refine blk_alloc ?_ _)); exact BK408.out) hb); have n1_ := Aside0.mk (blk_below (g := gb409) (o := .cells #[.string x410000_1, .string x410001_1, .string x410002_1, .string x410003_1, .string x410004_1, .string x410005_1] 29 (0, 0)) (by (with_reducible repeat (first | refine blk_drewN ?_ _ | refine blk_drew ?_ | refine blk_alloc ?_ _)); exact BK409.out) hb); have n2_ := Aside0.mk (blk_below (g := gb410) (o := .cells #[.string x411000_1, .string x411001_1, .string x411002_1, .string x411003_1, .string x411004_1, .string x411005_1] 29 (0, 0)) (by (with_reducible repeat (first | refine blk_drewN ?_ _ | refine blk_drew ?_ | refine blk_alloc ?_ _)); exact BK410.out) hb); have n3_ := Aside0.mk (below_step (by repeat (first | (with_reducible first | exact HB.out | apply below_alloc | apply pw_below_drewN | apply below_drew1 | refine below_set ?_ GE408.out | refine below_set ?_ GE409.out | refine below_set ?_ GE410.out) | exact HB.out)) hb); clear BK408; clear BK409; clear BK410; clear HB; have BK408 := n0_; have BK409 := n1_; have BK410 := n2_; have HB := n3_; clear n0_ n1_ n2_ n3_; (try clear hb); (try clear hb2); (try clear hk); (try clear hi)))
              go_meet
              case rel => exact ⟨_, (true), (by first | rfl | (simp; done) | (simp [*]; done)), H', ⟨by have := HK1.out; first | omega | exact Nat.le_refl _⟩, ⟨by (with_reducible repeat (first | refine blk_drewN ?_ _ | refine blk_drew ?_ | refine blk_alloc ?_ _)); exact BK408.out⟩, ⟨by (with_reducible repeat (first | refine blk_drewN ?_ _ | refine blk_drew ?_ | refine blk_alloc ?_ _)); exact BK409.out⟩, ⟨by (with_reducible repeat (first | refine blk_drewN ?_ _ | refine blk_drew ?_ | refine blk_alloc ?_ _)); exact BK410.out⟩, ⟨by repeat (first | (with_reducible first | exact HB.out | apply below_alloc | apply pw_below_drewN | apply below_drew1 | refine below_set ?_ GE408.out | refine below_set ?_ GE409.out | refine below_set ?_ GE410.out) | exact HB.out)⟩⟩
            · replace c97 := Bool.eq_false_iff.mpr c97
              subst c97
              have H1 : (if ((!(x409000_1.toList == x410000_1.toList) || (!(x409001_1.toList == x410001_1.toList))) || (!(x409002_1.toList == x410002_1.toList) || ((!(x409003_1.toList == x410003_1.toList) || (!(x409004_1.toList == x410004_1.toList) || (!(x409005_1.toList == x410005_1.toList))))))) = true then ((tupl_Less.f k1 x410000_1 x410001_1 x410002_1 x410003_1 x410004_1 x410005_1 x409000_1 x409001_1 x409002_1 x409003_1 x409004_1 x409005_1).bind fun t420 => (entaillaw2_TuplOrder.j1 k1 a3 a4 a5 x13_1 (!t420))) else (entaillaw2_TuplOrder.j1 k1 a3 a4 a5 x13_1 false)) = some r := by rw [if_neg (show ¬ (false = true) by decide)] at H; exact H
              clear H
              have H := H1
              clear H1
              by_cases c102 : ((!(x409000_1.toList == x410000_1.toList) || (!(x409001_1.toList == x410001_1.toList))) || (!(x409002_1.toList == x410002_1.toList) || ((!(x409003_1.toList == x410003_1.toList) || (!(x409004_1.toList == x410004_1.toList) || (!(x409005_1.toList == x410005_1.toList))))))) = true
              · rw [if_pos c102] at H
                have c102b0 : ((!(x409000_1.toList == x410000_1.toList) || (!(x409001_1.toList == x410001_1.toList))) || (!(x409002_1.toList == x410002_1.toList) || ((!(x409003_1.toList == x410003_1.toList) || (!(x409004_1.toList == x410004_1.toList) || (!(x409005_1.toList == x410005_1.toList))))))) = true := c102
                clear c102
                replace H := Option.bind_eq_some_iff.mp H
                obtain ⟨t420, A1030, H⟩ := H
                replace H : (entaillaw2_TuplOrder.j1 k1 a3 a4 a5 x13_1 (!t420)) = some r := H
                have A103 := Aside0.mk A1030
                clear A1030
                have H' := Aside0.mk H
                clear H
                have hnb104 := NB408_409.out
                have hnc104 := NB409_408.out
                have hnb105 := NB408_410.out
                have hnc105 := NB410_408.out
                have hcz106_0 : w18.cell? ⟨gb408, 0, none⟩ = some (.string x409000_1) := (blk_cell BK408.out 0).trans rfl
                have hcz106_1 : w18.cell? ⟨gb408, 1, none⟩ = some (.string x409001_1) := (blk_cell BK408.out 1).trans rfl
                have hcz106_2 : w18.cell? ⟨gb408, 2, none⟩ = some (.string x409002_1) := (blk_cell BK408.out 2).trans rfl
                have hcz106_3 : w18.cell? ⟨gb408, 3, none⟩ = some (.string x409003_1) := (blk_cell BK408.out 3).trans rfl
                have hcz106_4 : w18.cell? ⟨gb408, 4, none⟩ = some (.string x409004_1) := (blk_cell BK408.out 4).trans rfl
                have hcz106_5 : w18.cell? ⟨gb408, 5, none⟩ = some (.string x409005_1) := (blk_cell BK408.out 5).trans rfl
                have hfz106_0 := blk_frozen BK408.out 0
                have hfz106_1 := blk_frozen BK408.out 1
                have hfz106_2 := blk_frozen BK408.out 2
                have hfz106_3 := blk_frozen BK408.out 3
                have hfz106_4 := blk_frozen BK408.out 4
                have hfz106_5 := blk_frozen BK408.out 5
                go_wp2_with (first | (go_at_call 16; (with_reducible refine (tupl_Less.calls k1 x409000_1 x409001_1 x409002_1 x409003_1 x409004_1 x409005_1 x409000_1 x409001_1 x409002_1 x409003_1 x409004_1 x409005_1 false _ A96.out).mono ?_); rintro e w107 ⟨rfl, hb⟩; have n0_ := Aside0.mk (blk_below (g := gb408) (o := .cells #[.string x409000_1, .string x409001_1, .string x409002_1, .string x409003_1, .string x409004_1, .string x409005_1] 29 (0, 0)) (by (with_reducible repeat (first | refine blk_drewN ?_ _ | refine blk_drew ?_ | refine blk_alloc ?_ _)); exact BK408.out) hb); have n1_ := Aside0.mk (blk_below (g := gb409) (o := .cells #[.string x410000_1, .string x410001_1, .string x410002_1, .string x410003_1, .string x410004_1, .string x410005_1] 29 (0, 0)) (by (with_reducible repeat (first | refine blk_drewN ?_ _ | refine blk_drew ?_ | refine blk_alloc ?_ _)); exact BK409.out) hb); have n2_ := Aside0.mk (blk_below (g := gb410) (o := .cells #[.string x411000_1, .string x411001_1, .string x411002_1, .string x411003_1, .string x411004_1, .string x411005_1] 29 (0, 0)) (by (with_reducible repeat (first | refine blk_drewN ?_ _ | refine blk_drew ?_ | refine blk_alloc ?_ _)); exact BK410.out) hb); have n3_ := Aside0.mk (below_step (by repeat (first | (with_reducible first | exact HB.out | apply below_alloc | apply pw_below_drewN | apply below_drew1 | refine below_set ?_ GE408.out | refine below_set ?_ GE409.out | refine below_set ?_ GE410.out) | exact HB.out)) hb); clear BK408; clear BK409; clear BK410; clear HB; have BK408 := n0_; have BK409 := n1_; have BK410 := n2_; have HB := n3_; clear n0_ n1_ n2_ n3_; (try clear hb); (try clear hb2); (try clear hk); (try clear hi); have hcz108_0 : w107.cell? ⟨gb408, 0, none⟩ = some (.string x409000_1) := (blk_cell BK408.out 0).trans rfl; have hcz108_1 : w107.cell? ⟨gb408, 1, none⟩ = some (.string x409001_1) := (blk_cell BK408.out 1).trans rfl; have hcz108_2 : w107.cell? ⟨gb408, 2, none⟩ = some (.string x409002_1) := (blk_cell BK408.out 2).trans rfl; have hcz108_3 : w107.cell? ⟨gb408, 3, none⟩ = some (.string x409003_1) := (blk_cell BK408.out 3).trans rfl; have hcz108_4 : w107.cell? ⟨gb408, 4, none⟩ = some (.string x409004_1) := (blk_cell BK408.out 4).trans rfl; have hcz108_5 : w107.cell? ⟨gb408, 5, none⟩ = some (.string x409005_1) := (blk_cell BK408.out 5).trans rfl; have hfz108_0 := blk_frozen BK408.out 0; have hfz108_1 := blk_frozen BK408.out 1; have hfz108_2 := blk_frozen BK408.out 2; have hfz108_3 := blk_frozen BK408.out 3; have hfz108_4 := blk_frozen BK408.out 4; have hfz108_5 := blk_frozen BK408.out 5; have hnb109 := NB409_410.out; have hnc109 := NB410_409.out; have hcz110_0 : w107.cell? ⟨gb409, 0, none⟩ = some (.string x410000_1) := (blk_cell BK409.out 0).trans rfl; have hcz110_1 : w107.cell? ⟨gb409, 1, none⟩ = some (.string x410001_1) := (blk_cell BK409.out 1).trans rfl; have hcz110_2 : w107.cell? ⟨gb409, 2, none⟩ = some (.string x410002_1) := (blk_cell BK409.out 2).trans rfl; have hcz110_3 : w107.cell? ⟨gb409, 3, none⟩ = some (.string x410003_1) := (blk_cell BK409.out 3).trans rfl; have hcz110_4 : w107.cell? ⟨gb409, 4, none⟩ = some (.string x410004_1) := (blk_cell BK409.out 4).trans rfl; have hcz110_5 : w107.cell? ⟨gb409, 5, none⟩ = some (.string x410005_1) := (blk_cell BK409.out 5).trans rfl; have hfz110_0 := blk_frozen BK409.out 0; have hfz110_1 := blk_frozen BK409.out 1; have hfz110_2 := blk_frozen BK409.out 2; have hfz110_3 := blk_frozen BK409.out 3; have hfz110_4 := blk_frozen BK409.out 4; have hfz110_5 := blk_frozen BK409.out 5) | (go_at_call 16; (with_reducible refine (tupl_Less.calls k1 x410000_1 x410001_1 x410002_1 x410003_1 x410004_1 x410005_1 x409000_1 x409001_1 x409002_1 x409003_1 x409004_1 x409005_1 t420 _ A103.out).mono ?_); rintro e w111 ⟨rfl, hb⟩; have n0_ := Aside0.mk (blk_below (g := gb408) (o := .cells #[.string x409000_1, .string x409001_1, .string x409002_1, .string x409003_1, .string x409004_1, .string x409005_1] 29 (0, 0)) (by (with_reducible repeat (first | refine blk_drewN ?_ _ | refine blk_drew ?_ | refine blk_alloc ?_ _)); exact BK408.out) hb); have n1_ := Aside0.mk (blk_below (g := gb409) (o := .cells #[.string x410000_1, .string x410001_1, .string x410002_1, .string x410003_1, .string x410004_1, .string x410005_1] 29 (0, 0)) (by (with_reducible repeat (first | refine blk_drewN ?_ _ | refine blk_drew ?_ | refine blk_alloc ?_ _)); exact BK409.out) hb); have n2_ := Aside0.mk (blk_below (g := gb410) (o := .cells #[.string x411000_1, .string x411001_1, .string x411002_1, .string x411003_1, .string x411004_1, .string x411005_1] 29 (0, 0)) (by (with_reducible repeat (first | refine blk_drewN ?_ _ | refine blk_drew ?_ | refine blk_alloc ?_ _)); exact BK410.out) hb); have n3_ := Aside0.mk (below_step (by repeat (first | (with_reducible first | exact HB.out | apply below_alloc | apply pw_below_drewN | apply below_drew1 | refine below_set ?_ GE408.out | refine below_set ?_ GE409.out | refine below_set ?_ GE410.out) | exact HB.out)) hb); clear BK408; clear BK409; clear BK410; clear HB; have BK408 := n0_; have BK409 := n1_; have BK410 := n2_; have HB := n3_; clear n0_ n1_ n2_ n3_; (try clear hb); (try clear hb2); (try clear hk); (try clear hi)))
                go_meet
                case rel => exact ⟨_, (!t420), (by first | rfl | (simp; done) | (simp [*]; done)), H', ⟨by have := HK1.out; first | omega | exact Nat.le_refl _⟩, ⟨by (with_reducible repeat (first | refine blk_drewN ?_ _ | refine blk_drew ?_ | refine blk_alloc ?_ _)); exact BK408.out⟩, ⟨by (with_reducible repeat (first | refine blk_drewN ?_ _ | refine blk_drew ?_ | refine blk_alloc ?_ _)); exact BK409.out⟩, ⟨by (with_reducible repeat (first | refine blk_drewN ?_ _ | refine blk_drew ?_ | refine blk_alloc ?_ _)); exact BK410.out⟩, ⟨by repeat (first | (with_reducible first | exact HB.out | apply below_alloc | apply pw_below_drewN | apply below_drew1 | refine below_set ?_ GE408.out | refine below_set ?_ GE409.out | refine below_set ?_ GE410.out) | exact HB.out)⟩⟩
              · rw [if_neg c102] at H
                have c102b0 : ((!(x409000_1.toList == x410000_1.toList) || (!(x409001_1.toList == x410001_1.toList))) || (!(x409002_1.toList == x410002_1.toList) || ((!(x409003_1.toList == x410003_1.toList) || (!(x409004_1.toList == x410004_1.toList) || (!(x409005_1.toList == x410005_1.toList))))))) = false := by simpa using c102
                clear c102
                have H' := Aside0.mk H
                clear H
                have hnb112 := NB408_409.out
                have hnc112 := NB409_408.out
                have hnb113 := NB408_410.out
                have hnc113 := NB410_408.out
                have hcz114_0 : w18.cell? ⟨gb408, 0, none⟩ = some (.string x409000_1) := (blk_cell BK408.out 0).trans rfl
                have hcz114_1 : w18.cell? ⟨gb408, 1, none⟩ = some (.string x409001_1) := (blk_cell BK408.out 1).trans rfl
                have hcz114_2 : w18.cell? ⟨gb408, 2, none⟩ = some (.string x409002_1) := (blk_cell BK408.out 2).trans rfl
                have hcz114_3 : w18.cell? ⟨gb408, 3, none⟩ = some (.string x409003_1) := (blk_cell BK408.out 3).trans rfl
                have hcz114_4 : w18.cell? ⟨gb408, 4, none⟩ = some (.string x409004_1) := (blk_cell BK408.out 4).trans rfl
                have hcz114_5 : w18.cell? ⟨gb408, 5, none⟩ = some (.string x409005_1) := (blk_cell BK408.out 5).trans rfl
                have hfz114_0 := blk_frozen BK408.out 0
                have hfz114_1 := blk_frozen BK408.out 1
                have hfz114_2 := blk_frozen BK408.out 2
                have hfz114_3 := blk_frozen BK408.out 3
                have hfz114_4 := blk_frozen BK408.out 4
                have hfz114_5 := blk_frozen BK408.out 5
                go_wp2_with (first | (go_at_call 16; (with_reducible refine (tupl_Less.calls k1 x409000_1 x409001_1 x409002_1 x409003_1 x409004_1 x409005_1 x409000_1 x409001_1 x409002_1 x409003_1 x409004_1 x409005_1 false _ A96.out).mono ?_); rintro e w115 ⟨rfl, hb⟩; have n0_ := Aside0.mk (blk_below (g := gb408) (o := .cells #[.string x409000_1, .string x409001_1, .string x409002_1, .string x409003_1, .string x409004_1, .string x409005_1] 29 (0, 0)) (by (with_reducible repeat (first | refine blk_drewN ?_ _ | refine blk_drew ?_ | refine blk_alloc ?_ _)); exact BK408.out) hb); have n1_ := Aside0.mk (blk_below (g := gb409) (o := .cells #[.string x410000_1, .string x410001_1, .string x410002_1, .string x410003_1, .string x410004_1, .string x410005_1] 29 (0, 0)) (by (with_reducible repeat (first | refine blk_drewN ?_ _ | refine blk_drew ?_ | refine blk_alloc ?_ _)); exact BK409.out) hb); have n2_ := Aside0.mk (blk_below (g := gb410) (o := .cells #[.string x411000_1, .string x411001_1, .string x411002_1, .string x411003_1, .string x411004_1, .string x411005_1] 29 (0, 0)) (by (with_reducible repeat (first | refine blk_drewN ?_ _ | refine blk_drew ?_ | refine blk_alloc ?_ _)); exact BK410.out) hb); have n3_ := Aside0.mk (below_step (by repeat (first | (with_reducible first | exact HB.out | apply below_alloc | apply pw_below_drewN | apply below_drew1 | refine below_set ?_ GE408.out | refine below_set ?_ GE409.out | refine below_set ?_ GE410.out) | exact HB.out)) hb); clear BK408; clear BK409; clear BK410; clear HB; have BK408 := n0_; have BK409 := n1_; have BK410 := n2_; have HB := n3_; clear n0_ n1_ n2_ n3_; (try clear hb); (try clear hb2); (try clear hk); (try clear hi); have hcz116_0 : w115.cell? ⟨gb408, 0, none⟩ = some (.string x409000_1) := (blk_cell BK408.out 0).trans rfl; have hcz116_1 : w115.cell? ⟨gb408, 1, none⟩ = some (.string x409001_1) := (blk_cell BK408.out 1).trans rfl; have hcz116_2 : w115.cell? ⟨gb408, 2, none⟩ = some (.string x409002_1) := (blk_cell BK408.out 2).trans rfl; have hcz116_3 : w115.cell? ⟨gb408, 3, none⟩ = some (.string x409003_1) := (blk_cell BK408.out 3).trans rfl; have hcz116_4 : w115.cell? ⟨gb408, 4, none⟩ = some (.string x409004_1) := (blk_cell BK408.out 4).trans rfl; have hcz116_5 : w115.cell? ⟨gb408, 5, none⟩ = some (.string x409005_1) := (blk_cell BK408.out 5).trans rfl; have hfz116_0 := blk_frozen BK408.out 0; have hfz116_1 := blk_frozen BK408.out 1; have hfz116_2 := blk_frozen BK408.out 2; have hfz116_3 := blk_frozen BK408.out 3; have hfz116_4 := blk_frozen BK408.out 4; have hfz116_5 := blk_frozen BK408.out 5; have hnb117 := NB409_410.out; have hnc117 := NB410_409.out; have hcz118_0 : w115.cell? ⟨gb409, 0, none⟩ = some (.string x410000_1) := (blk_cell BK409.out 0).trans rfl; have hcz118_1 : w115.cell? ⟨gb409, 1, none⟩ = some (.string x410001_1) := (blk_cell BK409.out 1).trans rfl; have hcz118_2 : w115.cell? ⟨gb409, 2, none⟩ = some (.string x410002_1) := (blk_cell BK409.out 2).trans rfl; have hcz118_3 : w115.cell? ⟨gb409, 3, none⟩ = some (.string x410003_1) := (blk_cell BK409.out 3).trans rfl; have hcz118_4 : w115.cell? ⟨gb409, 4, none⟩ = some (.string x410004_1) := (blk_cell BK409.out 4).trans rfl; have hcz118_5 : w115.cell? ⟨gb409, 5, none⟩ = some (.string x410005_1) := (blk_cell BK409.out 5).trans rfl; have hfz118_0 := blk_frozen BK409.out 0; have hfz118_1 := blk_frozen BK409.out 1; have hfz118_2 := blk_frozen BK409.out 2; have hfz118_3 := blk_frozen BK409.out 3; have hfz118_4 := blk_frozen BK409.out 4; have hfz118_5 := blk_frozen BK409.out 5))
                go_meet
                case rel => exact ⟨_, (false), (by first | rfl | (simp; done) | (simp [*]; done)), H', ⟨by have := HK1.out; first | omega | exact Nat.le_refl _⟩, ⟨by (with_reducible repeat (first | refine blk_drewN ?_ _ | refine blk_drew ?_ | refine blk_alloc ?_ _)); exact BK408.out⟩, ⟨by (with_reducible repeat (first | refine blk_drewN ?_ _ | refine blk_drew ?_ | refine blk_alloc ?_ _)); exact BK409.out⟩, ⟨by (with_reducible repeat (first | refine blk_drewN ?_ _ | refine blk_drew ?_ | refine blk_alloc ?_ _)); exact BK410.out⟩, ⟨by repeat (first | (with_reducible first | exact HB.out | apply below_alloc | apply pw_below_drewN | apply below_drew1 | refine below_set ?_ GE408.out | refine below_set ?_ GE409.out | refine below_set ?_ GE410.out) | exact HB.out)⟩⟩
        case rest =>
          clear HC14
          try clear c1
          try clear c2
          try clear p2
          try clear c3
          try clear c4
          try clear c5
          try clear c6
          try clear c7
          try clear c8
          try clear c9
          try clear c10
          try clear c10b0
          try clear c11
          try clear c16
          try clear c19
          try clear c20
          try clear c21
          try clear c23
          try clear c24
          try clear c25
          try clear c29
          try clear c30
          try clear c31
          try clear c34
          try clear c38
          try clear c38b0
          try clear c39
          try clear c40
          try clear c43
          try clear c49
          try clear c50
          try clear c53
          try clear c60
          try clear c61
          try clear c62
          try clear c66
          try clear c67
          try clear c68
          try clear c71
          try clear c75
          try clear c75b0
          try clear c76
          try clear c77
          try clear c80
          try clear c86
          try clear c87
          try clear c90
          try clear c97
          try clear c98
          try clear c99
          try clear c102
          try clear c102b0
          try clear c104
          try clear c105
          try clear c109
          try clear c112
          try clear c113
          try clear c117
          try clear hcz100_0
          try clear hcz100_1
          try clear hcz100_2
          try clear hcz100_3
          try clear hcz100_4
          try clear hcz100_5
          try clear hcz106_0
          try clear hcz106_1
          try clear hcz106_2
          try clear hcz106_3
          try clear hcz106_4
          try clear hcz106_5
          try clear hcz108_0
          try clear hcz108_1
          try clear hcz108_2
          try clear hcz108_3
          try clear hcz108_4
          try clear hcz108_5
          try clear hcz110_0
          try clear hcz110_1
          try clear hcz110_2
          try clear hcz110_3
          try clear hcz110_4
          try clear hcz110_5
          try clear hcz114_0
          try clear hcz114_1
          try clear hcz114_2
          try clear hcz114_3
          try clear hcz114_4
          try clear hcz114_5
          try clear hcz116_0
          try clear hcz116_1
          try clear hcz116_2
          try clear hcz116_3
          try clear hcz116_4
          try clear hcz116_5
          try clear hcz118_0
          try clear hcz118_1
          try clear hcz118_2
          try clear hcz118_3
          try clear hcz118_4
          try clear hcz118_5
          try clear hcz26_0
          try clear hcz26_1
          try clear hcz26_2
          try clear hcz26_3
          try clear hcz26_4
          try clear hcz26_5
          try clear hcz32_0
          try clear hcz32_1
          try clear hcz32_2
          try clear hcz32_3
          try clear hcz32_4
          try clear hcz32_5
          try clear hcz35_0
          try clear hcz35_1
          try clear hcz35_2
          try clear hcz35_3
          try clear hcz35_4
          try clear hcz35_5
          try clear hcz36_0
          try clear hcz36_1
          try clear hcz36_2
          try clear hcz36_3
          try clear hcz36_4
          try clear hcz36_5
          try clear hcz41_0
          try clear hcz41_1
          try clear hcz41_2
          try clear hcz41_3
          try clear hcz41_4
          try clear hcz41_5
          try clear hcz44_0
          try clear hcz44_1
          try clear hcz44_2
          try clear hcz44_3
          try clear hcz44_4
          try clear hcz44_5
          try clear hcz45_0
          try clear hcz45_1
          try clear hcz45_2
          try clear hcz45_3
          try clear hcz45_4
          try clear hcz45_5
          try clear hcz47_0
          try clear hcz47_1
          try clear hcz47_2
          try clear hcz47_3
          try clear hcz47_4
          try clear hcz47_5
          try clear hcz48_0
          try clear hcz48_1
          try clear hcz48_2
          try clear hcz48_3
          try clear hcz48_4
          try clear hcz48_5
          try clear hcz51_0
          try clear hcz51_1
          try clear hcz51_2
          try clear hcz51_3
          try clear hcz51_4
          try clear hcz51_5
          try clear hcz54_0
          try clear hcz54_1
          try clear hcz54_2
          try clear hcz54_3
          try clear hcz54_4
          try clear hcz54_5
          try clear hcz55_0
          try clear hcz55_1
          try clear hcz55_2
          try clear hcz55_3
          try clear hcz55_4
          try clear hcz55_5
          try clear hcz57_0
          try clear hcz57_1
          try clear hcz57_2
          try clear hcz57_3
          try clear hcz57_4
          try clear hcz57_5
          try clear hcz58_0
          try clear hcz58_1
          try clear hcz58_2
          try clear hcz58_3
          try clear hcz58_4
          try clear hcz58_5
          try clear hcz63_0
          try clear hcz63_1
          try clear hcz63_2
          try clear hcz63_3
          try clear hcz63_4
          try clear hcz63_5
          try clear hcz69_0
          try clear hcz69_1
          try clear hcz69_2
          try clear hcz69_3
          try clear hcz69_4
          try clear hcz69_5
          try clear hcz72_0
          try clear hcz72_1
          try clear hcz72_2
          try clear hcz72_3
          try clear hcz72_4
          try clear hcz72_5
          try clear hcz73_0
          try clear hcz73_1
          try clear hcz73_2
          try clear hcz73_3
          try clear hcz73_4
          try clear hcz73_5
          try clear hcz78_0
          try clear hcz78_1
          try clear hcz78_2
          try clear hcz78_3
          try clear hcz78_4
          try clear hcz78_5
          try clear hcz81_0
          try clear hcz81_1
          try clear hcz81_2
          try clear hcz81_3
          try clear hcz81_4
          try clear hcz81_5
          try clear hcz82_0
          try clear hcz82_1
          try clear hcz82_2
          try clear hcz82_3
          try clear hcz82_4
          try clear hcz82_5
          try clear hcz84_0
          try clear hcz84_1
          try clear hcz84_2
          try clear hcz84_3
          try clear hcz84_4
          try clear hcz84_5
          try clear hcz85_0
          try clear hcz85_1
          try clear hcz85_2
          try clear hcz85_3
          try clear hcz85_4
          try clear hcz85_5
          try clear hcz88_0
          try clear hcz88_1
          try clear hcz88_2
          try clear hcz88_3
          try clear hcz88_4
          try clear hcz88_5
          try clear hcz91_0
          try clear hcz91_1
          try clear hcz91_2
          try clear hcz91_3
          try clear hcz91_4
          try clear hcz91_5
          try clear hcz92_0
          try clear hcz92_1
          try clear hcz92_2
          try clear hcz92_3
          try clear hcz92_4
          try clear hcz92_5
          try clear hcz94_0
          try clear hcz94_1
          try clear hcz94_2
          try clear hcz94_3
          try clear hcz94_4
          try clear hcz94_5
          try clear hcz95_0
          try clear hcz95_1
          try clear hcz95_2
          try clear hcz95_3
          try clear hcz95_4
          try clear hcz95_5
          try clear hfz100_0
          try clear hfz100_1
          try clear hfz100_2
          try clear hfz100_3
          try clear hfz100_4
          try clear hfz100_5
          try clear hfz106_0
          try clear hfz106_1
          try clear hfz106_2
          try clear hfz106_3
          try clear hfz106_4
          try clear hfz106_5
          try clear hfz108_0
          try clear hfz108_1
          try clear hfz108_2
          try clear hfz108_3
          try clear hfz108_4
          try clear hfz108_5
          try clear hfz110_0
          try clear hfz110_1
          try clear hfz110_2
          try clear hfz110_3
          try clear hfz110_4
          try clear hfz110_5
          try clear hfz114_0
          try clear hfz114_1
          try clear hfz114_2
          try clear hfz114_3
          try clear hfz114_4
          try clear hfz114_5
          try clear hfz116_0
          try clear hfz116_1
          try clear hfz116_2
          try clear hfz116_3
          try clear hfz116_4
          try clear hfz116_5
          try clear hfz118_0
          try clear hfz118_1
          try clear hfz118_2
          try clear hfz118_3
          try clear hfz118_4
          try clear hfz118_5
          try clear hfz26_0
          try clear hfz26_1
          try clear hfz26_2
          try clear hfz26_3
          try clear hfz26_4
          try clear hfz26_5
          try clear hfz32_0
          try clear hfz32_1
          try clear hfz32_2
          try clear hfz32_3
          try clear hfz32_4
          try clear hfz32_5
          try clear hfz35_0
          try clear hfz35_1
          try clear hfz35_2
          try clear hfz35_3
          try clear hfz35_4
          try clear hfz35_5
          try clear hfz36_0
          try clear hfz36_1
          try clear hfz36_2
          try clear hfz36_3
          try clear hfz36_4
          try clear hfz36_5
          try clear hfz41_0
          try clear hfz41_1
          try clear hfz41_2
          try clear hfz41_3
          try clear hfz41_4
          try clear hfz41_5
          try clear hfz44_0
          try clear hfz44_1
          try clear hfz44_2
          try clear hfz44_3
          try clear hfz44_4
          try clear hfz44_5
          try clear hfz45_0
          try clear hfz45_1
          try clear hfz45_2
          try clear hfz45_3
          try clear hfz45_4
          try clear hfz45_5
          try clear hfz47_0
          try clear hfz47_1
          try clear hfz47_2
          try clear hfz47_3
          try clear hfz47_4
          try clear hfz47_5
          try clear hfz48_0
          try clear hfz48_1
          try clear hfz48_2
          try clear hfz48_3
          try clear hfz48_4
          try clear hfz48_5
          try clear hfz51_0
          try clear hfz51_1
          try clear hfz51_2
          try clear hfz51_3
          try clear hfz51_4
          try clear hfz51_5
          try clear hfz54_0
          try clear hfz54_1
          try clear hfz54_2
          try clear hfz54_3
          try clear hfz54_4
          try clear hfz54_5
          try clear hfz55_0
          try clear hfz55_1
          try clear hfz55_2
          try clear hfz55_3
          try clear hfz55_4
          try clear hfz55_5
          try clear hfz57_0
          try clear hfz57_1
          try clear hfz57_2
          try clear hfz57_3
          try clear hfz57_4
          try clear hfz57_5
          try clear hfz58_0
          try clear hfz58_1
          try clear hfz58_2
          try clear hfz58_3
          try clear hfz58_4
          try clear hfz58_5
          try clear hfz63_0
          try clear hfz63_1
          try clear hfz63_2
          try clear hfz63_3
          try clear hfz63_4
          try clear hfz63_5
          try clear hfz69_0
          try clear hfz69_1
          try clear hfz69_2
          try clear hfz69_3
          try clear hfz69_4
          try clear hfz69_5
          try clear hfz72_0
          try clear hfz72_1
          try clear hfz72_2
          try clear hfz72_3
          try clear hfz72_4
          try clear hfz72_5
          try clear hfz73_0
          try clear hfz73_1
          try clear hfz73_2
          try clear hfz73_3
          try clear hfz73_4
          try clear hfz73_5
          try clear hfz78_0
          try clear hfz78_1
          try clear hfz78_2
          try clear hfz78_3
          try clear hfz78_4
          try clear hfz78_5
          try clear hfz81_0
          try clear hfz81_1
          try clear hfz81_2
          try clear hfz81_3
          try clear hfz81_4
          try clear hfz81_5
          try clear hfz82_0
          try clear hfz82_1
          try clear hfz82_2
          try clear hfz82_3
          try clear hfz82_4
          try clear hfz82_5
          try clear hfz84_0
          try clear hfz84_1
          try clear hfz84_2
          try clear hfz84_3
          try clear hfz84_4
          try clear hfz84_5
          try clear hfz85_0
          try clear hfz85_1
          try clear hfz85_2
          try clear hfz85_3
          try clear hfz85_4
          try clear hfz85_5
          try clear hfz88_0
          try clear hfz88_1
          try clear hfz88_2
          try clear hfz88_3
          try clear hfz88_4
          try clear hfz88_5
          try clear hfz91_0
          try clear hfz91_1
          try clear hfz91_2
          try clear hfz91_3
          try clear hfz91_4
          try clear hfz91_5
          try clear hfz92_0
          try clear hfz92_1
          try clear hfz92_2
          try clear hfz92_3
          try clear hfz92_4
          try clear hfz92_5
          try clear hfz94_0
          try clear hfz94_1
          try clear hfz94_2
          try clear hfz94_3
          try clear hfz94_4
          try clear hfz94_5
          try clear hfz95_0
          try clear hfz95_1
          try clear hfz95_2
          try clear hfz95_3
          try clear hfz95_4
          try clear hfz95_5
          try clear p2
          obtain ⟨kq, x65_13, rfl, HA, HJ13, BK408, BK409, BK410, HB⟩ := hcut
          cases kq with
          | zero => exact absurd HA.out (by simp [entaillaw2_TuplOrder.j1])
          | succ kj13 =>
            have H := HA.out
            clear HA
            simp only [entaillaw2_TuplOrder.j1] at H
            by_cases c119 : x65_13 = true
            · subst c119
              have H1 : (none) = some r := by rw [if_pos rfl] at H; exact H
              clear H
              have H := H1
              clear H1
              exact absurd H (by simp)
            · replace c119 := Bool.eq_false_iff.mpr c119
              subst c119
              have H1 : ((entaillaw2_Tame.f a3).bind fun bt421 => ((entaillaw2_Tame.f a4).bind fun bt427 => ((entaillaw2_Tame.f a5).bind fun bt433 => (entaillaw2_TuplOrder.l0 kj13 a3 a4 a5 (wrap64 (x13_1 + 1)) bt421.1 bt421.2.1 bt421.2.2.1 bt421.2.2.2.1 bt421.2.2.2.2.1 bt421.2.2.2.2.2 bt427.1 bt427.2.1 bt427.2.2.1 bt427.2.2.2.1 bt427.2.2.2.2.1 bt427.2.2.2.2.2 bt433.1 bt433.2.1 bt433.2.2.1 bt433.2.2.2.1 bt433.2.2.2.2.1 bt433.2.2.2.2.2)))) = some r := by rw [if_neg (show ¬ (false = true) by decide)] at H; exact H
              clear H
              have H := H1
              clear H1
              replace H := Option.bind_eq_some_iff.mp H
              obtain ⟨⟨t421, t422, t423, t424, t425, t426⟩, A1200, H⟩ := H
              replace H : ((entaillaw2_Tame.f a4).bind fun bt427 => ((entaillaw2_Tame.f a5).bind fun bt433 => (entaillaw2_TuplOrder.l0 kj13 a3 a4 a5 (wrap64 (x13_1 + 1)) t421 t422 t423 t424 t425 t426 bt427.1 bt427.2.1 bt427.2.2.1 bt427.2.2.2.1 bt427.2.2.2.2.1 bt427.2.2.2.2.2 bt433.1 bt433.2.1 bt433.2.2.1 bt433.2.2.2.1 bt433.2.2.2.2.1 bt433.2.2.2.2.2))) = some r := H
              have A120 := Aside0.mk A1200
              clear A1200
              replace H := Option.bind_eq_some_iff.mp H
              obtain ⟨⟨t427, t428, t429, t430, t431, t432⟩, A1210, H⟩ := H
              replace H : ((entaillaw2_Tame.f a5).bind fun bt433 => (entaillaw2_TuplOrder.l0 kj13 a3 a4 a5 (wrap64 (x13_1 + 1)) t421 t422 t423 t424 t425 t426 t427 t428 t429 t430 t431 t432 bt433.1 bt433.2.1 bt433.2.2.1 bt433.2.2.2.1 bt433.2.2.2.2.1 bt433.2.2.2.2.2)) = some r := H
              have A121 := Aside0.mk A1210
              clear A1210
              replace H := Option.bind_eq_some_iff.mp H
              obtain ⟨⟨t433, t434, t435, t436, t437, t438⟩, A1220, H⟩ := H
              replace H : (entaillaw2_TuplOrder.l0 kj13 a3 a4 a5 (wrap64 (x13_1 + 1)) t421 t422 t423 t424 t425 t426 t427 t428 t429 t430 t431 t432 t433 t434 t435 t436 t437 t438) = some r := H
              have A122 := Aside0.mk A1220
              clear A1220
              have H' := Aside0.mk H
              clear H
              go_wp2_with (first | ((with_reducible refine gate_callee (f := 23) rfl ?_); refine goesL_ (some 67) rfl rfl Try.func23 (by kernel_rfl) rfl #[.int .i64 a3] rfl (by (try simp only [List.map_toArray, List.map_cons, List.map_nil]); first | done | rfl | (simp only [List.length_drop, List.length_take]; rfl)) ?_; (with_reducible refine (entaillaw2_Tame.calls a3 t421 t422 t423 t424 t425 t426 _ A120.out).mono ?_); rintro e w123 ⟨rfl, hb⟩; refine ⟨_, rfl, ?_⟩; have n0_ := Aside0.mk (blk_below (g := gb408) (o := .cells #[.string x409000_1, .string x409001_1, .string x409002_1, .string x409003_1, .string x409004_1, .string x409005_1] 29 (0, 0)) (by (with_reducible repeat (first | refine blk_drewN ?_ _ | refine blk_drew ?_ | refine blk_alloc ?_ _)); exact BK408.out) hb); have n1_ := Aside0.mk (blk_below (g := gb409) (o := .cells #[.string x410000_1, .string x410001_1, .string x410002_1, .string x410003_1, .string x410004_1, .string x410005_1] 29 (0, 0)) (by (with_reducible repeat (first | refine blk_drewN ?_ _ | refine blk_drew ?_ | refine blk_alloc ?_ _)); exact BK409.out) hb); have n2_ := Aside0.mk (blk_below (g := gb410) (o := .cells #[.string x411000_1, .string x411001_1, .string x411002_1, .string x411003_1, .string x411004_1, .string x411005_1] 29 (0, 0)) (by (with_reducible repeat (first | refine blk_drewN ?_ _ | refine blk_drew ?_ | refine blk_alloc ?_ _)); exact BK410.out) hb); have n3_ := Aside0.mk (below_step (by repeat (first | (with_reducible first | exact HB.out | apply below_alloc | apply pw_below_drewN | apply below_drew1 | refine below_set ?_ GE408.out | refine below_set ?_ GE409.out | refine below_set ?_ GE410.out) | exact HB.out)) hb); clear BK408; clear BK409; clear BK410; clear HB; have BK408 := n0_; have BK409 := n1_; have BK410 := n2_; have HB := n3_; clear n0_ n1_ n2_ n3_; (try clear hb); (try clear hb2); (try clear hk); (try clear hi)) | ((with_reducible refine gate_callee (f := 23) rfl ?_); refine goesL_ (some 69) rfl rfl Try.func23 (by kernel_rfl) rfl #[.int .i64 a4] rfl (by (try simp only [List.map_toArray, List.map_cons, List.map_nil]); first | done | rfl | (simp only [List.length_drop, List.length_take]; rfl)) ?_; (with_reducible refine (entaillaw2_Tame.calls a4 t427 t428 t429 t430 t431 t432 _ A121.out).mono ?_); rintro e w124 ⟨rfl, hb⟩; refine ⟨_, rfl, ?_⟩; have n0_ := Aside0.mk (blk_below (g := gb408) (o := .cells #[.string x409000_1, .string x409001_1, .string x409002_1, .string x409003_1, .string x409004_1, .string x409005_1] 29 (0, 0)) (by (with_reducible repeat (first | refine blk_drewN ?_ _ | refine blk_drew ?_ | refine blk_alloc ?_ _)); exact BK408.out) hb); have n1_ := Aside0.mk (blk_below (g := gb409) (o := .cells #[.string x410000_1, .string x410001_1, .string x410002_1, .string x410003_1, .string x410004_1, .string x410005_1] 29 (0, 0)) (by (with_reducible repeat (first | refine blk_drewN ?_ _ | refine blk_drew ?_ | refine blk_alloc ?_ _)); exact BK409.out) hb); have n2_ := Aside0.mk (blk_below (g := gb410) (o := .cells #[.string x411000_1, .string x411001_1, .string x411002_1, .string x411003_1, .string x411004_1, .string x411005_1] 29 (0, 0)) (by (with_reducible repeat (first | refine blk_drewN ?_ _ | refine blk_drew ?_ | refine blk_alloc ?_ _)); exact BK410.out) hb); have n3_ := Aside0.mk (below_step (by repeat (first | (with_reducible first | exact HB.out | apply below_alloc | apply pw_below_drewN | apply below_drew1 | refine below_set ?_ GE408.out | refine below_set ?_ GE409.out | refine below_set ?_ GE410.out) | exact HB.out)) hb); clear BK408; clear BK409; clear BK410; clear HB; have BK408 := n0_; have BK409 := n1_; have BK410 := n2_; have HB := n3_; clear n0_ n1_ n2_ n3_; (try clear hb); (try clear hb2); (try clear hk); (try clear hi)) | ((with_reducible refine gate_callee (f := 23) rfl ?_); refine goesL_ (some 71) rfl rfl Try.func23 (by kernel_rfl) rfl #[.int .i64 a5] rfl (by (try simp only [List.map_toArray, List.map_cons, List.map_nil]); first | done | rfl | (simp only [List.length_drop, List.length_take]; rfl)) ?_; (with_reducible refine (entaillaw2_Tame.calls a5 t433 t434 t435 t436 t437 t438 _ A122.out).mono ?_); rintro e w125 ⟨rfl, hb⟩; refine ⟨_, rfl, ?_⟩; have n0_ := Aside0.mk (blk_below (g := gb408) (o := .cells #[.string x409000_1, .string x409001_1, .string x409002_1, .string x409003_1, .string x409004_1, .string x409005_1] 29 (0, 0)) (by (with_reducible repeat (first | refine blk_drewN ?_ _ | refine blk_drew ?_ | refine blk_alloc ?_ _)); exact BK408.out) hb); have n1_ := Aside0.mk (blk_below (g := gb409) (o := .cells #[.string x410000_1, .string x410001_1, .string x410002_1, .string x410003_1, .string x410004_1, .string x410005_1] 29 (0, 0)) (by (with_reducible repeat (first | refine blk_drewN ?_ _ | refine blk_drew ?_ | refine blk_alloc ?_ _)); exact BK409.out) hb); have n2_ := Aside0.mk (blk_below (g := gb410) (o := .cells #[.string x411000_1, .string x411001_1, .string x411002_1, .string x411003_1, .string x411004_1, .string x411005_1] 29 (0, 0)) (by (with_reducible repeat (first | refine blk_drewN ?_ _ | refine blk_drew ?_ | refine blk_alloc ?_ _)); exact BK410.out) hb); have n3_ := Aside0.mk (below_step (by repeat (first | (with_reducible first | exact HB.out | apply below_alloc | apply pw_below_drewN | apply below_drew1 | refine below_set ?_ GE408.out | refine below_set ?_ GE409.out | refine below_set ?_ GE410.out) | exact HB.out)) hb); clear BK408; clear BK409; clear BK410; clear HB; have BK408 := n0_; have BK409 := n1_; have BK410 := n2_; have HB := n3_; clear n0_ n1_ n2_ n3_; (try clear hb); (try clear hb2); (try clear hk); (try clear hi); have hnb126 := NB408_409.out; have hnc126 := NB409_408.out; have hnb127 := NB408_410.out; have hnc127 := NB410_408.out; have hcz128_0 : w125.cell? ⟨gb408, 0, none⟩ = some (.string x409000_1) := (blk_cell BK408.out 0).trans rfl; have hcz128_1 : w125.cell? ⟨gb408, 1, none⟩ = some (.string x409001_1) := (blk_cell BK408.out 1).trans rfl; have hcz128_2 : w125.cell? ⟨gb408, 2, none⟩ = some (.string x409002_1) := (blk_cell BK408.out 2).trans rfl; have hcz128_3 : w125.cell? ⟨gb408, 3, none⟩ = some (.string x409003_1) := (blk_cell BK408.out 3).trans rfl; have hcz128_4 : w125.cell? ⟨gb408, 4, none⟩ = some (.string x409004_1) := (blk_cell BK408.out 4).trans rfl; have hcz128_5 : w125.cell? ⟨gb408, 5, none⟩ = some (.string x409005_1) := (blk_cell BK408.out 5).trans rfl; have hfz128_0 := blk_frozen BK408.out 0; have hfz128_1 := blk_frozen BK408.out 1; have hfz128_2 := blk_frozen BK408.out 2; have hfz128_3 := blk_frozen BK408.out 3; have hfz128_4 := blk_frozen BK408.out 4; have hfz128_5 := blk_frozen BK408.out 5; have hnb129 := NB409_410.out; have hnc129 := NB410_409.out; have hcz130_0 : w125.cell? ⟨gb409, 0, none⟩ = some (.string x410000_1) := (blk_cell BK409.out 0).trans rfl; have hcz130_1 : w125.cell? ⟨gb409, 1, none⟩ = some (.string x410001_1) := (blk_cell BK409.out 1).trans rfl; have hcz130_2 : w125.cell? ⟨gb409, 2, none⟩ = some (.string x410002_1) := (blk_cell BK409.out 2).trans rfl; have hcz130_3 : w125.cell? ⟨gb409, 3, none⟩ = some (.string x410003_1) := (blk_cell BK409.out 3).trans rfl; have hcz130_4 : w125.cell? ⟨gb409, 4, none⟩ = some (.string x410004_1) := (blk_cell BK409.out 4).trans rfl; have hcz130_5 : w125.cell? ⟨gb409, 5, none⟩ = some (.string x410005_1) := (blk_cell BK409.out 5).trans rfl; have hfz130_0 := blk_frozen BK409.out 0; have hfz130_1 := blk_frozen BK409.out 1; have hfz130_2 := blk_frozen BK409.out 2; have hfz130_3 := blk_frozen BK409.out 3; have hfz130_4 := blk_frozen BK409.out 4; have hfz130_5 := blk_frozen BK409.out 5; have hcz131_0 : w125.cell? ⟨gb410, 0, none⟩ = some (.string x411000_1) := (blk_cell BK410.out 0).trans rfl; have hcz131_1 : w125.cell? ⟨gb410, 1, none⟩ = some (.string x411001_1) := (blk_cell BK410.out 1).trans rfl; have hcz131_2 : w125.cell? ⟨gb410, 2, none⟩ = some (.string x411002_1) := (blk_cell BK410.out 2).trans rfl; have hcz131_3 : w125.cell? ⟨gb410, 3, none⟩ = some (.string x411003_1) := (blk_cell BK410.out 3).trans rfl; have hcz131_4 : w125.cell? ⟨gb410, 4, none⟩ = some (.string x411004_1) := (blk_cell BK410.out 4).trans rfl; have hcz131_5 : w125.cell? ⟨gb410, 5, none⟩ = some (.string x411005_1) := (blk_cell BK410.out 5).trans rfl; have hfz131_0 := blk_frozen BK410.out 0; have hfz131_1 := blk_frozen BK410.out 1; have hfz131_2 := blk_frozen BK410.out 2; have hfz131_3 := blk_frozen BK410.out 3; have hfz131_4 := blk_frozen BK410.out 4; have hfz131_5 := blk_frozen BK410.out 5))
              go_roundg kj13
              case measure => have := HK1.out; have := HJ13.out; omega
              case rel => exact ⟨(wrap64 (x13_1 + 1)), (t421), (t422), (t423), (t424), (t425), (t426), (t427), (t428), (t429), (t430), (t431), (t432), (t433), (t434), (t435), (t436), (t437), (t438), (by first | rfl | (simp; done) | (simp [*]; done)), H', ⟨by have := HK1.out; have := HJ13.out; omega⟩, ⟨by (with_reducible repeat (first | refine blk_drewN ?_ _ | refine blk_drew ?_ | refine blk_alloc ?_ _)); refine blk_far ?_ NB408_410.out _; (with_reducible repeat (first | refine blk_drewN ?_ _ | refine blk_drew ?_ | refine blk_alloc ?_ _)); refine blk_far ?_ NB408_410.out _; (with_reducible repeat (first | refine blk_drewN ?_ _ | refine blk_drew ?_ | refine blk_alloc ?_ _)); refine blk_far ?_ NB408_410.out _; (with_reducible repeat (first | refine blk_drewN ?_ _ | refine blk_drew ?_ | refine blk_alloc ?_ _)); refine blk_far ?_ NB408_410.out _; (with_reducible repeat (first | refine blk_drewN ?_ _ | refine blk_drew ?_ | refine blk_alloc ?_ _)); refine blk_far ?_ NB408_410.out _; (with_reducible repeat (first | refine blk_drewN ?_ _ | refine blk_drew ?_ | refine blk_alloc ?_ _)); refine blk_far ?_ NB408_410.out _; (with_reducible repeat (first | refine blk_drewN ?_ _ | refine blk_drew ?_ | refine blk_alloc ?_ _)); refine blk_far ?_ NB408_409.out _; (with_reducible repeat (first | refine blk_drewN ?_ _ | refine blk_drew ?_ | refine blk_alloc ?_ _)); refine blk_far ?_ NB408_409.out _; (with_reducible repeat (first | refine blk_drewN ?_ _ | refine blk_drew ?_ | refine blk_alloc ?_ _)); refine blk_far ?_ NB408_409.out _; (with_reducible repeat (first | refine blk_drewN ?_ _ | refine blk_drew ?_ | refine blk_alloc ?_ _)); refine blk_far ?_ NB408_409.out _; (with_reducible repeat (first | refine blk_drewN ?_ _ | refine blk_drew ?_ | refine blk_alloc ?_ _)); refine blk_far ?_ NB408_409.out _; (with_reducible repeat (first | refine blk_drewN ?_ _ | refine blk_drew ?_ | refine blk_alloc ?_ _)); refine blk_far ?_ NB408_409.out _; (with_reducible repeat (first | refine blk_drewN ?_ _ | refine blk_drew ?_ | refine blk_alloc ?_ _)); refine blk_put (cs := #[.string t421, .string t422, .string t423, .string t424, .string t425, .string x409005_1]) ?_ 5 _ rfl; (with_reducible repeat (first | refine blk_drewN ?_ _ | refine blk_drew ?_ | refine blk_alloc ?_ _)); refine blk_put (cs := #[.string t421, .string t422, .string t423, .string t424, .string x409004_1, .string x409005_1]) ?_ 4 _ rfl; (with_reducible repeat (first | refine blk_drewN ?_ _ | refine blk_drew ?_ | refine blk_alloc ?_ _)); refine blk_put (cs := #[.string t421, .string t422, .string t423, .string x409003_1, .string x409004_1, .string x409005_1]) ?_ 3 _ rfl; (with_reducible repeat (first | refine blk_drewN ?_ _ | refine blk_drew ?_ | refine blk_alloc ?_ _)); refine blk_put (cs := #[.string t421, .string t422, .string x409002_1, .string x409003_1, .string x409004_1, .string x409005_1]) ?_ 2 _ rfl; (with_reducible repeat (first | refine blk_drewN ?_ _ | refine blk_drew ?_ | refine blk_alloc ?_ _)); refine blk_put (cs := #[.string t421, .string x409001_1, .string x409002_1, .string x409003_1, .string x409004_1, .string x409005_1]) ?_ 1 _ rfl; (with_reducible repeat (first | refine blk_drewN ?_ _ | refine blk_drew ?_ | refine blk_alloc ?_ _)); refine blk_put (cs := #[.string x409000_1, .string x409001_1, .string x409002_1, .string x409003_1, .string x409004_1, .string x409005_1]) ?_ 0 _ rfl; (with_reducible repeat (first | refine blk_drewN ?_ _ | refine blk_drew ?_ | refine blk_alloc ?_ _)); exact BK408.out⟩, ⟨by (with_reducible repeat (first | refine blk_drewN ?_ _ | refine blk_drew ?_ | refine blk_alloc ?_ _)); refine blk_far ?_ NB409_410.out _; (with_reducible repeat (first | refine blk_drewN ?_ _ | refine blk_drew ?_ | refine blk_alloc ?_ _)); refine blk_far ?_ NB409_410.out _; (with_reducible repeat (first | refine blk_drewN ?_ _ | refine blk_drew ?_ | refine blk_alloc ?_ _)); refine blk_far ?_ NB409_410.out _; (with_reducible repeat (first | refine blk_drewN ?_ _ | refine blk_drew ?_ | refine blk_alloc ?_ _)); refine blk_far ?_ NB409_410.out _; (with_reducible repeat (first | refine blk_drewN ?_ _ | refine blk_drew ?_ | refine blk_alloc ?_ _)); refine blk_far ?_ NB409_410.out _; (with_reducible repeat (first | refine blk_drewN ?_ _ | refine blk_drew ?_ | refine blk_alloc ?_ _)); refine blk_far ?_ NB409_410.out _; (with_reducible repeat (first | refine blk_drewN ?_ _ | refine blk_drew ?_ | refine blk_alloc ?_ _)); refine blk_put (cs := #[.string t427, .string t428, .string t429, .string t430, .string t431, .string x410005_1]) ?_ 5 _ rfl; (with_reducible repeat (first | refine blk_drewN ?_ _ | refine blk_drew ?_ | refine blk_alloc ?_ _)); refine blk_put (cs := #[.string t427, .string t428, .string t429, .string t430, .string x410004_1, .string x410005_1]) ?_ 4 _ rfl; (with_reducible repeat (first | refine blk_drewN ?_ _ | refine blk_drew ?_ | refine blk_alloc ?_ _)); refine blk_put (cs := #[.string t427, .string t428, .string t429, .string x410003_1, .string x410004_1, .string x410005_1]) ?_ 3 _ rfl; (with_reducible repeat (first | refine blk_drewN ?_ _ | refine blk_drew ?_ | refine blk_alloc ?_ _)); refine blk_put (cs := #[.string t427, .string t428, .string x410002_1, .string x410003_1, .string x410004_1, .string x410005_1]) ?_ 2 _ rfl; (with_reducible repeat (first | refine blk_drewN ?_ _ | refine blk_drew ?_ | refine blk_alloc ?_ _)); refine blk_put (cs := #[.string t427, .string x410001_1, .string x410002_1, .string x410003_1, .string x410004_1, .string x410005_1]) ?_ 1 _ rfl; (with_reducible repeat (first | refine blk_drewN ?_ _ | refine blk_drew ?_ | refine blk_alloc ?_ _)); refine blk_put (cs := #[.string x410000_1, .string x410001_1, .string x410002_1, .string x410003_1, .string x410004_1, .string x410005_1]) ?_ 0 _ rfl; (with_reducible repeat (first | refine blk_drewN ?_ _ | refine blk_drew ?_ | refine blk_alloc ?_ _)); refine blk_far ?_ NB409_408.out _; (with_reducible repeat (first | refine blk_drewN ?_ _ | refine blk_drew ?_ | refine blk_alloc ?_ _)); refine blk_far ?_ NB409_408.out _; (with_reducible repeat (first | refine blk_drewN ?_ _ | refine blk_drew ?_ | refine blk_alloc ?_ _)); refine blk_far ?_ NB409_408.out _; (with_reducible repeat (first | refine blk_drewN ?_ _ | refine blk_drew ?_ | refine blk_alloc ?_ _)); refine blk_far ?_ NB409_408.out _; (with_reducible repeat (first | refine blk_drewN ?_ _ | refine blk_drew ?_ | refine blk_alloc ?_ _)); refine blk_far ?_ NB409_408.out _; (with_reducible repeat (first | refine blk_drewN ?_ _ | refine blk_drew ?_ | refine blk_alloc ?_ _)); refine blk_far ?_ NB409_408.out _; (with_reducible repeat (first | refine blk_drewN ?_ _ | refine blk_drew ?_ | refine blk_alloc ?_ _)); exact BK409.out⟩, ⟨by (with_reducible repeat (first | refine blk_drewN ?_ _ | refine blk_drew ?_ | refine blk_alloc ?_ _)); refine blk_put (cs := #[.string t433, .string t434, .string t435, .string t436, .string t437, .string x411005_1]) ?_ 5 _ rfl; (with_reducible repeat (first | refine blk_drewN ?_ _ | refine blk_drew ?_ | refine blk_alloc ?_ _)); refine blk_put (cs := #[.string t433, .string t434, .string t435, .string t436, .string x411004_1, .string x411005_1]) ?_ 4 _ rfl; (with_reducible repeat (first | refine blk_drewN ?_ _ | refine blk_drew ?_ | refine blk_alloc ?_ _)); refine blk_put (cs := #[.string t433, .string t434, .string t435, .string x411003_1, .string x411004_1, .string x411005_1]) ?_ 3 _ rfl; (with_reducible repeat (first | refine blk_drewN ?_ _ | refine blk_drew ?_ | refine blk_alloc ?_ _)); refine blk_put (cs := #[.string t433, .string t434, .string x411002_1, .string x411003_1, .string x411004_1, .string x411005_1]) ?_ 2 _ rfl; (with_reducible repeat (first | refine blk_drewN ?_ _ | refine blk_drew ?_ | refine blk_alloc ?_ _)); refine blk_put (cs := #[.string t433, .string x411001_1, .string x411002_1, .string x411003_1, .string x411004_1, .string x411005_1]) ?_ 1 _ rfl; (with_reducible repeat (first | refine blk_drewN ?_ _ | refine blk_drew ?_ | refine blk_alloc ?_ _)); refine blk_put (cs := #[.string x411000_1, .string x411001_1, .string x411002_1, .string x411003_1, .string x411004_1, .string x411005_1]) ?_ 0 _ rfl; (with_reducible repeat (first | refine blk_drewN ?_ _ | refine blk_drew ?_ | refine blk_alloc ?_ _)); refine blk_far ?_ NB410_409.out _; (with_reducible repeat (first | refine blk_drewN ?_ _ | refine blk_drew ?_ | refine blk_alloc ?_ _)); refine blk_far ?_ NB410_409.out _; (with_reducible repeat (first | refine blk_drewN ?_ _ | refine blk_drew ?_ | refine blk_alloc ?_ _)); refine blk_far ?_ NB410_409.out _; (with_reducible repeat (first | refine blk_drewN ?_ _ | refine blk_drew ?_ | refine blk_alloc ?_ _)); refine blk_far ?_ NB410_409.out _; (with_reducible repeat (first | refine blk_drewN ?_ _ | refine blk_drew ?_ | refine blk_alloc ?_ _)); refine blk_far ?_ NB410_409.out _; (with_reducible repeat (first | refine blk_drewN ?_ _ | refine blk_drew ?_ | refine blk_alloc ?_ _)); refine blk_far ?_ NB410_409.out _; (with_reducible repeat (first | refine blk_drewN ?_ _ | refine blk_drew ?_ | refine blk_alloc ?_ _)); refine blk_far ?_ NB410_408.out _; (with_reducible repeat (first | refine blk_drewN ?_ _ | refine blk_drew ?_ | refine blk_alloc ?_ _)); refine blk_far ?_ NB410_408.out _; (with_reducible repeat (first | refine blk_drewN ?_ _ | refine blk_drew ?_ | refine blk_alloc ?_ _)); refine blk_far ?_ NB410_408.out _; (with_reducible repeat (first | refine blk_drewN ?_ _ | refine blk_drew ?_ | refine blk_alloc ?_ _)); refine blk_far ?_ NB410_408.out _; (with_reducible repeat (first | refine blk_drewN ?_ _ | refine blk_drew ?_ | refine blk_alloc ?_ _)); refine blk_far ?_ NB410_408.out _; (with_reducible repeat (first | refine blk_drewN ?_ _ | refine blk_drew ?_ | refine blk_alloc ?_ _)); refine blk_far ?_ NB410_408.out _; (with_reducible repeat (first | refine blk_drewN ?_ _ | refine blk_drew ?_ | refine blk_alloc ?_ _)); exact BK410.out⟩, ⟨by repeat (first | (with_reducible first | exact HB.out | apply below_alloc | apply pw_below_drewN | apply below_drew1 | refine below_set ?_ GE408.out | refine below_set ?_ GE409.out | refine below_set ?_ GE410.out) | exact HB.out)⟩⟩
      · rw [if_neg c10] at H
        have c10b0 : decide (x13_1 < 2) = false := decide_eq_false c10
        clear c10
        replace H := Option.bind_eq_some_iff.mp H
        obtain ⟨t411, A1320, H⟩ := H
        replace H : (some t411) = some r := H
        have A132 := Aside0.mk A1320
        clear A1320
        obtain rfl := Option.some.inj H
        go_wp2_with (first | ((with_reducible refine gate_callee (f := 14) rfl ?_); refine goesL_ (some 72) rfl rfl Try.func14 (by kernel_rfl) rfl #[] rfl (by (try simp only [List.map_toArray, List.map_cons, List.map_nil]); first | done | rfl | (simp only [List.length_drop, List.length_take]; rfl)) ?_; (with_reducible refine (entaillaw2_awake.calls k1  t411 _ A132.out).mono ?_); rintro e w133 ⟨rfl, hb⟩; refine ⟨_, rfl, ?_⟩; have n0_ := Aside0.mk (blk_below (g := gb408) (o := .cells #[.string x409000_1, .string x409001_1, .string x409002_1, .string x409003_1, .string x409004_1, .string x409005_1] 29 (0, 0)) (by (with_reducible repeat (first | refine blk_drewN ?_ _ | refine blk_drew ?_ | refine blk_alloc ?_ _)); exact BK408.out) hb); have n1_ := Aside0.mk (blk_below (g := gb409) (o := .cells #[.string x410000_1, .string x410001_1, .string x410002_1, .string x410003_1, .string x410004_1, .string x410005_1] 29 (0, 0)) (by (with_reducible repeat (first | refine blk_drewN ?_ _ | refine blk_drew ?_ | refine blk_alloc ?_ _)); exact BK409.out) hb); have n2_ := Aside0.mk (blk_below (g := gb410) (o := .cells #[.string x411000_1, .string x411001_1, .string x411002_1, .string x411003_1, .string x411004_1, .string x411005_1] 29 (0, 0)) (by (with_reducible repeat (first | refine blk_drewN ?_ _ | refine blk_drew ?_ | refine blk_alloc ?_ _)); exact BK410.out) hb); have n3_ := Aside0.mk (below_step (by repeat (first | (with_reducible first | exact HB.out | apply below_alloc | apply pw_below_drewN | apply below_drew1 | refine below_set ?_ GE408.out | refine below_set ?_ GE409.out | refine below_set ?_ GE410.out) | exact HB.out)) hb); clear BK408; clear BK409; clear BK410; clear HB; have BK408 := n0_; have BK409 := n1_; have BK410 := n2_; have HB := n3_; clear n0_ n1_ n2_ n3_; (try clear hb); (try clear hb2); (try clear hk); (try clear hi)))
        go_ret
        exact ⟨by first | rfl | (simp [errW_none, errW_some] <;> rfl) | (simp [*, errW_none, errW_some] <;> rfl), by repeat (first | (with_reducible first | exact HB.out | apply below_alloc | apply pw_below_drewN | apply below_drew1 | refine below_set ?_ GE408.out | refine below_set ?_ GE409.out | refine below_set ?_ GE410.out) | exact HB.out)⟩

end Go.Proofs.Ytjmlloiolppoiaa.P
