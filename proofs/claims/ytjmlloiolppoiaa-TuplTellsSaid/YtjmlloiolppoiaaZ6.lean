/- Functions of the given program as plain Lean functions, their contracts, and the plain laws: what the row needs of them. -/
import Derived.Test.YtjmlloiolppoiaaProg
import Derived.Test.YtjmlloiolppoiaaZ5
import Derived.Below
import Derived.Deep.Draws
import Derived.Deep.AppendLies
import Derived.Maps.AppendAt
import Derived.OwnWalk
import Derived.Laws.BytesArg
import Derived.Laws.MakeOwn
import Derived.Laws.OwnMore
import Derived.Deep.OwnRows
import Derived.Tactics
import Derived.Lib.ConvBytes
import Derived.Laws.Slices
import Derived.WalkKit
import Derived.KernelRfl
import Derived.RowKit3
import Derived.Deep.LoopGhost
import Derived.Deep.QuietTactic
import Derived.BigQuiet
import Derived.WideLaws
import Derived.Deep.DeepCutAuto
import Derived.Deep.CutBlock
import Derived.Deep.RegionHeld3
import Derived.Laws.Rows
import Derived.Lib.AppendStr
import Derived.ArgAppend
import Derived.Laws.IdiomCopy
import Derived.OrdersHeld
import Derived.Laws.BitsLemmas
import Derived.RowKit
import Derived.Lib.Bytealg
import Derived.Laws.Externs
import Derived.Laws.StructEq
import Derived.Shelf.Strings.Builder1
import Derived.Shelf.Strings.Builder2
import Derived.Shelf.Strings.OnBuilder
import Derived.Shelf.Small.Strs
import Derived.Shelf.Strings.Search1
import Derived.Shelf.Strings.Search2
import Derived.Shelf.Strings.Cut
import Derived.Shelf.LaysM
import Derived.Shelf.Strings.Shaped
import Derived.Lib.IndexBytes
section
namespace Go.Proofs.Ytjmlloiolppoiaa.P
open Go.RowKit Go.Proofs.YtjmlloiolppoiaaW.PrintWords Go.Proofs.YtjmlloiolppoiaaW.PrintLast Go.Proofs.YtjmlloiolppoiaaW.PrintMore
set_option linter.unusedVariables false
set_option linter.unusedSimpArgs false
attribute [local go_sem high] eqA29
mutual
def entaillaw2_TuplTells.j0 : Nat → ByteArray → Int → Int → Bool → ByteArray → ByteArray → ByteArray → ByteArray → ByteArray → ByteArray → ByteArray → ByteArray → ByteArray → ByteArray → ByteArray → ByteArray → Option (Bool)
 | 0, _, _, _, _, _, _, _, _, _, _, _, _, _, _, _, _ => none
 | k + 1, x2, x3, x4, x28, x354000, x354001, x354002, x354003, x354004, x354005, x355000, x355001, x355002, x355003, x355004, x355005 => if x28 = true then ((entaillaw2_awake.f k).bind fun t357 => (some t357)) else (entaillaw2_TuplTells.l0 k x2 x3 x4 0 x354000 x354001 x354002 x354003 x354004 x354005 x355000 x355001 x355002 x355003 x355004 x355005)
def entaillaw2_TuplTells.l0 : Nat → ByteArray → Int → Int → Int → ByteArray → ByteArray → ByteArray → ByteArray → ByteArray → ByteArray → ByteArray → ByteArray → ByteArray → ByteArray → ByteArray → ByteArray → Option (Bool)
 | 0, _, _, _, _, _, _, _, _, _, _, _, _, _, _, _, _ => none
 | k + 1, x2, x3, x4, x11, x354000, x354001, x354002, x354003, x354004, x354005, x355000, x355001, x355002, x355003, x355004, x355005 => if x11 < 2 then ((tupl_Parse.f k x2).bind fun bt359 => ((entailref1_Parse.f k x2).bind fun bt367 => ((tupl_Ok.f k x354000 x354001 x354002 x354003 x354004 x354005).bind fun t375 => ((entailref1_Ok.f k x354000 x354001 x354002 x354003 x354004 x354005).bind fun t376 => (if (t375 != t376) = true then (none) else ((tupl_Text.f k x354000 x354001 x354002 x354003 x354004 x354005).bind fun t377 => ((entailref1_Text.f k x354000 x354001 x354002 x354003 x354004 x354005).bind fun t378 => (if t377.toList = t378.toList then ((tupl_Less.f k x354000 x354001 x354002 x354003 x354004 x354005 x355000 x355001 x355002 x355003 x355004 x355005).bind fun t379 => ((entailref1_Less.f k x354000 x354001 x354002 x354003 x354004 x354005 x355000 x355001 x355002 x355003 x355004 x355005).bind fun t380 => (if (t379 != t380) = true then (none) else (if ((!(bt359.1.toList == bt367.1.toList) || (!(bt359.2.1.toList == bt367.2.1.toList))) || (!(bt359.2.2.1.toList == bt367.2.2.1.toList) || ((!(bt359.2.2.2.1.toList == bt367.2.2.2.1.toList) || (!(bt359.2.2.2.2.1.toList == bt367.2.2.2.2.1.toList) || (!(bt359.2.2.2.2.2.1.toList == bt367.2.2.2.2.2.1.toList))))))) = true then (none) else (entaillaw2_TuplTells.j2 k x3 x4 x11 (bt359.2.2.2.2.2.2 != bt367.2.2.2.2.2.2)))))) else (none))))))))) else ((entaillaw2_awake.f k).bind fun t358 => (some t358))
def entaillaw2_TuplTells.j2 : Nat → Int → Int → Int → Bool → Option (Bool)
 | 0, _, _, _, _ => none
 | k + 1, x3, x4, x11, x74 => if x74 = true then (none) else ((entaillaw2_Tame.f x3).bind fun bt381 => ((entaillaw2_Tame.f x4).bind fun bt387 => ((entailref1_Text.f k bt381.1 bt381.2.1 bt381.2.2.1 bt381.2.2.2.1 bt381.2.2.2.2.1 bt381.2.2.2.2.2).bind fun t393 => (entaillaw2_TuplTells.l0 k t393 x3 x4 (wrap64 (x11 + 1)) bt381.1 bt381.2.1 bt381.2.2.1 bt381.2.2.2.1 bt381.2.2.2.2.1 bt381.2.2.2.2.2 bt387.1 bt387.2.1 bt387.2.2.1 bt387.2.2.2.1 bt387.2.2.2.2.1 bt387.2.2.2.2.2))))
end
def entaillaw2_TuplTells.f (k : Nat) (a0_0 : ByteArray) (a0_1 : ByteArray) (a0_2 : ByteArray) (a0_3 : ByteArray) (a0_4 : ByteArray) (a0_5 : ByteArray) (a1_0 : ByteArray) (a1_1 : ByteArray) (a1_2 : ByteArray) (a1_3 : ByteArray) (a1_4 : ByteArray) (a1_5 : ByteArray) (a2 : ByteArray) (a3 : Int) (a4 : Int) : Option (Bool) := (entaillaw2_Short.f a0_0 a0_1 a0_2 a0_3 a0_4 a0_5).bind fun t355 => (if t355 = true then ((entaillaw2_Short.f a1_0 a1_1 a1_2 a1_3 a1_4 a1_5).bind fun t356 => (if t356 = true then (entaillaw2_TuplTells.j0 k a2 a3 a4 (decide ((a2.size : Int) > 900)) a0_0 a0_1 a0_2 a0_3 a0_4 a0_5 a1_0 a1_1 a1_2 a1_3 a1_4 a1_5) else (entaillaw2_TuplTells.j0 k a2 a3 a4 true a0_0 a0_1 a0_2 a0_3 a0_4 a0_5 a1_0 a1_1 a1_2 a1_3 a1_4 a1_5))) else (entaillaw2_TuplTells.j0 k a2 a3 a4 true a0_0 a0_1 a0_2 a0_3 a0_4 a0_5 a1_0 a1_1 a1_2 a1_3 a1_4 a1_5))
def entaillaw2_TuplTells.T8 : Bool × List (List Nat × List Nat) := (true, [([], []), ([0], [0]), ([], []), ([2, 1], [2]), ([1, 3], [1, 3]), ([4, 3], [4]), ([5], [5]), ([6, 5, 5], [5, 6]), ([5], [5]), ([8, 7, 5], [5, 8]), ([7, 9, 5], [5, 7, 9]), ([5, 10], [5, 10]), ([11, 9], [11]), ([12], [12]), ([12], [12]), ([13, 14, 12, 12], [12, 13, 14]), ([12], [12]), ([12], [12]), ([16, 17, 15, 12], [12, 16, 17]), ([15, 18, 12], [12, 15, 18]), ([12, 19], [12, 19]), ([20, 18], [20]), ([21], [21]), ([21], [21]), ([22, 23, 21], [21, 22, 23]), ([21, 24], [21, 24]), ([25, 21], [25]), ([26], [26]), ([26], [26]), ([27, 28, 26], [26, 27, 28]), ([26, 29], [26, 29])])
def entaillaw2_TuplTells.B8 : List Nat := [0, 1, 0, 7, 15, 31, 63, 127, 63, 511, 1023, 2047, 4095, 8191, 8191, 32767, 8191, 8191, 262143, 524287, 1048575, 2097151, 4194303, 4194303, 16777215, 33554431, 67108863, 134217727, 134217727, 536870911, 1073741823]
theorem entaillaw2_TuplTells.tab8 : rtab .any (opsOf Try.f5 8) = entaillaw2_TuplTells.T8 := by kernel_rfl
theorem entaillaw2_TuplTells.bits8 : waitsOk entaillaw2_TuplTells.T8.2 entaillaw2_TuplTells.B8 = true := by kernel_rfl
set_option maxHeartbeats 8000000 in
set_option maxRecDepth 100000 in
theorem entaillaw2_TuplTells.calls (k : Nat) (a0_0 : ByteArray) (a0_1 : ByteArray) (a0_2 : ByteArray) (a0_3 : ByteArray) (a0_4 : ByteArray) (a0_5 : ByteArray) (a1_0 : ByteArray) (a1_1 : ByteArray) (a1_2 : ByteArray) (a1_3 : ByteArray) (a1_4 : ByteArray) (a1_5 : ByteArray) (a2 : ByteArray) (a3 : Int) (a4 : Int) (r : Bool) (w : World) (h : entaillaw2_TuplTells.f k a0_0 a0_1 a0_2 a0_3 a0_4 a0_5 a1_0 a1_1 a1_2 a1_3 a1_4 a1_5 a2 a3 a4 = some r) :
  Calls Try.prog 5 #[.agg #[.string a0_0, .string a0_1, .string a0_2, .string a0_3, .string a0_4, .string a0_5], .agg #[.string a1_0, .string a1_1, .string a1_2, .string a1_3, .string a1_4, .string a1_5], .string a2, .int .i64 a3, .int .i64 a4] w fun e w' => e = .returned (.bool r) ∧ Below w.heap.size w w' := by
 have hu29 := Try.underlying29
 have HB := Aside0.mk (Below.refl w.heap.size w)
 have H : ((entaillaw2_Short.f a0_0 a0_1 a0_2 a0_3 a0_4 a0_5).bind fun t355 => (if t355 = true then ((entaillaw2_Short.f a1_0 a1_1 a1_2 a1_3 a1_4 a1_5).bind fun t356 => (if t356 = true then (entaillaw2_TuplTells.j0 k a2 a3 a4 (decide ((a2.size : Int) > 900)) a0_0 a0_1 a0_2 a0_3 a0_4 a0_5 a1_0 a1_1 a1_2 a1_3 a1_4 a1_5) else (entaillaw2_TuplTells.j0 k a2 a3 a4 true a0_0 a0_1 a0_2 a0_3 a0_4 a0_5 a1_0 a1_1 a1_2 a1_3 a1_4 a1_5))) else (entaillaw2_TuplTells.j0 k a2 a3 a4 true a0_0 a0_1 a0_2 a0_3 a0_4 a0_5 a1_0 a1_1 a1_2 a1_3 a1_4 a1_5))) = some r := h
 clear h
 have HC6 := Aside0.mk H
 clear H
 go_enter Try.func5, Try.ntmps5
 go_upto_region 1 with (first | ((with_reducible refine gate_dst (N := 5) rfl ?_); (try (refine gate_guard (by rfl) ?_; dsimp only)); refine box_event ?hg (N := 5) ?hd (cs := #[.string a0_0, .string a0_1, .string a0_2, .string a0_3, .string a0_4, .string a0_5]) (t := 29) ?hr ?_; (case hd => rfl); (case hg => rfl); (case hr => first | (go_simp; done) | (go_simp; rfl)); intro gb353 hg w7 hbox hb; have n0_ := Aside0.mk (below_step (by repeat (first | (with_reducible first | exact HB.out | apply below_alloc | apply pw_below_drewN | apply below_drew1) | exact HB.out)) hb); have n1_ := Aside0.mk (hbox); have n2_ := Aside0.mk ((by rw [hg]; exact (below_size (by repeat (first | (with_reducible first | exact HB.out | apply below_alloc | apply pw_below_drewN | apply below_drew1) | exact HB.out))) : w.heap.size ≤ gb353)); have n3_ := Aside0.mk ((by rw [hg]; exact (below_size (by repeat (first | (with_reducible first | exact HB.out | apply below_alloc | apply pw_below_drewN | apply below_drew1) | exact HB.out))) : w.heap.size ≤ gb353)); clear HB; have HB := n0_; have BK353 := n1_; have GW353 := n2_; have GE353 := n3_; clear n0_ n1_ n2_ n3_; clear hb hbox hg) | ((with_reducible refine gate_dst (N := 6) rfl ?_); (try (refine gate_guard (by rfl) ?_; dsimp only)); refine box_event ?hg (N := 6) ?hd (cs := #[.string a1_0, .string a1_1, .string a1_2, .string a1_3, .string a1_4, .string a1_5]) (t := 29) ?hr ?_; (case hd => rfl); (case hg => rfl); (case hr => first | (go_simp; done) | (go_simp; rfl)); intro gb354 hg w8 hbox hb; have n0_ := Aside0.mk (blk_below (g := gb353) (o := .cells #[.string a0_0, .string a0_1, .string a0_2, .string a0_3, .string a0_4, .string a0_5] 29 (0, 0)) (by (with_reducible repeat (first | refine blk_drewN ?_ _ | refine blk_drew ?_ | refine blk_alloc ?_ _)); exact BK353.out) hb); have n1_ := Aside0.mk (below_step (by repeat (first | (with_reducible first | exact HB.out | apply below_alloc | apply pw_below_drewN | apply below_drew1 | refine below_set ?_ GE353.out) | exact HB.out)) hb); have n2_ := Aside0.mk (hbox); have n3_ := Aside0.mk ((by rw [hg]; exact (below_size (by repeat (first | (with_reducible first | exact HB.out | apply below_alloc | apply pw_below_drewN | apply below_drew1 | refine below_set ?_ GE353.out) | exact HB.out))) : w.heap.size ≤ gb354)); have n4_ := Aside0.mk ((by rw [hg]; exact (below_size (by repeat (first | (with_reducible first | exact HB.out | apply below_alloc | apply pw_below_drewN | apply below_drew1 | refine below_set ?_ GE353.out) | exact HB.out))) : w.heap.size ≤ gb354)); have n5_ := Aside0.mk ((by rw [hg]; exact Nat.ne_of_lt (blk_lt (g := gb353) (o := .cells #[.string a0_0, .string a0_1, .string a0_2, .string a0_3, .string a0_4, .string a0_5] 29 (0, 0)) (by (with_reducible repeat (first | refine blk_drewN ?_ _ | refine blk_drew ?_ | refine blk_alloc ?_ _)); exact BK353.out)) : gb353 ≠ gb354)); have n6_ := Aside0.mk ((by rw [hg]; exact Nat.ne_of_gt (blk_lt (g := gb353) (o := .cells #[.string a0_0, .string a0_1, .string a0_2, .string a0_3, .string a0_4, .string a0_5] 29 (0, 0)) (by (with_reducible repeat (first | refine blk_drewN ?_ _ | refine blk_drew ?_ | refine blk_alloc ?_ _)); exact BK353.out)) : gb354 ≠ gb353)); clear BK353; clear HB; have BK353 := n0_; have HB := n1_; have BK354 := n2_; have GW354 := n3_; have GE354 := n4_; have NB353_354 := n5_; have NB354_353 := n6_; clear n0_ n1_ n2_ n3_ n4_ n5_ n6_; clear hb hbox hg))
 (try simp only [Act.put, List.setIfInBounds_toArray, List.set_cons_zero, List.set_cons_succ])
 go_cut [28] (fun v28 wc => ∃ (kq : Nat) (x28_5 : Bool), v28 = .bool x28_5 ∧ Aside0 (entaillaw2_TuplTells.j0 kq a2 a3 a4 x28_5 a0_0 a0_1 a0_2 a0_3 a0_4 a0_5 a1_0 a1_1 a1_2 a1_3 a1_4 a1_5 = some r) ∧ Aside0 (kq ≤ k) ∧ Aside0 (wc.heap[gb353]? = some (.cells #[.string a0_0, .string a0_1, .string a0_2, .string a0_3, .string a0_4, .string a0_5] 29 (0, 0))) ∧ Aside0 (wc.heap[gb354]? = some (.cells #[.string a1_0, .string a1_1, .string a1_2, .string a1_3, .string a1_4, .string a1_5] 29 (0, 0))) ∧ Aside0 (Below w.heap.size w wc))
 case first =>
  have H := HC6.out
  clear HC6
  replace H := Option.bind_eq_some_iff.mp H
  obtain ⟨t355, A90, H⟩ := H
  replace H : (if t355 = true then ((entaillaw2_Short.f a1_0 a1_1 a1_2 a1_3 a1_4 a1_5).bind fun t356 => (if t356 = true then (entaillaw2_TuplTells.j0 k a2 a3 a4 (decide ((a2.size : Int) > 900)) a0_0 a0_1 a0_2 a0_3 a0_4 a0_5 a1_0 a1_1 a1_2 a1_3 a1_4 a1_5) else (entaillaw2_TuplTells.j0 k a2 a3 a4 true a0_0 a0_1 a0_2 a0_3 a0_4 a0_5 a1_0 a1_1 a1_2 a1_3 a1_4 a1_5))) else (entaillaw2_TuplTells.j0 k a2 a3 a4 true a0_0 a0_1 a0_2 a0_3 a0_4 a0_5 a1_0 a1_1 a1_2 a1_3 a1_4 a1_5)) = some r := H
  have A9 := Aside0.mk A90
  clear A90
  by_cases c10 : t355 = true
  ·subst c10
   have H1 : ((entaillaw2_Short.f a1_0 a1_1 a1_2 a1_3 a1_4 a1_5).bind fun t356 => (if t356 = true then (entaillaw2_TuplTells.j0 k a2 a3 a4 (decide ((a2.size : Int) > 900)) a0_0 a0_1 a0_2 a0_3 a0_4 a0_5 a1_0 a1_1 a1_2 a1_3 a1_4 a1_5) else (entaillaw2_TuplTells.j0 k a2 a3 a4 true a0_0 a0_1 a0_2 a0_3 a0_4 a0_5 a1_0 a1_1 a1_2 a1_3 a1_4 a1_5))) = some r := by rw [if_pos rfl] at H; exact H
   clear H
   have H := H1
   clear H1
   replace H := Option.bind_eq_some_iff.mp H
   obtain ⟨t356, A110, H⟩ := H
   replace H : (if t356 = true then (entaillaw2_TuplTells.j0 k a2 a3 a4 (decide ((a2.size : Int) > 900)) a0_0 a0_1 a0_2 a0_3 a0_4 a0_5 a1_0 a1_1 a1_2 a1_3 a1_4 a1_5) else (entaillaw2_TuplTells.j0 k a2 a3 a4 true a0_0 a0_1 a0_2 a0_3 a0_4 a0_5 a1_0 a1_1 a1_2 a1_3 a1_4 a1_5)) = some r := H
   have A11 := Aside0.mk A110
   clear A110
   by_cases c12 : t356 = true
   ·subst c12
    have H1 : (entaillaw2_TuplTells.j0 k a2 a3 a4 (decide ((a2.size : Int) > 900)) a0_0 a0_1 a0_2 a0_3 a0_4 a0_5 a1_0 a1_1 a1_2 a1_3 a1_4 a1_5) = some r := by rw [if_pos rfl] at H; exact H
    clear H
    have H := H1
    clear H1
    have H' := Aside0.mk H
    clear H
    have hnb13 := NB353_354.out
    have hnc13 := NB354_353.out
    have hcz14_0 : w8.cell? ⟨gb353, 0, none⟩ = some (.string a0_0) := (blk_cell BK353.out 0).trans rfl
    have hcz14_1 : w8.cell? ⟨gb353, 1, none⟩ = some (.string a0_1) := (blk_cell BK353.out 1).trans rfl
    have hcz14_2 : w8.cell? ⟨gb353, 2, none⟩ = some (.string a0_2) := (blk_cell BK353.out 2).trans rfl
    have hcz14_3 : w8.cell? ⟨gb353, 3, none⟩ = some (.string a0_3) := (blk_cell BK353.out 3).trans rfl
    have hcz14_4 : w8.cell? ⟨gb353, 4, none⟩ = some (.string a0_4) := (blk_cell BK353.out 4).trans rfl
    have hcz14_5 : w8.cell? ⟨gb353, 5, none⟩ = some (.string a0_5) := (blk_cell BK353.out 5).trans rfl
    have hfz14_0 := blk_frozen BK353.out 0
    have hfz14_1 := blk_frozen BK353.out 1
    have hfz14_2 := blk_frozen BK353.out 2
    have hfz14_3 := blk_frozen BK353.out 3
    have hfz14_4 := blk_frozen BK353.out 4
    have hfz14_5 := blk_frozen BK353.out 5
    go_wp2_with (first | ((with_reducible refine gate_callee (f := 17) rfl ?_); refine goesL_ (some 17) rfl rfl Try.func17 (by kernel_rfl) rfl #[.agg #[.string a0_0, .string a0_1, .string a0_2, .string a0_3, .string a0_4, .string a0_5]] rfl (by (try simp only [List.map_toArray, List.map_cons, List.map_nil]); first | done | rfl | (simp only [List.length_drop, List.length_take]; rfl)) ?_; (with_reducible refine (entaillaw2_Short.calls a0_0 a0_1 a0_2 a0_3 a0_4 a0_5 true _ A9.out).mono ?_); rintro e w15 ⟨rfl, hb⟩; refine ⟨_, rfl, ?_⟩; have n0_ := Aside0.mk (blk_below (g := gb353) (o := .cells #[.string a0_0, .string a0_1, .string a0_2, .string a0_3, .string a0_4, .string a0_5] 29 (0, 0)) (by (with_reducible repeat (first | refine blk_drewN ?_ _ | refine blk_drew ?_ | refine blk_alloc ?_ _)); exact BK353.out) hb); have n1_ := Aside0.mk (blk_below (g := gb354) (o := .cells #[.string a1_0, .string a1_1, .string a1_2, .string a1_3, .string a1_4, .string a1_5] 29 (0, 0)) (by (with_reducible repeat (first | refine blk_drewN ?_ _ | refine blk_drew ?_ | refine blk_alloc ?_ _)); exact BK354.out) hb); have n2_ := Aside0.mk (below_step (by repeat (first | (with_reducible first | exact HB.out | apply below_alloc | apply pw_below_drewN | apply below_drew1 | refine below_set ?_ GE353.out | refine below_set ?_ GE354.out) | exact HB.out)) hb); clear BK353; clear BK354; clear HB; have BK353 := n0_; have BK354 := n1_; have HB := n2_; clear n0_ n1_ n2_; (try clear hb); (try clear hb2); (try clear hk); (try clear hi); have hcz16_0 : w15.cell? ⟨gb354, 0, none⟩ = some (.string a1_0) := (blk_cell BK354.out 0).trans rfl; have hcz16_1 : w15.cell? ⟨gb354, 1, none⟩ = some (.string a1_1) := (blk_cell BK354.out 1).trans rfl; have hcz16_2 : w15.cell? ⟨gb354, 2, none⟩ = some (.string a1_2) := (blk_cell BK354.out 2).trans rfl; have hcz16_3 : w15.cell? ⟨gb354, 3, none⟩ = some (.string a1_3) := (blk_cell BK354.out 3).trans rfl; have hcz16_4 : w15.cell? ⟨gb354, 4, none⟩ = some (.string a1_4) := (blk_cell BK354.out 4).trans rfl; have hcz16_5 : w15.cell? ⟨gb354, 5, none⟩ = some (.string a1_5) := (blk_cell BK354.out 5).trans rfl; have hfz16_0 := blk_frozen BK354.out 0; have hfz16_1 := blk_frozen BK354.out 1; have hfz16_2 := blk_frozen BK354.out 2; have hfz16_3 := blk_frozen BK354.out 3; have hfz16_4 := blk_frozen BK354.out 4; have hfz16_5 := blk_frozen BK354.out 5) | (go_at_call 17; (with_reducible refine (entaillaw2_Short.calls a1_0 a1_1 a1_2 a1_3 a1_4 a1_5 true _ A11.out).mono ?_); rintro e w17 ⟨rfl, hb⟩; have n0_ := Aside0.mk (blk_below (g := gb353) (o := .cells #[.string a0_0, .string a0_1, .string a0_2, .string a0_3, .string a0_4, .string a0_5] 29 (0, 0)) (by (with_reducible repeat (first | refine blk_drewN ?_ _ | refine blk_drew ?_ | refine blk_alloc ?_ _)); exact BK353.out) hb); have n1_ := Aside0.mk (blk_below (g := gb354) (o := .cells #[.string a1_0, .string a1_1, .string a1_2, .string a1_3, .string a1_4, .string a1_5] 29 (0, 0)) (by (with_reducible repeat (first | refine blk_drewN ?_ _ | refine blk_drew ?_ | refine blk_alloc ?_ _)); exact BK354.out) hb); have n2_ := Aside0.mk (below_step (by repeat (first | (with_reducible first | exact HB.out | apply below_alloc | apply pw_below_drewN | apply below_drew1 | refine below_set ?_ GE353.out | refine below_set ?_ GE354.out) | exact HB.out)) hb); clear BK353; clear BK354; clear HB; have BK353 := n0_; have BK354 := n1_; have HB := n2_; clear n0_ n1_ n2_; (try clear hb); (try clear hb2); (try clear hk); (try clear hi)))
    go_meet
    case rel => exact ⟨_, (decide ((a2.size : Int) > 900)), (by first | rfl | (simp; done) | (simp [*]; done)), H', ⟨by first | omega | exact Nat.le_refl _⟩, ⟨by (with_reducible repeat (first | refine blk_drewN ?_ _ | refine blk_drew ?_ | refine blk_alloc ?_ _)); exact BK353.out⟩, ⟨by (with_reducible repeat (first | refine blk_drewN ?_ _ | refine blk_drew ?_ | refine blk_alloc ?_ _)); exact BK354.out⟩, ⟨by repeat (first | (with_reducible first | exact HB.out | apply below_alloc | apply pw_below_drewN | apply below_drew1 | refine below_set ?_ GE353.out | refine below_set ?_ GE354.out) | exact HB.out)⟩⟩
   ·replace c12 := Bool.eq_false_iff.mpr c12
    subst c12
    have H1 : (entaillaw2_TuplTells.j0 k a2 a3 a4 true a0_0 a0_1 a0_2 a0_3 a0_4 a0_5 a1_0 a1_1 a1_2 a1_3 a1_4 a1_5) = some r := by rw [if_neg (show ¬ (false = true) by decide)] at H; exact H
    clear H
    have H := H1
    clear H1
    have H' := Aside0.mk H
    clear H
    have hnb18 := NB353_354.out
    have hnc18 := NB354_353.out
    have hcz19_0 : w8.cell? ⟨gb353, 0, none⟩ = some (.string a0_0) := (blk_cell BK353.out 0).trans rfl
    have hcz19_1 : w8.cell? ⟨gb353, 1, none⟩ = some (.string a0_1) := (blk_cell BK353.out 1).trans rfl
    have hcz19_2 : w8.cell? ⟨gb353, 2, none⟩ = some (.string a0_2) := (blk_cell BK353.out 2).trans rfl
    have hcz19_3 : w8.cell? ⟨gb353, 3, none⟩ = some (.string a0_3) := (blk_cell BK353.out 3).trans rfl
    have hcz19_4 : w8.cell? ⟨gb353, 4, none⟩ = some (.string a0_4) := (blk_cell BK353.out 4).trans rfl
    have hcz19_5 : w8.cell? ⟨gb353, 5, none⟩ = some (.string a0_5) := (blk_cell BK353.out 5).trans rfl
    have hfz19_0 := blk_frozen BK353.out 0
    have hfz19_1 := blk_frozen BK353.out 1
    have hfz19_2 := blk_frozen BK353.out 2
    have hfz19_3 := blk_frozen BK353.out 3
    have hfz19_4 := blk_frozen BK353.out 4
    have hfz19_5 := blk_frozen BK353.out 5
    go_wp2_with (first | ((with_reducible refine gate_callee (f := 17) rfl ?_); refine goesL_ (some 17) rfl rfl Try.func17 (by kernel_rfl) rfl #[.agg #[.string a0_0, .string a0_1, .string a0_2, .string a0_3, .string a0_4, .string a0_5]] rfl (by (try simp only [List.map_toArray, List.map_cons, List.map_nil]); first | done | rfl | (simp only [List.length_drop, List.length_take]; rfl)) ?_; (with_reducible refine (entaillaw2_Short.calls a0_0 a0_1 a0_2 a0_3 a0_4 a0_5 true _ A9.out).mono ?_); rintro e w20 ⟨rfl, hb⟩; refine ⟨_, rfl, ?_⟩; have n0_ := Aside0.mk (blk_below (g := gb353) (o := .cells #[.string a0_0, .string a0_1, .string a0_2, .string a0_3, .string a0_4, .string a0_5] 29 (0, 0)) (by (with_reducible repeat (first | refine blk_drewN ?_ _ | refine blk_drew ?_ | refine blk_alloc ?_ _)); exact BK353.out) hb); have n1_ := Aside0.mk (blk_below (g := gb354) (o := .cells #[.string a1_0, .string a1_1, .string a1_2, .string a1_3, .string a1_4, .string a1_5] 29 (0, 0)) (by (with_reducible repeat (first | refine blk_drewN ?_ _ | refine blk_drew ?_ | refine blk_alloc ?_ _)); exact BK354.out) hb); have n2_ := Aside0.mk (below_step (by repeat (first | (with_reducible first | exact HB.out | apply below_alloc | apply pw_below_drewN | apply below_drew1 | refine below_set ?_ GE353.out | refine below_set ?_ GE354.out) | exact HB.out)) hb); clear BK353; clear BK354; clear HB; have BK353 := n0_; have BK354 := n1_; have HB := n2_; clear n0_ n1_ n2_; (try clear hb); (try clear hb2); (try clear hk); (try clear hi); have hcz21_0 : w20.cell? ⟨gb354, 0, none⟩ = some (.string a1_0) := (blk_cell BK354.out 0).trans rfl; have hcz21_1 : w20.cell? ⟨gb354, 1, none⟩ = some (.string a1_1) := (blk_cell BK354.out 1).trans rfl; have hcz21_2 : w20.cell? ⟨gb354, 2, none⟩ = some (.string a1_2) := (blk_cell BK354.out 2).trans rfl; have hcz21_3 : w20.cell? ⟨gb354, 3, none⟩ = some (.string a1_3) := (blk_cell BK354.out 3).trans rfl; have hcz21_4 : w20.cell? ⟨gb354, 4, none⟩ = some (.string a1_4) := (blk_cell BK354.out 4).trans rfl; have hcz21_5 : w20.cell? ⟨gb354, 5, none⟩ = some (.string a1_5) := (blk_cell BK354.out 5).trans rfl; have hfz21_0 := blk_frozen BK354.out 0; have hfz21_1 := blk_frozen BK354.out 1; have hfz21_2 := blk_frozen BK354.out 2; have hfz21_3 := blk_frozen BK354.out 3; have hfz21_4 := blk_frozen BK354.out 4; have hfz21_5 := blk_frozen BK354.out 5) | (go_at_call 17; (with_reducible refine (entaillaw2_Short.calls a1_0 a1_1 a1_2 a1_3 a1_4 a1_5 false _ A11.out).mono ?_); rintro e w22 ⟨rfl, hb⟩; have n0_ := Aside0.mk (blk_below (g := gb353) (o := .cells #[.string a0_0, .string a0_1, .string a0_2, .string a0_3, .string a0_4, .string a0_5] 29 (0, 0)) (by (with_reducible repeat (first | refine blk_drewN ?_ _ | refine blk_drew ?_ | refine blk_alloc ?_ _)); exact BK353.out) hb); have n1_ := Aside0.mk (blk_below (g := gb354) (o := .cells #[.string a1_0, .string a1_1, .string a1_2, .string a1_3, .string a1_4, .string a1_5] 29 (0, 0)) (by (with_reducible repeat (first | refine blk_drewN ?_ _ | refine blk_drew ?_ | refine blk_alloc ?_ _)); exact BK354.out) hb); have n2_ := Aside0.mk (below_step (by repeat (first | (with_reducible first | exact HB.out | apply below_alloc | apply pw_below_drewN | apply below_drew1 | refine below_set ?_ GE353.out | refine below_set ?_ GE354.out) | exact HB.out)) hb); clear BK353; clear BK354; clear HB; have BK353 := n0_; have BK354 := n1_; have HB := n2_; clear n0_ n1_ n2_; (try clear hb); (try clear hb2); (try clear hk); (try clear hi)))
    go_meet
    case rel => exact ⟨_, (true), (by first | rfl | (simp; done) | (simp [*]; done)), H', ⟨by first | omega | exact Nat.le_refl _⟩, ⟨by (with_reducible repeat (first | refine blk_drewN ?_ _ | refine blk_drew ?_ | refine blk_alloc ?_ _)); exact BK353.out⟩, ⟨by (with_reducible repeat (first | refine blk_drewN ?_ _ | refine blk_drew ?_ | refine blk_alloc ?_ _)); exact BK354.out⟩, ⟨by repeat (first | (with_reducible first | exact HB.out | apply below_alloc | apply pw_below_drewN | apply below_drew1 | refine below_set ?_ GE353.out | refine below_set ?_ GE354.out) | exact HB.out)⟩⟩
  ·replace c10 := Bool.eq_false_iff.mpr c10
   subst c10
   have H1 : (entaillaw2_TuplTells.j0 k a2 a3 a4 true a0_0 a0_1 a0_2 a0_3 a0_4 a0_5 a1_0 a1_1 a1_2 a1_3 a1_4 a1_5) = some r := by rw [if_neg (show ¬ (false = true) by decide)] at H; exact H
   clear H
   have H := H1
   clear H1
   have H' := Aside0.mk H
   clear H
   have hnb23 := NB353_354.out
   have hnc23 := NB354_353.out
   have hcz24_0 : w8.cell? ⟨gb353, 0, none⟩ = some (.string a0_0) := (blk_cell BK353.out 0).trans rfl
   have hcz24_1 : w8.cell? ⟨gb353, 1, none⟩ = some (.string a0_1) := (blk_cell BK353.out 1).trans rfl
   have hcz24_2 : w8.cell? ⟨gb353, 2, none⟩ = some (.string a0_2) := (blk_cell BK353.out 2).trans rfl
   have hcz24_3 : w8.cell? ⟨gb353, 3, none⟩ = some (.string a0_3) := (blk_cell BK353.out 3).trans rfl
   have hcz24_4 : w8.cell? ⟨gb353, 4, none⟩ = some (.string a0_4) := (blk_cell BK353.out 4).trans rfl
   have hcz24_5 : w8.cell? ⟨gb353, 5, none⟩ = some (.string a0_5) := (blk_cell BK353.out 5).trans rfl
   have hfz24_0 := blk_frozen BK353.out 0
   have hfz24_1 := blk_frozen BK353.out 1
   have hfz24_2 := blk_frozen BK353.out 2
   have hfz24_3 := blk_frozen BK353.out 3
   have hfz24_4 := blk_frozen BK353.out 4
   have hfz24_5 := blk_frozen BK353.out 5
   go_wp2_with (first | ((with_reducible refine gate_callee (f := 17) rfl ?_); refine goesL_ (some 17) rfl rfl Try.func17 (by kernel_rfl) rfl #[.agg #[.string a0_0, .string a0_1, .string a0_2, .string a0_3, .string a0_4, .string a0_5]] rfl (by (try simp only [List.map_toArray, List.map_cons, List.map_nil]); first | done | rfl | (simp only [List.length_drop, List.length_take]; rfl)) ?_; (with_reducible refine (entaillaw2_Short.calls a0_0 a0_1 a0_2 a0_3 a0_4 a0_5 false _ A9.out).mono ?_); rintro e w25 ⟨rfl, hb⟩; refine ⟨_, rfl, ?_⟩; have n0_ := Aside0.mk (blk_below (g := gb353) (o := .cells #[.string a0_0, .string a0_1, .string a0_2, .string a0_3, .string a0_4, .string a0_5] 29 (0, 0)) (by (with_reducible repeat (first | refine blk_drewN ?_ _ | refine blk_drew ?_ | refine blk_alloc ?_ _)); exact BK353.out) hb); have n1_ := Aside0.mk (blk_below (g := gb354) (o := .cells #[.string a1_0, .string a1_1, .string a1_2, .string a1_3, .string a1_4, .string a1_5] 29 (0, 0)) (by (with_reducible repeat (first | refine blk_drewN ?_ _ | refine blk_drew ?_ | refine blk_alloc ?_ _)); exact BK354.out) hb); have n2_ := Aside0.mk (below_step (by repeat (first | (with_reducible first | exact HB.out | apply below_alloc | apply pw_below_drewN | apply below_drew1 | refine below_set ?_ GE353.out | refine below_set ?_ GE354.out) | exact HB.out)) hb); clear BK353; clear BK354; clear HB; have BK353 := n0_; have BK354 := n1_; have HB := n2_; clear n0_ n1_ n2_; (try clear hb); (try clear hb2); (try clear hk); (try clear hi)))
   go_meet
   case rel => exact ⟨_, (true), (by first | rfl | (simp; done) | (simp [*]; done)), H', ⟨by first | omega | exact Nat.le_refl _⟩, ⟨by (with_reducible repeat (first | refine blk_drewN ?_ _ | refine blk_drew ?_ | refine blk_alloc ?_ _)); exact BK353.out⟩, ⟨by (with_reducible repeat (first | refine blk_drewN ?_ _ | refine blk_drew ?_ | refine blk_alloc ?_ _)); exact BK354.out⟩, ⟨by repeat (first | (with_reducible first | exact HB.out | apply below_alloc | apply pw_below_drewN | apply below_drew1 | refine below_set ?_ GE353.out | refine below_set ?_ GE354.out) | exact HB.out)⟩⟩
 case rest =>
  clear HC6
  try clear c1
  try clear c2
  try clear p2
  try clear c5
  try clear c10
  try clear c12
  try clear c13
  try clear c17
  try clear c18
  try clear c23
  try clear hcz14_0
  try clear hcz14_1
  try clear hcz14_2
  try clear hcz14_3
  try clear hcz14_4
  try clear hcz14_5
  try clear hcz16_0
  try clear hcz16_1
  try clear hcz16_2
  try clear hcz16_3
  try clear hcz16_4
  try clear hcz16_5
  try clear hcz19_0
  try clear hcz19_1
  try clear hcz19_2
  try clear hcz19_3
  try clear hcz19_4
  try clear hcz19_5
  try clear hcz21_0
  try clear hcz21_1
  try clear hcz21_2
  try clear hcz21_3
  try clear hcz21_4
  try clear hcz21_5
  try clear hcz24_0
  try clear hcz24_1
  try clear hcz24_2
  try clear hcz24_3
  try clear hcz24_4
  try clear hcz24_5
  try clear hfz14_0
  try clear hfz14_1
  try clear hfz14_2
  try clear hfz14_3
  try clear hfz14_4
  try clear hfz14_5
  try clear hfz16_0
  try clear hfz16_1
  try clear hfz16_2
  try clear hfz16_3
  try clear hfz16_4
  try clear hfz16_5
  try clear hfz19_0
  try clear hfz19_1
  try clear hfz19_2
  try clear hfz19_3
  try clear hfz19_4
  try clear hfz19_5
  try clear hfz21_0
  try clear hfz21_1
  try clear hfz21_2
  try clear hfz21_3
  try clear hfz21_4
  try clear hfz21_5
  try clear hfz24_0
  try clear hfz24_1
  try clear hfz24_2
  try clear hfz24_3
  try clear hfz24_4
  try clear hfz24_5
  obtain ⟨kq, x28_5, rfl, HA, HJ5, BK353, BK354, HB⟩ := hcut
  cases kq with
  | zero => exact absurd HA.out (by simp [entaillaw2_TuplTells.j0])
  | succ kj5 =>
   have H := HA.out
   clear HA
   simp only [entaillaw2_TuplTells.j0] at H
   by_cases c26 : x28_5 = true
   ·subst c26
    have H1 : ((entaillaw2_awake.f kj5).bind fun t357 => (some t357)) = some r := by rw [if_pos rfl] at H; exact H
    clear H
    have H := H1
    clear H1
    replace H := Option.bind_eq_some_iff.mp H
    obtain ⟨t357, A270, H⟩ := H
    replace H : (some t357) = some r := H
    have A27 := Aside0.mk A270
    clear A270
    obtain rfl := Option.some.inj H
    go_wp2_with (first | ((with_reducible refine gate_callee (f := 14) rfl ?_); refine goesL_ (some 29) rfl rfl Try.func14 (by kernel_rfl) rfl #[] rfl (by (try simp only [List.map_toArray, List.map_cons, List.map_nil]); first | done | rfl | (simp only [List.length_drop, List.length_take]; rfl)) ?_; (with_reducible refine (entaillaw2_awake.calls kj5  t357 _ A27.out).mono ?_); rintro e w28 ⟨rfl, hb⟩; refine ⟨_, rfl, ?_⟩; have n0_ := Aside0.mk (blk_below (g := gb353) (o := .cells #[.string a0_0, .string a0_1, .string a0_2, .string a0_3, .string a0_4, .string a0_5] 29 (0, 0)) (by (with_reducible repeat (first | refine blk_drewN ?_ _ | refine blk_drew ?_ | refine blk_alloc ?_ _)); exact BK353.out) hb); have n1_ := Aside0.mk (blk_below (g := gb354) (o := .cells #[.string a1_0, .string a1_1, .string a1_2, .string a1_3, .string a1_4, .string a1_5] 29 (0, 0)) (by (with_reducible repeat (first | refine blk_drewN ?_ _ | refine blk_drew ?_ | refine blk_alloc ?_ _)); exact BK354.out) hb); have n2_ := Aside0.mk (below_step (by repeat (first | (with_reducible first | exact HB.out | apply below_alloc | apply pw_below_drewN | apply below_drew1 | refine below_set ?_ GE353.out | refine below_set ?_ GE354.out) | exact HB.out)) hb); clear BK353; clear BK354; clear HB; have BK353 := n0_; have BK354 := n1_; have HB := n2_; clear n0_ n1_ n2_; (try clear hb); (try clear hb2); (try clear hk); (try clear hi)))
    go_ret
    exact ⟨by first | rfl | (simp [errW_none, errW_some] <;> rfl) | (simp [*, errW_none, errW_some] <;> rfl), by repeat (first | (with_reducible first | exact HB.out | apply below_alloc | apply pw_below_drewN | apply below_drew1 | refine below_set ?_ GE353.out | refine below_set ?_ GE354.out) | exact HB.out)⟩
   ·replace c26 := Bool.eq_false_iff.mpr c26
    subst c26
    have H1 : (entaillaw2_TuplTells.l0 kj5 a2 a3 a4 0 a0_0 a0_1 a0_2 a0_3 a0_4 a0_5 a1_0 a1_1 a1_2 a1_3 a1_4 a1_5) = some r := by rw [if_neg (show ¬ (false = true) by decide)] at H; exact H
    clear H
    have H := H1
    clear H1
    have H' := Aside0.mk H
    clear H
    go_wp2
    go_loopg [2, 11] kj5 (fun kq v2 v11 w' => ∃ (x2_2 : ByteArray) (x11_2 : Int) (x354000_2 : ByteArray) (x354001_2 : ByteArray) (x354002_2 : ByteArray) (x354003_2 : ByteArray) (x354004_2 : ByteArray) (x354005_2 : ByteArray) (x355000_2 : ByteArray) (x355001_2 : ByteArray) (x355002_2 : ByteArray) (x355003_2 : ByteArray) (x355004_2 : ByteArray) (x355005_2 : ByteArray), v2 = .string x2_2 ∧ v11 = .int .i64 x11_2 ∧ Aside0 (entaillaw2_TuplTells.l0 kq x2_2 a3 a4 x11_2 x354000_2 x354001_2 x354002_2 x354003_2 x354004_2 x354005_2 x355000_2 x355001_2 x355002_2 x355003_2 x355004_2 x355005_2 = some r) ∧ Aside0 (kq ≤ kj5) ∧ Aside0 (w'.heap[gb353]? = some (.cells #[.string x354000_2, .string x354001_2, .string x354002_2, .string x354003_2, .string x354004_2, .string x354005_2] 29 (0, 0))) ∧ Aside0 (w'.heap[gb354]? = some (.cells #[.string x355000_2, .string x355001_2, .string x355002_2, .string x355003_2, .string x355004_2, .string x355005_2] 29 (0, 0))) ∧ Aside0 (Below w.heap.size w w'))
    case atStart => exact ⟨(a2), (0), (a0_0), (a0_1), (a0_2), (a0_3), (a0_4), (a0_5), (a1_0), (a1_1), (a1_2), (a1_3), (a1_4), (a1_5), (by first | rfl | (simp; done) | (simp [*]; done)), (by first | rfl | (simp; done) | (simp [*]; done)), H', ⟨Nat.le_refl _⟩, ⟨by (with_reducible repeat (first | refine blk_drewN ?_ _ | refine blk_drew ?_ | refine blk_alloc ?_ _)); exact BK353.out⟩, ⟨by (with_reducible repeat (first | refine blk_drewN ?_ _ | refine blk_drew ?_ | refine blk_alloc ?_ _)); exact BK354.out⟩, ⟨by repeat (first | (with_reducible first | exact HB.out | apply below_alloc | apply pw_below_drewN | apply below_drew1 | refine below_set ?_ GE353.out | refine below_set ?_ GE354.out) | exact HB.out)⟩⟩
    case round =>
     clear H'
     try clear c1
     try clear c2
     try clear p2
     try clear c5
     try clear c10
     try clear c12
     try clear c13
     try clear c14
     try clear c17
     try clear c18
     try clear c23
     try clear c26
     try clear hcz14_0
     try clear hcz14_1
     try clear hcz14_2
     try clear hcz14_3
     try clear hcz14_4
     try clear hcz14_5
     try clear hcz16_0
     try clear hcz16_1
     try clear hcz16_2
     try clear hcz16_3
     try clear hcz16_4
     try clear hcz16_5
     try clear hcz19_0
     try clear hcz19_1
     try clear hcz19_2
     try clear hcz19_3
     try clear hcz19_4
     try clear hcz19_5
     try clear hcz21_0
     try clear hcz21_1
     try clear hcz21_2
     try clear hcz21_3
     try clear hcz21_4
     try clear hcz21_5
     try clear hcz24_0
     try clear hcz24_1
     try clear hcz24_2
     try clear hcz24_3
     try clear hcz24_4
     try clear hcz24_5
     try clear hfz14_0
     try clear hfz14_1
     try clear hfz14_2
     try clear hfz14_3
     try clear hfz14_4
     try clear hfz14_5
     try clear hfz16_0
     try clear hfz16_1
     try clear hfz16_2
     try clear hfz16_3
     try clear hfz16_4
     try clear hfz16_5
     try clear hfz19_0
     try clear hfz19_1
     try clear hfz19_2
     try clear hfz19_3
     try clear hfz19_4
     try clear hfz19_5
     try clear hfz21_0
     try clear hfz21_1
     try clear hfz21_2
     try clear hfz21_3
     try clear hfz21_4
     try clear hfz21_5
     try clear hfz24_0
     try clear hfz24_1
     try clear hfz24_2
     try clear hfz24_3
     try clear hfz24_4
     try clear hfz24_5
     try clear p2
     obtain ⟨x2_2, x11_2, x354000_2, x354001_2, x354002_2, x354003_2, x354004_2, x354005_2, x355000_2, x355001_2, x355002_2, x355003_2, x355004_2, x355005_2, rfl, rfl, HA, HK2, BK353, BK354, HB⟩ := hrel
     cases gk with
     | zero => exact absurd HA.out (by simp [entaillaw2_TuplTells.l0])
     | succ k2 =>
      have H := HA.out
      clear HA
      simp only [entaillaw2_TuplTells.l0] at H
      by_cases c29 : x11_2 < 2
      ·rw [if_pos c29] at H
       have c29b0 : decide (x11_2 < 2) = true := decide_eq_true c29
       clear c29
       replace H := Option.bind_eq_some_iff.mp H
       obtain ⟨⟨t359, t360, t361, t362, t363, t364, t365⟩, A300, H⟩ := H
       replace H : ((entailref1_Parse.f k2 x2_2).bind fun bt367 => ((tupl_Ok.f k2 x354000_2 x354001_2 x354002_2 x354003_2 x354004_2 x354005_2).bind fun t375 => ((entailref1_Ok.f k2 x354000_2 x354001_2 x354002_2 x354003_2 x354004_2 x354005_2).bind fun t376 => (if (t375 != t376) = true then (none) else ((tupl_Text.f k2 x354000_2 x354001_2 x354002_2 x354003_2 x354004_2 x354005_2).bind fun t377 => ((entailref1_Text.f k2 x354000_2 x354001_2 x354002_2 x354003_2 x354004_2 x354005_2).bind fun t378 => (if t377.toList = t378.toList then ((tupl_Less.f k2 x354000_2 x354001_2 x354002_2 x354003_2 x354004_2 x354005_2 x355000_2 x355001_2 x355002_2 x355003_2 x355004_2 x355005_2).bind fun t379 => ((entailref1_Less.f k2 x354000_2 x354001_2 x354002_2 x354003_2 x354004_2 x354005_2 x355000_2 x355001_2 x355002_2 x355003_2 x355004_2 x355005_2).bind fun t380 => (if (t379 != t380) = true then (none) else (if ((!(t359.toList == bt367.1.toList) || (!(t360.toList == bt367.2.1.toList))) || (!(t361.toList == bt367.2.2.1.toList) || ((!(t362.toList == bt367.2.2.2.1.toList) || (!(t363.toList == bt367.2.2.2.2.1.toList) || (!(t364.toList == bt367.2.2.2.2.2.1.toList))))))) = true then (none) else (entaillaw2_TuplTells.j2 k2 a3 a4 x11_2 (t365 != bt367.2.2.2.2.2.2)))))) else (none)))))))) = some r := H
       have A30 := Aside0.mk A300
       clear A300
       replace H := Option.bind_eq_some_iff.mp H
       obtain ⟨⟨t367, t368, t369, t370, t371, t372, t373⟩, A310, H⟩ := H
       replace H : ((tupl_Ok.f k2 x354000_2 x354001_2 x354002_2 x354003_2 x354004_2 x354005_2).bind fun t375 => ((entailref1_Ok.f k2 x354000_2 x354001_2 x354002_2 x354003_2 x354004_2 x354005_2).bind fun t376 => (if (t375 != t376) = true then (none) else ((tupl_Text.f k2 x354000_2 x354001_2 x354002_2 x354003_2 x354004_2 x354005_2).bind fun t377 => ((entailref1_Text.f k2 x354000_2 x354001_2 x354002_2 x354003_2 x354004_2 x354005_2).bind fun t378 => (if t377.toList = t378.toList then ((tupl_Less.f k2 x354000_2 x354001_2 x354002_2 x354003_2 x354004_2 x354005_2 x355000_2 x355001_2 x355002_2 x355003_2 x355004_2 x355005_2).bind fun t379 => ((entailref1_Less.f k2 x354000_2 x354001_2 x354002_2 x354003_2 x354004_2 x354005_2 x355000_2 x355001_2 x355002_2 x355003_2 x355004_2 x355005_2).bind fun t380 => (if (t379 != t380) = true then (none) else (if ((!(t359.toList == t367.toList) || (!(t360.toList == t368.toList))) || (!(t361.toList == t369.toList) || ((!(t362.toList == t370.toList) || (!(t363.toList == t371.toList) || (!(t364.toList == t372.toList))))))) = true then (none) else (entaillaw2_TuplTells.j2 k2 a3 a4 x11_2 (t365 != t373)))))) else (none))))))) = some r := H
       have A31 := Aside0.mk A310
       clear A310
       have HC32 := Aside0.mk H
       clear H
       go_upto_region 8 with (first | ((with_reducible refine gate_callee (f := 12) rfl ?_); refine goesL_ (some 36) rfl rfl Try.func12 (by kernel_rfl) rfl #[.string x2_2] rfl (by (try simp only [List.map_toArray, List.map_cons, List.map_nil]); first | done | rfl | (simp only [List.length_drop, List.length_take]; rfl)) ?_; (with_reducible refine (tupl_Parse.calls k2 x2_2 t359 t360 t361 t362 t363 t364 t365 _ A30.out).mono ?_); rintro e w33 ⟨rfl, hb⟩; refine ⟨_, rfl, ?_⟩; have n0_ := Aside0.mk (blk_below (g := gb353) (o := .cells #[.string x354000_2, .string x354001_2, .string x354002_2, .string x354003_2, .string x354004_2, .string x354005_2] 29 (0, 0)) (by (with_reducible repeat (first | refine blk_drewN ?_ _ | refine blk_drew ?_ | refine blk_alloc ?_ _)); exact BK353.out) hb); have n1_ := Aside0.mk (blk_below (g := gb354) (o := .cells #[.string x355000_2, .string x355001_2, .string x355002_2, .string x355003_2, .string x355004_2, .string x355005_2] 29 (0, 0)) (by (with_reducible repeat (first | refine blk_drewN ?_ _ | refine blk_drew ?_ | refine blk_alloc ?_ _)); exact BK354.out) hb); have n2_ := Aside0.mk (below_step (by repeat (first | (with_reducible first | exact HB.out | apply below_alloc | apply pw_below_drewN | apply below_drew1 | refine below_set ?_ GE353.out | refine below_set ?_ GE354.out) | exact HB.out)) hb); clear BK353; clear BK354; clear HB; have BK353 := n0_; have BK354 := n1_; have HB := n2_; clear n0_ n1_ n2_; (try clear hb); (try clear hb2); (try clear hk); (try clear hi)) | ((with_reducible refine gate_dst (N := 12) rfl ?_); (try (refine gate_guard (by rfl) ?_; dsimp only)); refine box_event ?hg (N := 12) ?hd (cs := #[.string (⟨#[]⟩ : ByteArray), .string (⟨#[]⟩ : ByteArray), .string (⟨#[]⟩ : ByteArray), .string (⟨#[]⟩ : ByteArray), .string (⟨#[]⟩ : ByteArray), .string (⟨#[]⟩ : ByteArray)]) (t := 29) ?hr ?_; (case hd => rfl); (case hg => rfl); (case hr => first | (go_simp; done) | (go_simp; rfl)); intro gb366 hg w34 hbox hb; have n0_ := Aside0.mk (blk_below (g := gb353) (o := .cells #[.string x354000_2, .string x354001_2, .string x354002_2, .string x354003_2, .string x354004_2, .string x354005_2] 29 (0, 0)) (by (with_reducible repeat (first | refine blk_drewN ?_ _ | refine blk_drew ?_ | refine blk_alloc ?_ _)); exact BK353.out) hb); have n1_ := Aside0.mk (blk_below (g := gb354) (o := .cells #[.string x355000_2, .string x355001_2, .string x355002_2, .string x355003_2, .string x355004_2, .string x355005_2] 29 (0, 0)) (by (with_reducible repeat (first | refine blk_drewN ?_ _ | refine blk_drew ?_ | refine blk_alloc ?_ _)); exact BK354.out) hb); have n2_ := Aside0.mk (below_step (by repeat (first | (with_reducible first | exact HB.out | apply below_alloc | apply pw_below_drewN | apply below_drew1 | refine below_set ?_ GE353.out | refine below_set ?_ GE354.out) | exact HB.out)) hb); have n3_ := Aside0.mk (hbox); have n4_ := Aside0.mk ((by rw [hg]; exact (below_size (by repeat (first | (with_reducible first | exact HB.out | apply below_alloc | apply pw_below_drewN | apply below_drew1 | refine below_set ?_ GE353.out | refine below_set ?_ GE354.out) | exact HB.out))) : w.heap.size ≤ gb366)); have n5_ := Aside0.mk ((by rw [hg]; exact (below_size (by repeat (first | (with_reducible first | exact HB.out | apply below_alloc | apply pw_below_drewN | apply below_drew1 | refine below_set ?_ GE353.out | refine below_set ?_ GE354.out) | exact HB.out))) : w.heap.size ≤ gb366)); have n6_ := Aside0.mk ((by rw [hg]; exact Nat.ne_of_lt (blk_lt (g := gb353) (o := .cells #[.string x354000_2, .string x354001_2, .string x354002_2, .string x354003_2, .string x354004_2, .string x354005_2] 29 (0, 0)) (by (with_reducible repeat (first | refine blk_drewN ?_ _ | refine blk_drew ?_ | refine blk_alloc ?_ _)); exact BK353.out)) : gb353 ≠ gb366)); have n7_ := Aside0.mk ((by rw [hg]; exact Nat.ne_of_gt (blk_lt (g := gb353) (o := .cells #[.string x354000_2, .string x354001_2, .string x354002_2, .string x354003_2, .string x354004_2, .string x354005_2] 29 (0, 0)) (by (with_reducible repeat (first | refine blk_drewN ?_ _ | refine blk_drew ?_ | refine blk_alloc ?_ _)); exact BK353.out)) : gb366 ≠ gb353)); have n8_ := Aside0.mk ((by rw [hg]; exact Nat.ne_of_lt (blk_lt (g := gb354) (o := .cells #[.string x355000_2, .string x355001_2, .string x355002_2, .string x355003_2, .string x355004_2, .string x355005_2] 29 (0, 0)) (by (with_reducible repeat (first | refine blk_drewN ?_ _ | refine blk_drew ?_ | refine blk_alloc ?_ _)); exact BK354.out)) : gb354 ≠ gb366)); have n9_ := Aside0.mk ((by rw [hg]; exact Nat.ne_of_gt (blk_lt (g := gb354) (o := .cells #[.string x355000_2, .string x355001_2, .string x355002_2, .string x355003_2, .string x355004_2, .string x355005_2] 29 (0, 0)) (by (with_reducible repeat (first | refine blk_drewN ?_ _ | refine blk_drew ?_ | refine blk_alloc ?_ _)); exact BK354.out)) : gb366 ≠ gb354)); clear BK353; clear BK354; clear HB; have BK353 := n0_; have BK354 := n1_; have HB := n2_; have BK366 := n3_; have GW366 := n4_; have GE366 := n5_; have NB353_366 := n6_; have NB366_353 := n7_; have NB354_366 := n8_; have NB366_354 := n9_; clear n0_ n1_ n2_ n3_ n4_ n5_ n6_ n7_ n8_ n9_; clear hb hbox hg; have hnb35 := NB366_353.out; have hnc35 := NB353_366.out; have hnb36 := NB366_354.out; have hnc36 := NB354_366.out; have hcz37_0 : w34.cell? ⟨gb366, 0, none⟩ = some (.string (⟨#[]⟩ : ByteArray)) := (blk_cell BK366.out 0).trans rfl; have hcz37_1 : w34.cell? ⟨gb366, 1, none⟩ = some (.string (⟨#[]⟩ : ByteArray)) := (blk_cell BK366.out 1).trans rfl; have hcz37_2 : w34.cell? ⟨gb366, 2, none⟩ = some (.string (⟨#[]⟩ : ByteArray)) := (blk_cell BK366.out 2).trans rfl; have hcz37_3 : w34.cell? ⟨gb366, 3, none⟩ = some (.string (⟨#[]⟩ : ByteArray)) := (blk_cell BK366.out 3).trans rfl; have hcz37_4 : w34.cell? ⟨gb366, 4, none⟩ = some (.string (⟨#[]⟩ : ByteArray)) := (blk_cell BK366.out 4).trans rfl; have hcz37_5 : w34.cell? ⟨gb366, 5, none⟩ = some (.string (⟨#[]⟩ : ByteArray)) := (blk_cell BK366.out 5).trans rfl; have hfz37_0 := blk_frozen BK366.out 0; have hfz37_1 := blk_frozen BK366.out 1; have hfz37_2 := blk_frozen BK366.out 2; have hfz37_3 := blk_frozen BK366.out 3; have hfz37_4 := blk_frozen BK366.out 4; have hfz37_5 := blk_frozen BK366.out 5) | ((with_reducible refine gate_callee (f := 18) rfl ?_); refine goesL_ (some 41) rfl rfl Try.func18 (by kernel_rfl) rfl #[.string x2_2] rfl (by (try simp only [List.map_toArray, List.map_cons, List.map_nil]); first | done | rfl | (simp only [List.length_drop, List.length_take]; rfl)) ?_; (with_reducible refine (entailref1_Parse.calls k2 x2_2 t367 t368 t369 t370 t371 t372 t373 _ A31.out).mono ?_); rintro e w38 ⟨rfl, hb⟩; refine ⟨_, rfl, ?_⟩; have n0_ := Aside0.mk (blk_below (g := gb353) (o := .cells #[.string x354000_2, .string x354001_2, .string x354002_2, .string x354003_2, .string x354004_2, .string x354005_2] 29 (0, 0)) (by (with_reducible repeat (first | refine blk_drewN ?_ _ | refine blk_drew ?_ | refine blk_alloc ?_ _)); refine blk_far ?_ NB353_366.out _; (with_reducible repeat (first | refine blk_drewN ?_ _ | refine blk_drew ?_ | refine blk_alloc ?_ _)); refine blk_far ?_ NB353_366.out _; (with_reducible repeat (first | refine blk_drewN ?_ _ | refine blk_drew ?_ | refine blk_alloc ?_ _)); refine blk_far ?_ NB353_366.out _; (with_reducible repeat (first | refine blk_drewN ?_ _ | refine blk_drew ?_ | refine blk_alloc ?_ _)); refine blk_far ?_ NB353_366.out _; (with_reducible repeat (first | refine blk_drewN ?_ _ | refine blk_drew ?_ | refine blk_alloc ?_ _)); refine blk_far ?_ NB353_366.out _; (with_reducible repeat (first | refine blk_drewN ?_ _ | refine blk_drew ?_ | refine blk_alloc ?_ _)); refine blk_far ?_ NB353_366.out _; (with_reducible repeat (first | refine blk_drewN ?_ _ | refine blk_drew ?_ | refine blk_alloc ?_ _)); exact BK353.out) hb); have n1_ := Aside0.mk (blk_below (g := gb354) (o := .cells #[.string x355000_2, .string x355001_2, .string x355002_2, .string x355003_2, .string x355004_2, .string x355005_2] 29 (0, 0)) (by (with_reducible repeat (first | refine blk_drewN ?_ _ | refine blk_drew ?_ | refine blk_alloc ?_ _)); refine blk_far ?_ NB354_366.out _; (with_reducible repeat (first | refine blk_drewN ?_ _ | refine blk_drew ?_ | refine blk_alloc ?_ _)); refine blk_far ?_ NB354_366.out _; (with_reducible repeat (first | refine blk_drewN ?_ _ | refine blk_drew ?_ | refine blk_alloc ?_ _)); refine blk_far ?_ NB354_366.out _; (with_reducible repeat (first | refine blk_drewN ?_ _ | refine blk_drew ?_ | refine blk_alloc ?_ _)); refine blk_far ?_ NB354_366.out _; (with_reducible repeat (first | refine blk_drewN ?_ _ | refine blk_drew ?_ | refine blk_alloc ?_ _)); refine blk_far ?_ NB354_366.out _; (with_reducible repeat (first | refine blk_drewN ?_ _ | refine blk_drew ?_ | refine blk_alloc ?_ _)); refine blk_far ?_ NB354_366.out _; (with_reducible repeat (first | refine blk_drewN ?_ _ | refine blk_drew ?_ | refine blk_alloc ?_ _)); exact BK354.out) hb); have n2_ := Aside0.mk (blk_below (g := gb366) (o := .cells #[.string t359, .string t360, .string t361, .string t362, .string t363, .string t364] 29 (0, 0)) (by (with_reducible repeat (first | refine blk_drewN ?_ _ | refine blk_drew ?_ | refine blk_alloc ?_ _)); refine blk_put (cs := #[.string t359, .string t360, .string t361, .string t362, .string t363, .string (⟨#[]⟩ : ByteArray)]) ?_ 5 _ rfl; (with_reducible repeat (first | refine blk_drewN ?_ _ | refine blk_drew ?_ | refine blk_alloc ?_ _)); refine blk_put (cs := #[.string t359, .string t360, .string t361, .string t362, .string (⟨#[]⟩ : ByteArray), .string (⟨#[]⟩ : ByteArray)]) ?_ 4 _ rfl; (with_reducible repeat (first | refine blk_drewN ?_ _ | refine blk_drew ?_ | refine blk_alloc ?_ _)); refine blk_put (cs := #[.string t359, .string t360, .string t361, .string (⟨#[]⟩ : ByteArray), .string (⟨#[]⟩ : ByteArray), .string (⟨#[]⟩ : ByteArray)]) ?_ 3 _ rfl; (with_reducible repeat (first | refine blk_drewN ?_ _ | refine blk_drew ?_ | refine blk_alloc ?_ _)); refine blk_put (cs := #[.string t359, .string t360, .string (⟨#[]⟩ : ByteArray), .string (⟨#[]⟩ : ByteArray), .string (⟨#[]⟩ : ByteArray), .string (⟨#[]⟩ : ByteArray)]) ?_ 2 _ rfl; (with_reducible repeat (first | refine blk_drewN ?_ _ | refine blk_drew ?_ | refine blk_alloc ?_ _)); refine blk_put (cs := #[.string t359, .string (⟨#[]⟩ : ByteArray), .string (⟨#[]⟩ : ByteArray), .string (⟨#[]⟩ : ByteArray), .string (⟨#[]⟩ : ByteArray), .string (⟨#[]⟩ : ByteArray)]) ?_ 1 _ rfl; (with_reducible repeat (first | refine blk_drewN ?_ _ | refine blk_drew ?_ | refine blk_alloc ?_ _)); refine blk_put (cs := #[.string (⟨#[]⟩ : ByteArray), .string (⟨#[]⟩ : ByteArray), .string (⟨#[]⟩ : ByteArray), .string (⟨#[]⟩ : ByteArray), .string (⟨#[]⟩ : ByteArray), .string (⟨#[]⟩ : ByteArray)]) ?_ 0 _ rfl; (with_reducible repeat (first | refine blk_drewN ?_ _ | refine blk_drew ?_ | refine blk_alloc ?_ _)); exact BK366.out) hb); have n3_ := Aside0.mk (below_step (by repeat (first | (with_reducible first | exact HB.out | apply below_alloc | apply pw_below_drewN | apply below_drew1 | refine below_set ?_ GE353.out | refine below_set ?_ GE354.out | refine below_set ?_ GE366.out) | exact HB.out)) hb); clear BK353; clear BK354; clear BK366; clear HB; have BK353 := n0_; have BK354 := n1_; have BK366 := n2_; have HB := n3_; clear n0_ n1_ n2_ n3_; (try clear hb); (try clear hb2); (try clear hk); (try clear hi)) | ((with_reducible refine gate_dst (N := 14) rfl ?_); (try (refine gate_guard (by rfl) ?_; dsimp only)); refine box_event ?hg (N := 14) ?hd (cs := #[.string (⟨#[]⟩ : ByteArray), .string (⟨#[]⟩ : ByteArray), .string (⟨#[]⟩ : ByteArray), .string (⟨#[]⟩ : ByteArray), .string (⟨#[]⟩ : ByteArray), .string (⟨#[]⟩ : ByteArray)]) (t := 29) ?hr ?_; (case hd => rfl); (case hg => rfl); (case hr => first | (go_simp; done) | (go_simp; rfl)); intro gb374 hg w39 hbox hb; have n0_ := Aside0.mk (blk_below (g := gb353) (o := .cells #[.string x354000_2, .string x354001_2, .string x354002_2, .string x354003_2, .string x354004_2, .string x354005_2] 29 (0, 0)) (by (with_reducible repeat (first | refine blk_drewN ?_ _ | refine blk_drew ?_ | refine blk_alloc ?_ _)); exact BK353.out) hb); have n1_ := Aside0.mk (blk_below (g := gb354) (o := .cells #[.string x355000_2, .string x355001_2, .string x355002_2, .string x355003_2, .string x355004_2, .string x355005_2] 29 (0, 0)) (by (with_reducible repeat (first | refine blk_drewN ?_ _ | refine blk_drew ?_ | refine blk_alloc ?_ _)); exact BK354.out) hb); have n2_ := Aside0.mk (blk_below (g := gb366) (o := .cells #[.string t359, .string t360, .string t361, .string t362, .string t363, .string t364] 29 (0, 0)) (by (with_reducible repeat (first | refine blk_drewN ?_ _ | refine blk_drew ?_ | refine blk_alloc ?_ _)); exact BK366.out) hb); have n3_ := Aside0.mk (below_step (by repeat (first | (with_reducible first | exact HB.out | apply below_alloc | apply pw_below_drewN | apply below_drew1 | refine below_set ?_ GE353.out | refine below_set ?_ GE354.out | refine below_set ?_ GE366.out) | exact HB.out)) hb); have n4_ := Aside0.mk (hbox); have n5_ := Aside0.mk ((by rw [hg]; exact (below_size (by repeat (first | (with_reducible first | exact HB.out | apply below_alloc | apply pw_below_drewN | apply below_drew1 | refine below_set ?_ GE353.out | refine below_set ?_ GE354.out | refine below_set ?_ GE366.out) | exact HB.out))) : w.heap.size ≤ gb374)); have n6_ := Aside0.mk ((by rw [hg]; exact (below_size (by repeat (first | (with_reducible first | exact HB.out | apply below_alloc | apply pw_below_drewN | apply below_drew1 | refine below_set ?_ GE353.out | refine below_set ?_ GE354.out | refine below_set ?_ GE366.out) | exact HB.out))) : w.heap.size ≤ gb374)); have n7_ := Aside0.mk ((by rw [hg]; exact Nat.ne_of_lt (blk_lt (g := gb353) (o := .cells #[.string x354000_2, .string x354001_2, .string x354002_2, .string x354003_2, .string x354004_2, .string x354005_2] 29 (0, 0)) (by (with_reducible repeat (first | refine blk_drewN ?_ _ | refine blk_drew ?_ | refine blk_alloc ?_ _)); exact BK353.out)) : gb353 ≠ gb374)); have n8_ := Aside0.mk ((by rw [hg]; exact Nat.ne_of_gt (blk_lt (g := gb353) (o := .cells #[.string x354000_2, .string x354001_2, .string x354002_2, .string x354003_2, .string x354004_2, .string x354005_2] 29 (0, 0)) (by (with_reducible repeat (first | refine blk_drewN ?_ _ | refine blk_drew ?_ | refine blk_alloc ?_ _)); exact BK353.out)) : gb374 ≠ gb353)); have n9_ := Aside0.mk ((by rw [hg]; exact Nat.ne_of_lt (blk_lt (g := gb354) (o := .cells #[.string x355000_2, .string x355001_2, .string x355002_2, .string x355003_2, .string x355004_2, .string x355005_2] 29 (0, 0)) (by (with_reducible repeat (first | refine blk_drewN ?_ _ | refine blk_drew ?_ | refine blk_alloc ?_ _)); exact BK354.out)) : gb354 ≠ gb374)); have n10_ := Aside0.mk ((by rw [hg]; exact Nat.ne_of_gt (blk_lt (g := gb354) (o := .cells #[.string x355000_2, .string x355001_2, .string x355002_2, .string x355003_2, .string x355004_2, .string x355005_2] 29 (0, 0)) (by (with_reducible repeat (first | refine blk_drewN ?_ _ | refine blk_drew ?_ | refine blk_alloc ?_ _)); exact BK354.out)) : gb374 ≠ gb354)); have n11_ := Aside0.mk ((by rw [hg]; exact Nat.ne_of_lt (blk_lt (g := gb366) (o := .cells #[.string t359, .string t360, .string t361, .string t362, .string t363, .string t364] 29 (0, 0)) (by (with_reducible repeat (first | refine blk_drewN ?_ _ | refine blk_drew ?_ | refine blk_alloc ?_ _)); exact BK366.out)) : gb366 ≠ gb374)); have n12_ := Aside0.mk ((by rw [hg]; exact Nat.ne_of_gt (blk_lt (g := gb366) (o := .cells #[.string t359, .string t360, .string t361, .string t362, .string t363, .string t364] 29 (0, 0)) (by (with_reducible repeat (first | refine blk_drewN ?_ _ | refine blk_drew ?_ | refine blk_alloc ?_ _)); exact BK366.out)) : gb374 ≠ gb366)); clear BK353; clear BK354; clear BK366; clear HB; have BK353 := n0_; have BK354 := n1_; have BK366 := n2_; have HB := n3_; have BK374 := n4_; have GW374 := n5_; have GE374 := n6_; have NB353_374 := n7_; have NB374_353 := n8_; have NB354_374 := n9_; have NB374_354 := n10_; have NB366_374 := n11_; have NB374_366 := n12_; clear n0_ n1_ n2_ n3_ n4_ n5_ n6_ n7_ n8_ n9_ n10_ n11_ n12_; clear hb hbox hg; have hnb40 := NB374_353.out; have hnc40 := NB353_374.out; have hnb41 := NB374_354.out; have hnc41 := NB354_374.out; have hnb42 := NB374_366.out; have hnc42 := NB366_374.out; have hcz43_0 : w39.cell? ⟨gb374, 0, none⟩ = some (.string (⟨#[]⟩ : ByteArray)) := (blk_cell BK374.out 0).trans rfl; have hcz43_1 : w39.cell? ⟨gb374, 1, none⟩ = some (.string (⟨#[]⟩ : ByteArray)) := (blk_cell BK374.out 1).trans rfl; have hcz43_2 : w39.cell? ⟨gb374, 2, none⟩ = some (.string (⟨#[]⟩ : ByteArray)) := (blk_cell BK374.out 2).trans rfl; have hcz43_3 : w39.cell? ⟨gb374, 3, none⟩ = some (.string (⟨#[]⟩ : ByteArray)) := (blk_cell BK374.out 3).trans rfl; have hcz43_4 : w39.cell? ⟨gb374, 4, none⟩ = some (.string (⟨#[]⟩ : ByteArray)) := (blk_cell BK374.out 4).trans rfl; have hcz43_5 : w39.cell? ⟨gb374, 5, none⟩ = some (.string (⟨#[]⟩ : ByteArray)) := (blk_cell BK374.out 5).trans rfl; have hfz43_0 := blk_frozen BK374.out 0; have hfz43_1 := blk_frozen BK374.out 1; have hfz43_2 := blk_frozen BK374.out 2; have hfz43_3 := blk_frozen BK374.out 3; have hfz43_4 := blk_frozen BK374.out 4; have hfz43_5 := blk_frozen BK374.out 5))
       (try simp only [Act.put, List.setIfInBounds_toArray, List.set_cons_zero, List.set_cons_succ])
       go_cut [74] (fun v74 wc => ∃ (kq : Nat) (x74_31 : Bool), v74 = .bool x74_31 ∧ Aside0 (entaillaw2_TuplTells.j2 kq a3 a4 x11_2 x74_31 = some r) ∧ Aside0 (kq ≤ k2) ∧ Aside0 (wc.heap[gb353]? = some (.cells #[.string x354000_2, .string x354001_2, .string x354002_2, .string x354003_2, .string x354004_2, .string x354005_2] 29 (0, 0))) ∧ Aside0 (wc.heap[gb354]? = some (.cells #[.string x355000_2, .string x355001_2, .string x355002_2, .string x355003_2, .string x355004_2, .string x355005_2] 29 (0, 0))) ∧ Aside0 (wc.heap[gb366]? = some (.cells #[.string t359, .string t360, .string t361, .string t362, .string t363, .string t364] 29 (0, 0))) ∧ Aside0 (wc.heap[gb374]? = some (.cells #[.string t367, .string t368, .string t369, .string t370, .string t371, .string t372] 29 (0, 0))) ∧ Aside0 (Below w.heap.size w wc))
       case first =>
        have H := HC32.out
        clear HC32
        replace H := Option.bind_eq_some_iff.mp H
        obtain ⟨t375, A440, H⟩ := H
        replace H : ((entailref1_Ok.f k2 x354000_2 x354001_2 x354002_2 x354003_2 x354004_2 x354005_2).bind fun t376 => (if (t375 != t376) = true then (none) else ((tupl_Text.f k2 x354000_2 x354001_2 x354002_2 x354003_2 x354004_2 x354005_2).bind fun t377 => ((entailref1_Text.f k2 x354000_2 x354001_2 x354002_2 x354003_2 x354004_2 x354005_2).bind fun t378 => (if t377.toList = t378.toList then ((tupl_Less.f k2 x354000_2 x354001_2 x354002_2 x354003_2 x354004_2 x354005_2 x355000_2 x355001_2 x355002_2 x355003_2 x355004_2 x355005_2).bind fun t379 => ((entailref1_Less.f k2 x354000_2 x354001_2 x354002_2 x354003_2 x354004_2 x354005_2 x355000_2 x355001_2 x355002_2 x355003_2 x355004_2 x355005_2).bind fun t380 => (if (t379 != t380) = true then (none) else (if ((!(t359.toList == t367.toList) || (!(t360.toList == t368.toList))) || (!(t361.toList == t369.toList) || ((!(t362.toList == t370.toList) || (!(t363.toList == t371.toList) || (!(t364.toList == t372.toList))))))) = true then (none) else (entaillaw2_TuplTells.j2 k2 a3 a4 x11_2 (t365 != t373)))))) else (none)))))) = some r := H
        have A44 := Aside0.mk A440
        clear A440
        replace H := Option.bind_eq_some_iff.mp H
        obtain ⟨t376, A450, H⟩ := H
        replace H : (if (t375 != t376) = true then (none) else ((tupl_Text.f k2 x354000_2 x354001_2 x354002_2 x354003_2 x354004_2 x354005_2).bind fun t377 => ((entailref1_Text.f k2 x354000_2 x354001_2 x354002_2 x354003_2 x354004_2 x354005_2).bind fun t378 => (if t377.toList = t378.toList then ((tupl_Less.f k2 x354000_2 x354001_2 x354002_2 x354003_2 x354004_2 x354005_2 x355000_2 x355001_2 x355002_2 x355003_2 x355004_2 x355005_2).bind fun t379 => ((entailref1_Less.f k2 x354000_2 x354001_2 x354002_2 x354003_2 x354004_2 x354005_2 x355000_2 x355001_2 x355002_2 x355003_2 x355004_2 x355005_2).bind fun t380 => (if (t379 != t380) = true then (none) else (if ((!(t359.toList == t367.toList) || (!(t360.toList == t368.toList))) || (!(t361.toList == t369.toList) || ((!(t362.toList == t370.toList) || (!(t363.toList == t371.toList) || (!(t364.toList == t372.toList))))))) = true then (none) else (entaillaw2_TuplTells.j2 k2 a3 a4 x11_2 (t365 != t373)))))) else (none))))) = some r := H
        have A45 := Aside0.mk A450
        clear A450
        by_cases c46 : (t375 != t376) = true
        ·rw [if_pos c46] at H
         have c46b0 : (t375 != t376) = true := c46
         (try (have c46b1 : decide (t375 = t376) = false := by simpa using c46))
         (try (have c46b2 : (t375 == t376) = false := by simpa using c46))
         (try (have c46b3 : ¬ (t375 = t376) := by simpa using c46))
         clear c46
         (first | rw [c46b0] | (simp only [i64_w, i32_w]; rw [c46b0]) | skip)
         exact absurd H (by simp)
        ·rw [if_neg c46] at H
         have c46b0 : (t375 != t376) = false := by simpa using c46
         (try (have c46b1 : decide (t375 = t376) = true := by simpa using c46))
         (try (have c46b2 : (t375 == t376) = true := by simpa using c46))
         clear c46
         (first | rw [c46b0] | (simp only [i64_w, i32_w]; rw [c46b0]) | skip)
         replace H := Option.bind_eq_some_iff.mp H
         obtain ⟨t377, A470, H⟩ := H
         replace H : ((entailref1_Text.f k2 x354000_2 x354001_2 x354002_2 x354003_2 x354004_2 x354005_2).bind fun t378 => (if t377.toList = t378.toList then ((tupl_Less.f k2 x354000_2 x354001_2 x354002_2 x354003_2 x354004_2 x354005_2 x355000_2 x355001_2 x355002_2 x355003_2 x355004_2 x355005_2).bind fun t379 => ((entailref1_Less.f k2 x354000_2 x354001_2 x354002_2 x354003_2 x354004_2 x354005_2 x355000_2 x355001_2 x355002_2 x355003_2 x355004_2 x355005_2).bind fun t380 => (if (t379 != t380) = true then (none) else (if ((!(t359.toList == t367.toList) || (!(t360.toList == t368.toList))) || (!(t361.toList == t369.toList) || ((!(t362.toList == t370.toList) || (!(t363.toList == t371.toList) || (!(t364.toList == t372.toList))))))) = true then (none) else (entaillaw2_TuplTells.j2 k2 a3 a4 x11_2 (t365 != t373)))))) else (none))) = some r := H
         have A47 := Aside0.mk A470
         clear A470
         replace H := Option.bind_eq_some_iff.mp H
         obtain ⟨t378, A480, H⟩ := H
         replace H : (if t377.toList = t378.toList then ((tupl_Less.f k2 x354000_2 x354001_2 x354002_2 x354003_2 x354004_2 x354005_2 x355000_2 x355001_2 x355002_2 x355003_2 x355004_2 x355005_2).bind fun t379 => ((entailref1_Less.f k2 x354000_2 x354001_2 x354002_2 x354003_2 x354004_2 x354005_2 x355000_2 x355001_2 x355002_2 x355003_2 x355004_2 x355005_2).bind fun t380 => (if (t379 != t380) = true then (none) else (if ((!(t359.toList == t367.toList) || (!(t360.toList == t368.toList))) || (!(t361.toList == t369.toList) || ((!(t362.toList == t370.toList) || (!(t363.toList == t371.toList) || (!(t364.toList == t372.toList))))))) = true then (none) else (entaillaw2_TuplTells.j2 k2 a3 a4 x11_2 (t365 != t373)))))) else (none)) = some r := H
         have A48 := Aside0.mk A480
         clear A480
         by_cases c49 : t377.toList = t378.toList
         ·rw [if_pos c49] at H
          have c49b0 : (t377.toList == t378.toList) = true := beq_iff_eq.mpr c49
          have c49b1 : (t377.toList != t378.toList) = false := bne_eq_false_iff_eq.mpr c49
          clear c49
          replace H := Option.bind_eq_some_iff.mp H
          obtain ⟨t379, A500, H⟩ := H
          replace H : ((entailref1_Less.f k2 x354000_2 x354001_2 x354002_2 x354003_2 x354004_2 x354005_2 x355000_2 x355001_2 x355002_2 x355003_2 x355004_2 x355005_2).bind fun t380 => (if (t379 != t380) = true then (none) else (if ((!(t359.toList == t367.toList) || (!(t360.toList == t368.toList))) || (!(t361.toList == t369.toList) || ((!(t362.toList == t370.toList) || (!(t363.toList == t371.toList) || (!(t364.toList == t372.toList))))))) = true then (none) else (entaillaw2_TuplTells.j2 k2 a3 a4 x11_2 (t365 != t373))))) = some r := H
          have A50 := Aside0.mk A500
          clear A500
          replace H := Option.bind_eq_some_iff.mp H
          obtain ⟨t380, A510, H⟩ := H
          replace H : (if (t379 != t380) = true then (none) else (if ((!(t359.toList == t367.toList) || (!(t360.toList == t368.toList))) || (!(t361.toList == t369.toList) || ((!(t362.toList == t370.toList) || (!(t363.toList == t371.toList) || (!(t364.toList == t372.toList))))))) = true then (none) else (entaillaw2_TuplTells.j2 k2 a3 a4 x11_2 (t365 != t373)))) = some r := H
          have A51 := Aside0.mk A510
          clear A510
          by_cases c52 : (t379 != t380) = true
          ·rw [if_pos c52] at H
           have c52b0 : (t379 != t380) = true := c52
           (try (have c52b1 : decide (t379 = t380) = false := by simpa using c52))
           (try (have c52b2 : (t379 == t380) = false := by simpa using c52))
           (try (have c52b3 : ¬ (t379 = t380) := by simpa using c52))
           clear c52
           exact absurd H (by simp)
          ·rw [if_neg c52] at H
           have c52b0 : (t379 != t380) = false := by simpa using c52
           (try (have c52b1 : decide (t379 = t380) = true := by simpa using c52))
           (try (have c52b2 : (t379 == t380) = true := by simpa using c52))
           clear c52
           by_cases c53 : ((!(t359.toList == t367.toList) || (!(t360.toList == t368.toList))) || (!(t361.toList == t369.toList) || ((!(t362.toList == t370.toList) || (!(t363.toList == t371.toList) || (!(t364.toList == t372.toList))))))) = true
           ·rw [if_pos c53] at H
            have c53b0 : ((!(t359.toList == t367.toList) || (!(t360.toList == t368.toList))) || (!(t361.toList == t369.toList) || ((!(t362.toList == t370.toList) || (!(t363.toList == t371.toList) || (!(t364.toList == t372.toList))))))) = true := c53
            clear c53
            exact absurd H (by simp)
           ·rw [if_neg c53] at H
            have c53b0 : ((!(t359.toList == t367.toList) || (!(t360.toList == t368.toList))) || (!(t361.toList == t369.toList) || ((!(t362.toList == t370.toList) || (!(t363.toList == t371.toList) || (!(t364.toList == t372.toList))))))) = false := by simpa using c53
            clear c53
            have H' := Aside0.mk H
            clear H
            try go_wp2
            have n0_ : Aside0 (((((((w39.setCell ⟨gb374, 0, none⟩ (.string t367)).setCell ⟨gb374, 1, none⟩ (.string t368)).setCell ⟨gb374, 2, none⟩ (.string t369)).setCell ⟨gb374, 3, none⟩ (.string t370)).setCell ⟨gb374, 4, none⟩ (.string t371)).setCell ⟨gb374, 5, none⟩ (.string t372)).heap[gb353]? = some (.cells #[.string x354000_2, .string x354001_2, .string x354002_2, .string x354003_2, .string x354004_2, .string x354005_2] 29 (0, 0))) := ⟨by (with_reducible repeat (first | refine blk_drewN ?_ _ | refine blk_drew ?_ | refine blk_alloc ?_ _)); refine blk_far ?_ NB353_374.out _; (with_reducible repeat (first | refine blk_drewN ?_ _ | refine blk_drew ?_ | refine blk_alloc ?_ _)); refine blk_far ?_ NB353_374.out _; (with_reducible repeat (first | refine blk_drewN ?_ _ | refine blk_drew ?_ | refine blk_alloc ?_ _)); refine blk_far ?_ NB353_374.out _; (with_reducible repeat (first | refine blk_drewN ?_ _ | refine blk_drew ?_ | refine blk_alloc ?_ _)); refine blk_far ?_ NB353_374.out _; (with_reducible repeat (first | refine blk_drewN ?_ _ | refine blk_drew ?_ | refine blk_alloc ?_ _)); refine blk_far ?_ NB353_374.out _; (with_reducible repeat (first | refine blk_drewN ?_ _ | refine blk_drew ?_ | refine blk_alloc ?_ _)); refine blk_far ?_ NB353_374.out _; (with_reducible repeat (first | refine blk_drewN ?_ _ | refine blk_drew ?_ | refine blk_alloc ?_ _)); exact BK353.out⟩
            have n1_ : Aside0 (((((((w39.setCell ⟨gb374, 0, none⟩ (.string t367)).setCell ⟨gb374, 1, none⟩ (.string t368)).setCell ⟨gb374, 2, none⟩ (.string t369)).setCell ⟨gb374, 3, none⟩ (.string t370)).setCell ⟨gb374, 4, none⟩ (.string t371)).setCell ⟨gb374, 5, none⟩ (.string t372)).heap[gb354]? = some (.cells #[.string x355000_2, .string x355001_2, .string x355002_2, .string x355003_2, .string x355004_2, .string x355005_2] 29 (0, 0))) := ⟨by (with_reducible repeat (first | refine blk_drewN ?_ _ | refine blk_drew ?_ | refine blk_alloc ?_ _)); refine blk_far ?_ NB354_374.out _; (with_reducible repeat (first | refine blk_drewN ?_ _ | refine blk_drew ?_ | refine blk_alloc ?_ _)); refine blk_far ?_ NB354_374.out _; (with_reducible repeat (first | refine blk_drewN ?_ _ | refine blk_drew ?_ | refine blk_alloc ?_ _)); refine blk_far ?_ NB354_374.out _; (with_reducible repeat (first | refine blk_drewN ?_ _ | refine blk_drew ?_ | refine blk_alloc ?_ _)); refine blk_far ?_ NB354_374.out _; (with_reducible repeat (first | refine blk_drewN ?_ _ | refine blk_drew ?_ | refine blk_alloc ?_ _)); refine blk_far ?_ NB354_374.out _; (with_reducible repeat (first | refine blk_drewN ?_ _ | refine blk_drew ?_ | refine blk_alloc ?_ _)); refine blk_far ?_ NB354_374.out _; (with_reducible repeat (first | refine blk_drewN ?_ _ | refine blk_drew ?_ | refine blk_alloc ?_ _)); exact BK354.out⟩
            have n2_ : Aside0 (((((((w39.setCell ⟨gb374, 0, none⟩ (.string t367)).setCell ⟨gb374, 1, none⟩ (.string t368)).setCell ⟨gb374, 2, none⟩ (.string t369)).setCell ⟨gb374, 3, none⟩ (.string t370)).setCell ⟨gb374, 4, none⟩ (.string t371)).setCell ⟨gb374, 5, none⟩ (.string t372)).heap[gb366]? = some (.cells #[.string t359, .string t360, .string t361, .string t362, .string t363, .string t364] 29 (0, 0))) := ⟨by (with_reducible repeat (first | refine blk_drewN ?_ _ | refine blk_drew ?_ | refine blk_alloc ?_ _)); refine blk_far ?_ NB366_374.out _; (with_reducible repeat (first | refine blk_drewN ?_ _ | refine blk_drew ?_ | refine blk_alloc ?_ _)); refine blk_far ?_ NB366_374.out _; (with_reducible repeat (first | refine blk_drewN ?_ _ | refine blk_drew ?_ | refine blk_alloc ?_ _)); refine blk_far ?_ NB366_374.out _; (with_reducible repeat (first | refine blk_drewN ?_ _ | refine blk_drew ?_ | refine blk_alloc ?_ _)); refine blk_far ?_ NB366_374.out _; (with_reducible repeat (first | refine blk_drewN ?_ _ | refine blk_drew ?_ | refine blk_alloc ?_ _)); refine blk_far ?_ NB366_374.out _; (with_reducible repeat (first | refine blk_drewN ?_ _ | refine blk_drew ?_ | refine blk_alloc ?_ _)); refine blk_far ?_ NB366_374.out _; (with_reducible repeat (first | refine blk_drewN ?_ _ | refine blk_drew ?_ | refine blk_alloc ?_ _)); exact BK366.out⟩
            have n3_ : Aside0 (((((((w39.setCell ⟨gb374, 0, none⟩ (.string t367)).setCell ⟨gb374, 1, none⟩ (.string t368)).setCell ⟨gb374, 2, none⟩ (.string t369)).setCell ⟨gb374, 3, none⟩ (.string t370)).setCell ⟨gb374, 4, none⟩ (.string t371)).setCell ⟨gb374, 5, none⟩ (.string t372)).heap[gb374]? = some (.cells #[.string t367, .string t368, .string t369, .string t370, .string t371, .string t372] 29 (0, 0))) := ⟨by (with_reducible repeat (first | refine blk_drewN ?_ _ | refine blk_drew ?_ | refine blk_alloc ?_ _)); refine blk_put (cs := #[.string t367, .string t368, .string t369, .string t370, .string t371, .string (⟨#[]⟩ : ByteArray)]) ?_ 5 _ rfl; (with_reducible repeat (first | refine blk_drewN ?_ _ | refine blk_drew ?_ | refine blk_alloc ?_ _)); refine blk_put (cs := #[.string t367, .string t368, .string t369, .string t370, .string (⟨#[]⟩ : ByteArray), .string (⟨#[]⟩ : ByteArray)]) ?_ 4 _ rfl; (with_reducible repeat (first | refine blk_drewN ?_ _ | refine blk_drew ?_ | refine blk_alloc ?_ _)); refine blk_put (cs := #[.string t367, .string t368, .string t369, .string (⟨#[]⟩ : ByteArray), .string (⟨#[]⟩ : ByteArray), .string (⟨#[]⟩ : ByteArray)]) ?_ 3 _ rfl; (with_reducible repeat (first | refine blk_drewN ?_ _ | refine blk_drew ?_ | refine blk_alloc ?_ _)); refine blk_put (cs := #[.string t367, .string t368, .string (⟨#[]⟩ : ByteArray), .string (⟨#[]⟩ : ByteArray), .string (⟨#[]⟩ : ByteArray), .string (⟨#[]⟩ : ByteArray)]) ?_ 2 _ rfl; (with_reducible repeat (first | refine blk_drewN ?_ _ | refine blk_drew ?_ | refine blk_alloc ?_ _)); refine blk_put (cs := #[.string t367, .string (⟨#[]⟩ : ByteArray), .string (⟨#[]⟩ : ByteArray), .string (⟨#[]⟩ : ByteArray), .string (⟨#[]⟩ : ByteArray), .string (⟨#[]⟩ : ByteArray)]) ?_ 1 _ rfl; (with_reducible repeat (first | refine blk_drewN ?_ _ | refine blk_drew ?_ | refine blk_alloc ?_ _)); refine blk_put (cs := #[.string (⟨#[]⟩ : ByteArray), .string (⟨#[]⟩ : ByteArray), .string (⟨#[]⟩ : ByteArray), .string (⟨#[]⟩ : ByteArray), .string (⟨#[]⟩ : ByteArray), .string (⟨#[]⟩ : ByteArray)]) ?_ 0 _ rfl; (with_reducible repeat (first | refine blk_drewN ?_ _ | refine blk_drew ?_ | refine blk_alloc ?_ _)); exact BK374.out⟩
            have n4_ : Aside0 (Below w.heap.size w ((((((w39.setCell ⟨gb374, 0, none⟩ (.string t367)).setCell ⟨gb374, 1, none⟩ (.string t368)).setCell ⟨gb374, 2, none⟩ (.string t369)).setCell ⟨gb374, 3, none⟩ (.string t370)).setCell ⟨gb374, 4, none⟩ (.string t371)).setCell ⟨gb374, 5, none⟩ (.string t372))) := ⟨by repeat (first | (with_reducible first | exact HB.out | apply below_alloc | apply pw_below_drewN | apply below_drew1 | refine below_set ?_ GE353.out | refine below_set ?_ GE354.out | refine below_set ?_ GE366.out | refine below_set ?_ GE374.out) | exact HB.out)⟩
            (try clear BK353)
            (try clear BK354)
            (try clear BK366)
            (try clear BK374)
            (try clear HB)
            generalize ((((((w39.setCell ⟨gb374, 0, none⟩ (.string t367)).setCell ⟨gb374, 1, none⟩ (.string t368)).setCell ⟨gb374, 2, none⟩ (.string t369)).setCell ⟨gb374, 3, none⟩ (.string t370)).setCell ⟨gb374, 4, none⟩ (.string t371)).setCell ⟨gb374, 5, none⟩ (.string t372)) = w54 at n0_ n1_ n2_ n3_ n4_ ⊢
            have BK353 := n0_
            have BK354 := n1_
            have BK366 := n2_
            have BK374 := n3_
            have HB := n4_
            clear n0_ n1_ n2_ n3_ n4_
            have n0_ := Aside0.mk (blk_drew BK353.out)
            have n1_ := Aside0.mk (blk_drew BK354.out)
            have n2_ := Aside0.mk (blk_drew BK366.out)
            have n3_ := Aside0.mk (blk_drew BK374.out)
            have n4_ := Aside0.mk (below_drew1 HB.out)
            clear BK353
            clear BK354
            clear BK366
            clear BK374
            clear HB
            have BK353 := n0_
            have BK354 := n1_
            have BK366 := n2_
            have BK374 := n3_
            have HB := n4_
            clear n0_ n1_ n2_ n3_ n4_
            refine start_ (n := 31) (S := fun w' => w'.cell? ⟨gb353, 0, none⟩ = some (.string x354000_2) ∧ w'.cell? ⟨gb353, 1, none⟩ = some (.string x354001_2) ∧ w'.cell? ⟨gb353, 2, none⟩ = some (.string x354002_2) ∧ w'.cell? ⟨gb353, 3, none⟩ = some (.string x354003_2) ∧ w'.cell? ⟨gb353, 4, none⟩ = some (.string x354004_2) ∧ w'.cell? ⟨gb353, 5, none⟩ = some (.string x354005_2) ∧ w'.cell? ⟨gb354, 0, none⟩ = some (.string x355000_2) ∧ w'.cell? ⟨gb354, 1, none⟩ = some (.string x355001_2) ∧ w'.cell? ⟨gb354, 2, none⟩ = some (.string x355002_2) ∧ w'.cell? ⟨gb354, 3, none⟩ = some (.string x355003_2) ∧ w'.cell? ⟨gb354, 4, none⟩ = some (.string x355004_2) ∧ w'.cell? ⟨gb354, 5, none⟩ = some (.string x355005_2) ∧ w'.cell? ⟨gb366, 0, none⟩ = some (.string t359) ∧ w'.cell? ⟨gb366, 1, none⟩ = some (.string t360) ∧ w'.cell? ⟨gb366, 2, none⟩ = some (.string t361) ∧ w'.cell? ⟨gb366, 3, none⟩ = some (.string t362) ∧ w'.cell? ⟨gb366, 4, none⟩ = some (.string t363) ∧ w'.cell? ⟨gb366, 5, none⟩ = some (.string t364) ∧ w'.cell? ⟨gb374, 0, none⟩ = some (.string t367) ∧ w'.cell? ⟨gb374, 1, none⟩ = some (.string t368) ∧ w'.cell? ⟨gb374, 2, none⟩ = some (.string t369) ∧ w'.cell? ⟨gb374, 3, none⟩ = some (.string t370) ∧ w'.cell? ⟨gb374, 4, none⟩ = some (.string t371) ∧ w'.cell? ⟨gb374, 5, none⟩ = some (.string t372)) (ds := []) #[false, false, false, false, false, false, false, false, false, false, false, false, false, false, false, false, false, false, false, false, false, false, false, false, false, false, false, false, false, false, false] (by kernel_rfl) rfl rfl ⟨(blk_cell BK353.out 0).trans rfl, (blk_cell BK353.out 1).trans rfl, (blk_cell BK353.out 2).trans rfl, (blk_cell BK353.out 3).trans rfl, (blk_cell BK353.out 4).trans rfl, (blk_cell BK353.out 5).trans rfl, (blk_cell BK354.out 0).trans rfl, (blk_cell BK354.out 1).trans rfl, (blk_cell BK354.out 2).trans rfl, (blk_cell BK354.out 3).trans rfl, (blk_cell BK354.out 4).trans rfl, (blk_cell BK354.out 5).trans rfl, (blk_cell BK366.out 0).trans rfl, (blk_cell BK366.out 1).trans rfl, (blk_cell BK366.out 2).trans rfl, (blk_cell BK366.out 3).trans rfl, (blk_cell BK366.out 4).trans rfl, (blk_cell BK366.out 5).trans rfl, (blk_cell BK374.out 0).trans rfl, (blk_cell BK374.out 1).trans rfl, (blk_cell BK374.out 2).trans rfl, (blk_cell BK374.out 3).trans rfl, (blk_cell BK374.out 4).trans rfl, (blk_cell BK374.out 5).trans rfl⟩ (fun hHeld => ?_); refine with_tabW entaillaw2_TuplTells.tab8 entaillaw2_TuplTells.bits8 (fun HT_ HW_ => ?_)
            generalize w54.drew = w55 at BK353 BK354 BK366 BK374 HB hHeld ⊢
            refine take_ (i := 0) (N := some 44) (v := ?_) (a' := ?_) #[true, false, false, false, false, false, false, false, false, false, false, false, false, false, false, false, false, false, false, false, false, false, false, false, false, false, false, false, false, false, false] rfl rfl (take_ofW HT_.out HW_.out (by kernel_rfl)) (fun _ _ _ h => h) (Or.inl ⟨by rfl, ?_⟩) hHeld ?_ ?_
            rotate_left
            ·rintro w' ⟨s0, s1, s2, s3, s4, s5, s6, s7, s8, s9, s10, s11, s12, s13, s14, s15, s16, s17, s18, s19, s20, s21, s22, s23⟩
             go_simp
             with_reducible rfl
            rotate_left
            ·simp only [Act.put, List.setIfInBounds_toArray, List.set_cons_zero, List.set_cons_succ, i64_w, i32_w]
             rfl
            refine take_ (i := 2) (N := some 46) (v := ?_) (a' := ?_) #[true, false, true, false, false, false, false, false, false, false, false, false, false, false, false, false, false, false, false, false, false, false, false, false, false, false, false, false, false, false, false] rfl rfl (take_ofW HT_.out HW_.out (by kernel_rfl)) (fun _ _ _ h => h) (Or.inl ⟨by rfl, ?_⟩) hHeld ?_ ?_
            rotate_left
            ·rintro w' ⟨s0, s1, s2, s3, s4, s5, s6, s7, s8, s9, s10, s11, s12, s13, s14, s15, s16, s17, s18, s19, s20, s21, s22, s23⟩
             go_simp
             with_reducible rfl
            rotate_left
            ·simp only [Act.put, List.setIfInBounds_toArray, List.set_cons_zero, List.set_cons_succ, i64_w, i32_w]
             rfl
            refine one_ (i := 1) (N := some 45) #[true, true, true, false, false, false, false, false, false, false, false, false, false, false, false, false, false, false, false, false, false, false, false, false, false, false, false, false, false, false, false] rfl rfl (one_of HT_.out (by kernel_rfl)) (by decide) (fun K hK => ?_)
            refine goes_ Try.func19 (by kernel_rfl) rfl #[.agg #[.string x354000_2, .string x354001_2, .string x354002_2, .string x354003_2, .string x354004_2, .string x354005_2]] (by rfl) rfl rfl (by (try simp only [List.map_toArray, List.map_cons, List.map_nil]); first | done | rfl | (simp only [List.length_drop, List.length_take]; rfl)) ?_
            with_reducible refine (tupl_Ok.calls k2 x354000_2 x354001_2 x354002_2 x354003_2 x354004_2 x354005_2 t375 _ A44.out).mono ?_
            rintro e w56 ⟨rfl, hb⟩
            refine ⟨_, rfl, ?_⟩
            have n0_ := Aside0.mk (blk_below (g := gb353) (o := .cells #[.string x354000_2, .string x354001_2, .string x354002_2, .string x354003_2, .string x354004_2, .string x354005_2] 29 (0, 0)) (by (with_reducible repeat (first | refine blk_drewN ?_ _ | refine blk_drew ?_ | refine blk_alloc ?_ _)); exact BK353.out) hb)
            have n1_ := Aside0.mk (blk_below (g := gb354) (o := .cells #[.string x355000_2, .string x355001_2, .string x355002_2, .string x355003_2, .string x355004_2, .string x355005_2] 29 (0, 0)) (by (with_reducible repeat (first | refine blk_drewN ?_ _ | refine blk_drew ?_ | refine blk_alloc ?_ _)); exact BK354.out) hb)
            have n2_ := Aside0.mk (blk_below (g := gb366) (o := .cells #[.string t359, .string t360, .string t361, .string t362, .string t363, .string t364] 29 (0, 0)) (by (with_reducible repeat (first | refine blk_drewN ?_ _ | refine blk_drew ?_ | refine blk_alloc ?_ _)); exact BK366.out) hb)
            have n3_ := Aside0.mk (blk_below (g := gb374) (o := .cells #[.string t367, .string t368, .string t369, .string t370, .string t371, .string t372] 29 (0, 0)) (by (with_reducible repeat (first | refine blk_drewN ?_ _ | refine blk_drew ?_ | refine blk_alloc ?_ _)); exact BK374.out) hb)
            have n4_ := Aside0.mk (below_step (by repeat (first | (with_reducible first | exact HB.out | apply below_alloc | apply pw_below_drewN | apply below_drew1 | refine below_set ?_ GE353.out | refine below_set ?_ GE354.out | refine below_set ?_ GE366.out | refine below_set ?_ GE374.out) | exact HB.out)) hb)
            clear BK353
            clear BK354
            clear BK366
            clear BK374
            clear HB
            have BK353 := n0_
            have BK354 := n1_
            have BK366 := n2_
            have BK374 := n3_
            have HB := n4_
            clear n0_ n1_ n2_ n3_ n4_
            (try clear hb)
            (try clear hb2)
            (try clear hk)
            (try clear hi)
            refine hK.out _ _ ⟨(blk_cell BK353.out 0).trans rfl, (blk_cell BK353.out 1).trans rfl, (blk_cell BK353.out 2).trans rfl, (blk_cell BK353.out 3).trans rfl, (blk_cell BK353.out 4).trans rfl, (blk_cell BK353.out 5).trans rfl, (blk_cell BK354.out 0).trans rfl, (blk_cell BK354.out 1).trans rfl, (blk_cell BK354.out 2).trans rfl, (blk_cell BK354.out 3).trans rfl, (blk_cell BK354.out 4).trans rfl, (blk_cell BK354.out 5).trans rfl, (blk_cell BK366.out 0).trans rfl, (blk_cell BK366.out 1).trans rfl, (blk_cell BK366.out 2).trans rfl, (blk_cell BK366.out 3).trans rfl, (blk_cell BK366.out 4).trans rfl, (blk_cell BK366.out 5).trans rfl, (blk_cell BK374.out 0).trans rfl, (blk_cell BK374.out 1).trans rfl, (blk_cell BK374.out 2).trans rfl, (blk_cell BK374.out 3).trans rfl, (blk_cell BK374.out 4).trans rfl, (blk_cell BK374.out 5).trans rfl⟩ (fun hHeld => ?_)
            clear hK K
            refine norm_ (a' := ?_) ?_ ?_
            rotate_left
            ·show Act.put _ (some 45) _ = _
             simp only [Act.put, List.setIfInBounds_toArray, List.set_cons_zero, List.set_cons_succ, i64_w, i32_w]
             rfl
            refine one_ (i := 3) (N := some 47) #[true, true, true, true, false, false, false, false, false, false, false, false, false, false, false, false, false, false, false, false, false, false, false, false, false, false, false, false, false, false, false] rfl rfl (one_of HT_.out (by kernel_rfl)) (by decide) (fun K hK => ?_)
            refine goes_ Try.func20 (by kernel_rfl) rfl #[.agg #[.string x354000_2, .string x354001_2, .string x354002_2, .string x354003_2, .string x354004_2, .string x354005_2]] (by rfl) rfl rfl (by (try simp only [List.map_toArray, List.map_cons, List.map_nil]); first | done | rfl | (simp only [List.length_drop, List.length_take]; rfl)) ?_
            with_reducible refine (entailref1_Ok.calls k2 x354000_2 x354001_2 x354002_2 x354003_2 x354004_2 x354005_2 t376 _ A45.out).mono ?_
            rintro e w57 ⟨rfl, hb⟩
            refine ⟨_, rfl, ?_⟩
            have n0_ := Aside0.mk (blk_below (g := gb353) (o := .cells #[.string x354000_2, .string x354001_2, .string x354002_2, .string x354003_2, .string x354004_2, .string x354005_2] 29 (0, 0)) (by (with_reducible repeat (first | refine blk_drewN ?_ _ | refine blk_drew ?_ | refine blk_alloc ?_ _)); exact BK353.out) hb)
            have n1_ := Aside0.mk (blk_below (g := gb354) (o := .cells #[.string x355000_2, .string x355001_2, .string x355002_2, .string x355003_2, .string x355004_2, .string x355005_2] 29 (0, 0)) (by (with_reducible repeat (first | refine blk_drewN ?_ _ | refine blk_drew ?_ | refine blk_alloc ?_ _)); exact BK354.out) hb)
            have n2_ := Aside0.mk (blk_below (g := gb366) (o := .cells #[.string t359, .string t360, .string t361, .string t362, .string t363, .string t364] 29 (0, 0)) (by (with_reducible repeat (first | refine blk_drewN ?_ _ | refine blk_drew ?_ | refine blk_alloc ?_ _)); exact BK366.out) hb)
            have n3_ := Aside0.mk (blk_below (g := gb374) (o := .cells #[.string t367, .string t368, .string t369, .string t370, .string t371, .string t372] 29 (0, 0)) (by (with_reducible repeat (first | refine blk_drewN ?_ _ | refine blk_drew ?_ | refine blk_alloc ?_ _)); exact BK374.out) hb)
            have n4_ := Aside0.mk (below_step (by repeat (first | (with_reducible first | exact HB.out | apply below_alloc | apply pw_below_drewN | apply below_drew1 | refine below_set ?_ GE353.out | refine below_set ?_ GE354.out | refine below_set ?_ GE366.out | refine below_set ?_ GE374.out) | exact HB.out)) hb)
            clear BK353
            clear BK354
            clear BK366
            clear BK374
            clear HB
            have BK353 := n0_
            have BK354 := n1_
            have BK366 := n2_
            have BK374 := n3_
            have HB := n4_
            clear n0_ n1_ n2_ n3_ n4_
            (try clear hb)
            (try clear hb2)
            (try clear hk)
            (try clear hi)
            refine hK.out _ _ ⟨(blk_cell BK353.out 0).trans rfl, (blk_cell BK353.out 1).trans rfl, (blk_cell BK353.out 2).trans rfl, (blk_cell BK353.out 3).trans rfl, (blk_cell BK353.out 4).trans rfl, (blk_cell BK353.out 5).trans rfl, (blk_cell BK354.out 0).trans rfl, (blk_cell BK354.out 1).trans rfl, (blk_cell BK354.out 2).trans rfl, (blk_cell BK354.out 3).trans rfl, (blk_cell BK354.out 4).trans rfl, (blk_cell BK354.out 5).trans rfl, (blk_cell BK366.out 0).trans rfl, (blk_cell BK366.out 1).trans rfl, (blk_cell BK366.out 2).trans rfl, (blk_cell BK366.out 3).trans rfl, (blk_cell BK366.out 4).trans rfl, (blk_cell BK366.out 5).trans rfl, (blk_cell BK374.out 0).trans rfl, (blk_cell BK374.out 1).trans rfl, (blk_cell BK374.out 2).trans rfl, (blk_cell BK374.out 3).trans rfl, (blk_cell BK374.out 4).trans rfl, (blk_cell BK374.out 5).trans rfl⟩ (fun hHeld => ?_)
            clear hK K
            refine norm_ (a' := ?_) ?_ ?_
            rotate_left
            ·show Act.put _ (some 47) _ = _
             simp only [Act.put, List.setIfInBounds_toArray, List.set_cons_zero, List.set_cons_succ, i64_w, i32_w]
             rfl
            refine pure_ (i := 4) (N := some 48) (v := ?_) (a' := ?_) #[true, true, true, true, true, false, false, false, false, false, false, false, false, false, false, false, false, false, false, false, false, false, false, false, false, false, false, false, false, false, false] rfl rfl (any_of HT_.out (by kernel_rfl)) (fun _ _ _ h => h) (Or.inl ⟨by rfl, ?_⟩) ?_ ?_
            rotate_left
            ·intro w'
             go_simp
             with_reducible rfl
            rotate_left
            ·simp only [Act.put, List.setIfInBounds_toArray, List.set_cons_zero, List.set_cons_succ, i64_w, i32_w]
             rfl
            refine pure_ (i := 5) (N := some 49) (v := ?_) (a' := ?_) #[true, true, true, true, true, true, false, false, false, false, false, false, false, false, false, false, false, false, false, false, false, false, false, false, false, false, false, false, false, false, false] rfl rfl (any_of HT_.out (by kernel_rfl)) (fun _ _ _ h => h) (Or.inl ⟨by rfl, ?_⟩) ?_ ?_
            rotate_left
            ·intro w'
             go_simp
             with_reducible rfl
            rotate_left
            ·simp only [Act.put, List.setIfInBounds_toArray, List.set_cons_zero, List.set_cons_succ, i64_w, i32_w]
             rfl
            refine take_ (i := 6) (N := some 50) (v := ?_) (a' := ?_) #[true, true, true, true, true, true, true, false, false, false, false, false, false, false, false, false, false, false, false, false, false, false, false, false, false, false, false, false, false, false, false] rfl rfl (take_ofW HT_.out HW_.out (by kernel_rfl)) (fun _ _ _ h => h) (Or.inl ⟨by rfl, ?_⟩) hHeld ?_ ?_
            rotate_left
            ·rintro w' ⟨s0, s1, s2, s3, s4, s5, s6, s7, s8, s9, s10, s11, s12, s13, s14, s15, s16, s17, s18, s19, s20, s21, s22, s23⟩
             go_simp
             with_reducible rfl
            rotate_left
            ·simp only [Act.put, List.setIfInBounds_toArray, List.set_cons_zero, List.set_cons_succ, i64_w, i32_w]
             rfl
            refine take_ (i := 8) (N := some 52) (v := ?_) (a' := ?_) #[true, true, true, true, true, true, true, false, true, false, false, false, false, false, false, false, false, false, false, false, false, false, false, false, false, false, false, false, false, false, false] rfl rfl (take_ofW HT_.out HW_.out (by kernel_rfl)) (fun _ _ _ h => h) (Or.inl ⟨by rfl, ?_⟩) hHeld ?_ ?_
            rotate_left
            ·rintro w' ⟨s0, s1, s2, s3, s4, s5, s6, s7, s8, s9, s10, s11, s12, s13, s14, s15, s16, s17, s18, s19, s20, s21, s22, s23⟩
             go_simp
             with_reducible rfl
            rotate_left
            ·simp only [Act.put, List.setIfInBounds_toArray, List.set_cons_zero, List.set_cons_succ, i64_w, i32_w]
             rfl
            refine one_ (i := 7) (N := some 51) #[true, true, true, true, true, true, true, true, true, false, false, false, false, false, false, false, false, false, false, false, false, false, false, false, false, false, false, false, false, false, false] rfl rfl (one_of HT_.out (by kernel_rfl)) (by decide) (fun K hK => ?_)
            refine goes_ Try.func13 (by kernel_rfl) rfl #[.agg #[.string x354000_2, .string x354001_2, .string x354002_2, .string x354003_2, .string x354004_2, .string x354005_2]] (by rfl) rfl rfl (by (try simp only [List.map_toArray, List.map_cons, List.map_nil]); first | done | rfl | (simp only [List.length_drop, List.length_take]; rfl)) ?_
            with_reducible refine (tupl_Text.calls k2 x354000_2 x354001_2 x354002_2 x354003_2 x354004_2 x354005_2 t377 _ A47.out).mono ?_
            rintro e w58 ⟨rfl, hb⟩
            refine ⟨_, rfl, ?_⟩
            have n0_ := Aside0.mk (blk_below (g := gb353) (o := .cells #[.string x354000_2, .string x354001_2, .string x354002_2, .string x354003_2, .string x354004_2, .string x354005_2] 29 (0, 0)) (by (with_reducible repeat (first | refine blk_drewN ?_ _ | refine blk_drew ?_ | refine blk_alloc ?_ _)); exact BK353.out) hb)
            have n1_ := Aside0.mk (blk_below (g := gb354) (o := .cells #[.string x355000_2, .string x355001_2, .string x355002_2, .string x355003_2, .string x355004_2, .string x355005_2] 29 (0, 0)) (by (with_reducible repeat (first | refine blk_drewN ?_ _ | refine blk_drew ?_ | refine blk_alloc ?_ _)); exact BK354.out) hb)
            have n2_ := Aside0.mk (blk_below (g := gb366) (o := .cells #[.string t359, .string t360, .string t361, .string t362, .string t363, .string t364] 29 (0, 0)) (by (with_reducible repeat (first | refine blk_drewN ?_ _ | refine blk_drew ?_ | refine blk_alloc ?_ _)); exact BK366.out) hb)
            have n3_ := Aside0.mk (blk_below (g := gb374) (o := .cells #[.string t367, .string t368, .string t369, .string t370, .string t371, .string t372] 29 (0, 0)) (by (with_reducible repeat (first | refine blk_drewN ?_ _ | refine blk_drew ?_ | refine blk_alloc ?_ _)); exact BK374.out) hb)
            have n4_ := Aside0.mk (below_step (by repeat (first | (with_reducible first | exact HB.out | apply below_alloc | apply pw_below_drewN | apply below_drew1 | refine below_set ?_ GE353.out | refine below_set ?_ GE354.out | refine below_set ?_ GE366.out | refine below_set ?_ GE374.out) | exact HB.out)) hb)
            clear BK353
            clear BK354
            clear BK366
            clear BK374
            clear HB
            have BK353 := n0_
            have BK354 := n1_
            have BK366 := n2_
            have BK374 := n3_
            have HB := n4_
            clear n0_ n1_ n2_ n3_ n4_
            (try clear hb)
            (try clear hb2)
            (try clear hk)
            (try clear hi)
            refine hK.out _ _ ⟨(blk_cell BK353.out 0).trans rfl, (blk_cell BK353.out 1).trans rfl, (blk_cell BK353.out 2).trans rfl, (blk_cell BK353.out 3).trans rfl, (blk_cell BK353.out 4).trans rfl, (blk_cell BK353.out 5).trans rfl, (blk_cell BK354.out 0).trans rfl, (blk_cell BK354.out 1).trans rfl, (blk_cell BK354.out 2).trans rfl, (blk_cell BK354.out 3).trans rfl, (blk_cell BK354.out 4).trans rfl, (blk_cell BK354.out 5).trans rfl, (blk_cell BK366.out 0).trans rfl, (blk_cell BK366.out 1).trans rfl, (blk_cell BK366.out 2).trans rfl, (blk_cell BK366.out 3).trans rfl, (blk_cell BK366.out 4).trans rfl, (blk_cell BK366.out 5).trans rfl, (blk_cell BK374.out 0).trans rfl, (blk_cell BK374.out 1).trans rfl, (blk_cell BK374.out 2).trans rfl, (blk_cell BK374.out 3).trans rfl, (blk_cell BK374.out 4).trans rfl, (blk_cell BK374.out 5).trans rfl⟩ (fun hHeld => ?_)
            clear hK K
            refine norm_ (a' := ?_) ?_ ?_
            rotate_left
            ·show Act.put _ (some 51) _ = _
             simp only [Act.put, List.setIfInBounds_toArray, List.set_cons_zero, List.set_cons_succ, i64_w, i32_w]
             rfl
            refine one_ (i := 9) (N := some 53) #[true, true, true, true, true, true, true, true, true, true, false, false, false, false, false, false, false, false, false, false, false, false, false, false, false, false, false, false, false, false, false] rfl rfl (one_of HT_.out (by kernel_rfl)) (by decide) (fun K hK => ?_)
            refine goes_ Try.func21 (by kernel_rfl) rfl #[.agg #[.string x354000_2, .string x354001_2, .string x354002_2, .string x354003_2, .string x354004_2, .string x354005_2]] (by rfl) rfl rfl (by (try simp only [List.map_toArray, List.map_cons, List.map_nil]); first | done | rfl | (simp only [List.length_drop, List.length_take]; rfl)) ?_
            with_reducible refine (entailref1_Text.calls k2 x354000_2 x354001_2 x354002_2 x354003_2 x354004_2 x354005_2 t378 _ A48.out).mono ?_
            rintro e w59 ⟨rfl, hb⟩
            refine ⟨_, rfl, ?_⟩
            have n0_ := Aside0.mk (blk_below (g := gb353) (o := .cells #[.string x354000_2, .string x354001_2, .string x354002_2, .string x354003_2, .string x354004_2, .string x354005_2] 29 (0, 0)) (by (with_reducible repeat (first | refine blk_drewN ?_ _ | refine blk_drew ?_ | refine blk_alloc ?_ _)); exact BK353.out) hb)
            have n1_ := Aside0.mk (blk_below (g := gb354) (o := .cells #[.string x355000_2, .string x355001_2, .string x355002_2, .string x355003_2, .string x355004_2, .string x355005_2] 29 (0, 0)) (by (with_reducible repeat (first | refine blk_drewN ?_ _ | refine blk_drew ?_ | refine blk_alloc ?_ _)); exact BK354.out) hb)
            have n2_ := Aside0.mk (blk_below (g := gb366) (o := .cells #[.string t359, .string t360, .string t361, .string t362, .string t363, .string t364] 29 (0, 0)) (by (with_reducible repeat (first | refine blk_drewN ?_ _ | refine blk_drew ?_ | refine blk_alloc ?_ _)); exact BK366.out) hb)
            have n3_ := Aside0.mk (blk_below (g := gb374) (o := .cells #[.string t367, .string t368, .string t369, .string t370, .string t371, .string t372] 29 (0, 0)) (by (with_reducible repeat (first | refine blk_drewN ?_ _ | refine blk_drew ?_ | refine blk_alloc ?_ _)); exact BK374.out) hb)
            have n4_ := Aside0.mk (below_step (by repeat (first | (with_reducible first | exact HB.out | apply below_alloc | apply pw_below_drewN | apply below_drew1 | refine below_set ?_ GE353.out | refine below_set ?_ GE354.out | refine below_set ?_ GE366.out | refine below_set ?_ GE374.out) | exact HB.out)) hb)
            clear BK353
            clear BK354
            clear BK366
            clear BK374
            clear HB
            have BK353 := n0_
            have BK354 := n1_
            have BK366 := n2_
            have BK374 := n3_
            have HB := n4_
            clear n0_ n1_ n2_ n3_ n4_
            (try clear hb)
            (try clear hb2)
            (try clear hk)
            (try clear hi)
            refine hK.out _ _ ⟨(blk_cell BK353.out 0).trans rfl, (blk_cell BK353.out 1).trans rfl, (blk_cell BK353.out 2).trans rfl, (blk_cell BK353.out 3).trans rfl, (blk_cell BK353.out 4).trans rfl, (blk_cell BK353.out 5).trans rfl, (blk_cell BK354.out 0).trans rfl, (blk_cell BK354.out 1).trans rfl, (blk_cell BK354.out 2).trans rfl, (blk_cell BK354.out 3).trans rfl, (blk_cell BK354.out 4).trans rfl, (blk_cell BK354.out 5).trans rfl, (blk_cell BK366.out 0).trans rfl, (blk_cell BK366.out 1).trans rfl, (blk_cell BK366.out 2).trans rfl, (blk_cell BK366.out 3).trans rfl, (blk_cell BK366.out 4).trans rfl, (blk_cell BK366.out 5).trans rfl, (blk_cell BK374.out 0).trans rfl, (blk_cell BK374.out 1).trans rfl, (blk_cell BK374.out 2).trans rfl, (blk_cell BK374.out 3).trans rfl, (blk_cell BK374.out 4).trans rfl, (blk_cell BK374.out 5).trans rfl⟩ (fun hHeld => ?_)
            clear hK K
            refine norm_ (a' := ?_) ?_ ?_
            rotate_left
            ·show Act.put _ (some 53) _ = _
             simp only [Act.put, List.setIfInBounds_toArray, List.set_cons_zero, List.set_cons_succ, i64_w, i32_w]
             rfl
            refine pure_ (i := 10) (N := some 54) (v := ?_) (a' := ?_) #[true, true, true, true, true, true, true, true, true, true, true, false, false, false, false, false, false, false, false, false, false, false, false, false, false, false, false, false, false, false, false] rfl rfl (any_of HT_.out (by kernel_rfl)) (fun _ _ _ h => h) (Or.inl ⟨by rfl, ?_⟩) ?_ ?_
            rotate_left
            ·intro w'
             go_simp
             with_reducible rfl
            rotate_left
            ·simp only [Act.put, List.setIfInBounds_toArray, List.set_cons_zero, List.set_cons_succ, i64_w, i32_w]
             rfl
            refine pure_ (i := 11) (N := some 55) (v := ?_) (a' := ?_) #[true, true, true, true, true, true, true, true, true, true, true, true, false, false, false, false, false, false, false, false, false, false, false, false, false, false, false, false, false, false, false] rfl rfl (any_of HT_.out (by kernel_rfl)) (fun _ _ _ h => h) (Or.inl ⟨by rfl, ?_⟩) ?_ ?_
            rotate_left
            ·intro w'
             go_simp
             with_reducible rfl
            rotate_left
            ·simp only [Act.put, List.setIfInBounds_toArray, List.set_cons_zero, List.set_cons_succ, i64_w, i32_w]
             rfl
            refine pure_ (i := 12) (N := some 56) (v := ?_) (a' := ?_) #[true, true, true, true, true, true, true, true, true, true, true, true, true, false, false, false, false, false, false, false, false, false, false, false, false, false, false, false, false, false, false] rfl rfl (any_of HT_.out (by kernel_rfl)) (fun _ _ _ h => h) (Or.inl ⟨by rfl, ?_⟩) ?_ ?_
            rotate_left
            ·intro w'
             go_simp
             with_reducible rfl
            rotate_left
            ·simp only [Act.put, List.setIfInBounds_toArray, List.set_cons_zero, List.set_cons_succ, i64_w, i32_w]
             rfl
            refine take_ (i := 13) (N := some 57) (v := ?_) (a' := ?_) #[true, true, true, true, true, true, true, true, true, true, true, true, true, true, false, false, false, false, false, false, false, false, false, false, false, false, false, false, false, false, false] rfl rfl (take_ofW HT_.out HW_.out (by kernel_rfl)) (fun _ _ _ h => h) (Or.inl ⟨by rfl, ?_⟩) hHeld ?_ ?_
            rotate_left
            ·rintro w' ⟨s0, s1, s2, s3, s4, s5, s6, s7, s8, s9, s10, s11, s12, s13, s14, s15, s16, s17, s18, s19, s20, s21, s22, s23⟩
             go_simp
             with_reducible rfl
            rotate_left
            ·simp only [Act.put, List.setIfInBounds_toArray, List.set_cons_zero, List.set_cons_succ, i64_w, i32_w]
             rfl
            refine take_ (i := 14) (N := some 58) (v := ?_) (a' := ?_) #[true, true, true, true, true, true, true, true, true, true, true, true, true, true, true, false, false, false, false, false, false, false, false, false, false, false, false, false, false, false, false] rfl rfl (take_ofW HT_.out HW_.out (by kernel_rfl)) (fun _ _ _ h => h) (Or.inl ⟨by rfl, ?_⟩) hHeld ?_ ?_
            rotate_left
            ·rintro w' ⟨s0, s1, s2, s3, s4, s5, s6, s7, s8, s9, s10, s11, s12, s13, s14, s15, s16, s17, s18, s19, s20, s21, s22, s23⟩
             go_simp
             with_reducible rfl
            rotate_left
            ·simp only [Act.put, List.setIfInBounds_toArray, List.set_cons_zero, List.set_cons_succ, i64_w, i32_w]
             rfl
            refine take_ (i := 16) (N := some 60) (v := ?_) (a' := ?_) #[true, true, true, true, true, true, true, true, true, true, true, true, true, true, true, false, true, false, false, false, false, false, false, false, false, false, false, false, false, false, false] rfl rfl (take_ofW HT_.out HW_.out (by kernel_rfl)) (fun _ _ _ h => h) (Or.inl ⟨by rfl, ?_⟩) hHeld ?_ ?_
            rotate_left
            ·rintro w' ⟨s0, s1, s2, s3, s4, s5, s6, s7, s8, s9, s10, s11, s12, s13, s14, s15, s16, s17, s18, s19, s20, s21, s22, s23⟩
             go_simp
             with_reducible rfl
            rotate_left
            ·simp only [Act.put, List.setIfInBounds_toArray, List.set_cons_zero, List.set_cons_succ, i64_w, i32_w]
             rfl
            refine take_ (i := 17) (N := some 61) (v := ?_) (a' := ?_) #[true, true, true, true, true, true, true, true, true, true, true, true, true, true, true, false, true, true, false, false, false, false, false, false, false, false, false, false, false, false, false] rfl rfl (take_ofW HT_.out HW_.out (by kernel_rfl)) (fun _ _ _ h => h) (Or.inl ⟨by rfl, ?_⟩) hHeld ?_ ?_
            rotate_left
            ·rintro w' ⟨s0, s1, s2, s3, s4, s5, s6, s7, s8, s9, s10, s11, s12, s13, s14, s15, s16, s17, s18, s19, s20, s21, s22, s23⟩
             go_simp
             with_reducible rfl
            rotate_left
            ·simp only [Act.put, List.setIfInBounds_toArray, List.set_cons_zero, List.set_cons_succ, i64_w, i32_w]
             rfl
            refine one_ (i := 15) (N := some 59) #[true, true, true, true, true, true, true, true, true, true, true, true, true, true, true, true, true, true, false, false, false, false, false, false, false, false, false, false, false, false, false] rfl rfl (one_of HT_.out (by kernel_rfl)) (by decide) (fun K hK => ?_)
            refine goes_ Try.func16 (by kernel_rfl) rfl #[.agg #[.string x354000_2, .string x354001_2, .string x354002_2, .string x354003_2, .string x354004_2, .string x354005_2], .agg #[.string x355000_2, .string x355001_2, .string x355002_2, .string x355003_2, .string x355004_2, .string x355005_2]] (by rfl) rfl rfl (by (try simp only [List.map_toArray, List.map_cons, List.map_nil]); first | done | rfl | (simp only [List.length_drop, List.length_take]; rfl)) ?_
            with_reducible refine (tupl_Less.calls k2 x354000_2 x354001_2 x354002_2 x354003_2 x354004_2 x354005_2 x355000_2 x355001_2 x355002_2 x355003_2 x355004_2 x355005_2 t379 _ A50.out).mono ?_
            rintro e w60 ⟨rfl, hb⟩
            refine ⟨_, rfl, ?_⟩
            have n0_ := Aside0.mk (blk_below (g := gb353) (o := .cells #[.string x354000_2, .string x354001_2, .string x354002_2, .string x354003_2, .string x354004_2, .string x354005_2] 29 (0, 0)) (by (with_reducible repeat (first | refine blk_drewN ?_ _ | refine blk_drew ?_ | refine blk_alloc ?_ _)); exact BK353.out) hb)
            have n1_ := Aside0.mk (blk_below (g := gb354) (o := .cells #[.string x355000_2, .string x355001_2, .string x355002_2, .string x355003_2, .string x355004_2, .string x355005_2] 29 (0, 0)) (by (with_reducible repeat (first | refine blk_drewN ?_ _ | refine blk_drew ?_ | refine blk_alloc ?_ _)); exact BK354.out) hb)
            have n2_ := Aside0.mk (blk_below (g := gb366) (o := .cells #[.string t359, .string t360, .string t361, .string t362, .string t363, .string t364] 29 (0, 0)) (by (with_reducible repeat (first | refine blk_drewN ?_ _ | refine blk_drew ?_ | refine blk_alloc ?_ _)); exact BK366.out) hb)
            have n3_ := Aside0.mk (blk_below (g := gb374) (o := .cells #[.string t367, .string t368, .string t369, .string t370, .string t371, .string t372] 29 (0, 0)) (by (with_reducible repeat (first | refine blk_drewN ?_ _ | refine blk_drew ?_ | refine blk_alloc ?_ _)); exact BK374.out) hb)
            have n4_ := Aside0.mk (below_step (by repeat (first | (with_reducible first | exact HB.out | apply below_alloc | apply pw_below_drewN | apply below_drew1 | refine below_set ?_ GE353.out | refine below_set ?_ GE354.out | refine below_set ?_ GE366.out | refine below_set ?_ GE374.out) | exact HB.out)) hb)
            clear BK353
            clear BK354
            clear BK366
            clear BK374
            clear HB
            have BK353 := n0_
            have BK354 := n1_
            have BK366 := n2_
            have BK374 := n3_
            have HB := n4_
            clear n0_ n1_ n2_ n3_ n4_
            (try clear hb)
            (try clear hb2)
            (try clear hk)
            (try clear hi)
            refine hK.out _ _ ⟨(blk_cell BK353.out 0).trans rfl, (blk_cell BK353.out 1).trans rfl, (blk_cell BK353.out 2).trans rfl, (blk_cell BK353.out 3).trans rfl, (blk_cell BK353.out 4).trans rfl, (blk_cell BK353.out 5).trans rfl, (blk_cell BK354.out 0).trans rfl, (blk_cell BK354.out 1).trans rfl, (blk_cell BK354.out 2).trans rfl, (blk_cell BK354.out 3).trans rfl, (blk_cell BK354.out 4).trans rfl, (blk_cell BK354.out 5).trans rfl, (blk_cell BK366.out 0).trans rfl, (blk_cell BK366.out 1).trans rfl, (blk_cell BK366.out 2).trans rfl, (blk_cell BK366.out 3).trans rfl, (blk_cell BK366.out 4).trans rfl, (blk_cell BK366.out 5).trans rfl, (blk_cell BK374.out 0).trans rfl, (blk_cell BK374.out 1).trans rfl, (blk_cell BK374.out 2).trans rfl, (blk_cell BK374.out 3).trans rfl, (blk_cell BK374.out 4).trans rfl, (blk_cell BK374.out 5).trans rfl⟩ (fun hHeld => ?_)
            clear hK K
            refine norm_ (a' := ?_) ?_ ?_
            rotate_left
            ·show Act.put _ (some 59) _ = _
             simp only [Act.put, List.setIfInBounds_toArray, List.set_cons_zero, List.set_cons_succ, i64_w, i32_w]
             rfl
            refine one_ (i := 18) (N := some 62) #[true, true, true, true, true, true, true, true, true, true, true, true, true, true, true, true, true, true, true, false, false, false, false, false, false, false, false, false, false, false, false] rfl rfl (one_of HT_.out (by kernel_rfl)) (by decide) (fun K hK => ?_)
            refine goes_ Try.func22 (by kernel_rfl) rfl #[.agg #[.string x354000_2, .string x354001_2, .string x354002_2, .string x354003_2, .string x354004_2, .string x354005_2], .agg #[.string x355000_2, .string x355001_2, .string x355002_2, .string x355003_2, .string x355004_2, .string x355005_2]] (by rfl) rfl rfl (by (try simp only [List.map_toArray, List.map_cons, List.map_nil]); first | done | rfl | (simp only [List.length_drop, List.length_take]; rfl)) ?_
            with_reducible refine (entailref1_Less.calls k2 x354000_2 x354001_2 x354002_2 x354003_2 x354004_2 x354005_2 x355000_2 x355001_2 x355002_2 x355003_2 x355004_2 x355005_2 t380 _ A51.out).mono ?_
            rintro e w61 ⟨rfl, hb⟩
            refine ⟨_, rfl, ?_⟩
            have n0_ := Aside0.mk (blk_below (g := gb353) (o := .cells #[.string x354000_2, .string x354001_2, .string x354002_2, .string x354003_2, .string x354004_2, .string x354005_2] 29 (0, 0)) (by (with_reducible repeat (first | refine blk_drewN ?_ _ | refine blk_drew ?_ | refine blk_alloc ?_ _)); exact BK353.out) hb)
            have n1_ := Aside0.mk (blk_below (g := gb354) (o := .cells #[.string x355000_2, .string x355001_2, .string x355002_2, .string x355003_2, .string x355004_2, .string x355005_2] 29 (0, 0)) (by (with_reducible repeat (first | refine blk_drewN ?_ _ | refine blk_drew ?_ | refine blk_alloc ?_ _)); exact BK354.out) hb)
            have n2_ := Aside0.mk (blk_below (g := gb366) (o := .cells #[.string t359, .string t360, .string t361, .string t362, .string t363, .string t364] 29 (0, 0)) (by (with_reducible repeat (first | refine blk_drewN ?_ _ | refine blk_drew ?_ | refine blk_alloc ?_ _)); exact BK366.out) hb)
            have n3_ := Aside0.mk (blk_below (g := gb374) (o := .cells #[.string t367, .string t368, .string t369, .string t370, .string t371, .string t372] 29 (0, 0)) (by (with_reducible repeat (first | refine blk_drewN ?_ _ | refine blk_drew ?_ | refine blk_alloc ?_ _)); exact BK374.out) hb)
            have n4_ := Aside0.mk (below_step (by repeat (first | (with_reducible first | exact HB.out | apply below_alloc | apply pw_below_drewN | apply below_drew1 | refine below_set ?_ GE353.out | refine below_set ?_ GE354.out | refine below_set ?_ GE366.out | refine below_set ?_ GE374.out) | exact HB.out)) hb)
            clear BK353
            clear BK354
            clear BK366
            clear BK374
            clear HB
            have BK353 := n0_
            have BK354 := n1_
            have BK366 := n2_
            have BK374 := n3_
            have HB := n4_
            clear n0_ n1_ n2_ n3_ n4_
            (try clear hb)
            (try clear hb2)
            (try clear hk)
            (try clear hi)
            refine hK.out _ _ ⟨(blk_cell BK353.out 0).trans rfl, (blk_cell BK353.out 1).trans rfl, (blk_cell BK353.out 2).trans rfl, (blk_cell BK353.out 3).trans rfl, (blk_cell BK353.out 4).trans rfl, (blk_cell BK353.out 5).trans rfl, (blk_cell BK354.out 0).trans rfl, (blk_cell BK354.out 1).trans rfl, (blk_cell BK354.out 2).trans rfl, (blk_cell BK354.out 3).trans rfl, (blk_cell BK354.out 4).trans rfl, (blk_cell BK354.out 5).trans rfl, (blk_cell BK366.out 0).trans rfl, (blk_cell BK366.out 1).trans rfl, (blk_cell BK366.out 2).trans rfl, (blk_cell BK366.out 3).trans rfl, (blk_cell BK366.out 4).trans rfl, (blk_cell BK366.out 5).trans rfl, (blk_cell BK374.out 0).trans rfl, (blk_cell BK374.out 1).trans rfl, (blk_cell BK374.out 2).trans rfl, (blk_cell BK374.out 3).trans rfl, (blk_cell BK374.out 4).trans rfl, (blk_cell BK374.out 5).trans rfl⟩ (fun hHeld => ?_)
            clear hK K
            refine norm_ (a' := ?_) ?_ ?_
            rotate_left
            ·show Act.put _ (some 62) _ = _
             simp only [Act.put, List.setIfInBounds_toArray, List.set_cons_zero, List.set_cons_succ, i64_w, i32_w]
             rfl
            refine pure_ (i := 19) (N := some 63) (v := ?_) (a' := ?_) #[true, true, true, true, true, true, true, true, true, true, true, true, true, true, true, true, true, true, true, true, false, false, false, false, false, false, false, false, false, false, false] rfl rfl (any_of HT_.out (by kernel_rfl)) (fun _ _ _ h => h) (Or.inl ⟨by rfl, ?_⟩) ?_ ?_
            rotate_left
            ·intro w'
             go_simp
             with_reducible rfl
            rotate_left
            ·simp only [Act.put, List.setIfInBounds_toArray, List.set_cons_zero, List.set_cons_succ, i64_w, i32_w]
             rfl
            refine pure_ (i := 20) (N := some 64) (v := ?_) (a' := ?_) #[true, true, true, true, true, true, true, true, true, true, true, true, true, true, true, true, true, true, true, true, true, false, false, false, false, false, false, false, false, false, false] rfl rfl (any_of HT_.out (by kernel_rfl)) (fun _ _ _ h => h) (Or.inl ⟨by rfl, ?_⟩) ?_ ?_
            rotate_left
            ·intro w'
             go_simp
             with_reducible rfl
            rotate_left
            ·simp only [Act.put, List.setIfInBounds_toArray, List.set_cons_zero, List.set_cons_succ, i64_w, i32_w]
             rfl
            refine pure_ (i := 21) (N := some 65) (v := ?_) (a' := ?_) #[true, true, true, true, true, true, true, true, true, true, true, true, true, true, true, true, true, true, true, true, true, true, false, false, false, false, false, false, false, false, false] rfl rfl (any_of HT_.out (by kernel_rfl)) (fun _ _ _ h => h) (Or.inl ⟨by rfl, ?_⟩) ?_ ?_
            rotate_left
            ·intro w'
             go_simp
             with_reducible rfl
            rotate_left
            ·simp only [Act.put, List.setIfInBounds_toArray, List.set_cons_zero, List.set_cons_succ, i64_w, i32_w]
             rfl
            refine take_ (i := 22) (N := some 66) (v := ?_) (a' := ?_) #[true, true, true, true, true, true, true, true, true, true, true, true, true, true, true, true, true, true, true, true, true, true, true, false, false, false, false, false, false, false, false] rfl rfl (take_ofW HT_.out HW_.out (by kernel_rfl)) (fun _ _ _ h => h) (Or.inl ⟨by rfl, ?_⟩) hHeld ?_ ?_
            rotate_left
            ·rintro w' ⟨s0, s1, s2, s3, s4, s5, s6, s7, s8, s9, s10, s11, s12, s13, s14, s15, s16, s17, s18, s19, s20, s21, s22, s23⟩
             go_simp
             with_reducible rfl
            rotate_left
            ·simp only [Act.put, List.setIfInBounds_toArray, List.set_cons_zero, List.set_cons_succ, i64_w, i32_w]
             rfl
            refine take_ (i := 23) (N := some 67) (v := ?_) (a' := ?_) #[true, true, true, true, true, true, true, true, true, true, true, true, true, true, true, true, true, true, true, true, true, true, true, true, false, false, false, false, false, false, false] rfl rfl (take_ofW HT_.out HW_.out (by kernel_rfl)) (fun _ _ _ h => h) (Or.inl ⟨by rfl, ?_⟩) hHeld ?_ ?_
            rotate_left
            ·rintro w' ⟨s0, s1, s2, s3, s4, s5, s6, s7, s8, s9, s10, s11, s12, s13, s14, s15, s16, s17, s18, s19, s20, s21, s22, s23⟩
             go_simp
             with_reducible rfl
            rotate_left
            ·simp only [Act.put, List.setIfInBounds_toArray, List.set_cons_zero, List.set_cons_succ, i64_w, i32_w]
             rfl
            refine pure_ (i := 24) (N := some 68) (v := ?_) (a' := ?_) #[true, true, true, true, true, true, true, true, true, true, true, true, true, true, true, true, true, true, true, true, true, true, true, true, true, false, false, false, false, false, false] rfl rfl (any_of HT_.out (by kernel_rfl)) (fun _ _ _ h => h) (Or.inl ⟨by rfl, ?_⟩) ?_ ?_
            rotate_left
            ·intro w'
             go_simp
             with_reducible rfl
            rotate_left
            ·simp only [Act.put, List.setIfInBounds_toArray, List.set_cons_zero, List.set_cons_succ, i64_w, i32_w]
             rfl
            refine pure_ (i := 25) (N := some 69) (v := ?_) (a' := ?_) #[true, true, true, true, true, true, true, true, true, true, true, true, true, true, true, true, true, true, true, true, true, true, true, true, true, true, false, false, false, false, false] rfl rfl (any_of HT_.out (by kernel_rfl)) (fun _ _ _ h => h) (Or.inl ⟨by rfl, ?_⟩) ?_ ?_
            rotate_left
            ·intro w'
             go_simp
             with_reducible rfl
            rotate_left
            ·simp only [Act.put, List.setIfInBounds_toArray, List.set_cons_zero, List.set_cons_succ, i64_w, i32_w]
             rfl
            refine pure_ (i := 26) (N := some 70) (v := ?_) (a' := ?_) #[true, true, true, true, true, true, true, true, true, true, true, true, true, true, true, true, true, true, true, true, true, true, true, true, true, true, true, false, false, false, false] rfl rfl (any_of HT_.out (by kernel_rfl)) (fun _ _ _ h => h) (Or.inl ⟨by rfl, ?_⟩) ?_ ?_
            rotate_left
            ·intro w'
             go_simp
             with_reducible rfl
            rotate_left
            ·simp only [Act.put, List.setIfInBounds_toArray, List.set_cons_zero, List.set_cons_succ, i64_w, i32_w]
             rfl
            refine pure_ (i := 27) (N := some 71) (v := ?_) (a' := ?_) #[true, true, true, true, true, true, true, true, true, true, true, true, true, true, true, true, true, true, true, true, true, true, true, true, true, true, true, true, false, false, false] rfl rfl (any_of HT_.out (by kernel_rfl)) (fun _ _ _ h => h) (Or.inl ⟨by rfl, ?_⟩) ?_ ?_
            rotate_left
            ·intro w'
             go_simp
             with_reducible rfl
            rotate_left
            ·simp only [Act.put, List.setIfInBounds_toArray, List.set_cons_zero, List.set_cons_succ, i64_w, i32_w]
             rfl
            refine pure_ (i := 28) (N := some 72) (v := ?_) (a' := ?_) #[true, true, true, true, true, true, true, true, true, true, true, true, true, true, true, true, true, true, true, true, true, true, true, true, true, true, true, true, true, false, false] rfl rfl (any_of HT_.out (by kernel_rfl)) (fun _ _ _ h => h) (Or.inl ⟨by rfl, ?_⟩) ?_ ?_
            rotate_left
            ·intro w'
             go_simp
             with_reducible rfl
            rotate_left
            ·simp only [Act.put, List.setIfInBounds_toArray, List.set_cons_zero, List.set_cons_succ, i64_w, i32_w]
             rfl
            refine pure_ (i := 29) (N := some 73) (v := ?_) (a' := ?_) #[true, true, true, true, true, true, true, true, true, true, true, true, true, true, true, true, true, true, true, true, true, true, true, true, true, true, true, true, true, true, false] rfl rfl (any_of HT_.out (by kernel_rfl)) (fun _ _ _ h => h) (Or.inl ⟨by rfl, ?_⟩) ?_ ?_
            rotate_left
            ·intro w'
             go_simp
             with_reducible rfl
            rotate_left
            ·simp only [Act.put, List.setIfInBounds_toArray, List.set_cons_zero, List.set_cons_succ, i64_w, i32_w]
             rfl
            refine pure_ (i := 30) (N := some 74) (v := ?_) (a' := ?_) #[true, true, true, true, true, true, true, true, true, true, true, true, true, true, true, true, true, true, true, true, true, true, true, true, true, true, true, true, true, true, true] rfl rfl (any_of HT_.out (by kernel_rfl)) (fun _ _ _ h => h) (Or.inl ⟨by rfl, ?_⟩) ?_ ?_
            rotate_left
            ·intro w'
             go_simp
             with_reducible rfl
            rotate_left
            ·simp only [Act.put, List.setIfInBounds_toArray, List.set_cons_zero, List.set_cons_succ, i64_w, i32_w]
             rfl
            refine done_ (done_of HT_.out (by kernel_rfl)) ?_
            try go_wp2
            go_meet
            case rel => exact ⟨_, ((t365 != t373)), (by first | rfl | (simp; done) | (simp [*]; done)), H', ⟨by have := HJ5.out; have := HK2.out; first | omega | exact Nat.le_refl _⟩, ⟨by (with_reducible repeat (first | refine blk_drewN ?_ _ | refine blk_drew ?_ | refine blk_alloc ?_ _)); exact BK353.out⟩, ⟨by (with_reducible repeat (first | refine blk_drewN ?_ _ | refine blk_drew ?_ | refine blk_alloc ?_ _)); exact BK354.out⟩, ⟨by (with_reducible repeat (first | refine blk_drewN ?_ _ | refine blk_drew ?_ | refine blk_alloc ?_ _)); exact BK366.out⟩, ⟨by (with_reducible repeat (first | refine blk_drewN ?_ _ | refine blk_drew ?_ | refine blk_alloc ?_ _)); exact BK374.out⟩, ⟨by repeat (first | (with_reducible first | exact HB.out | apply below_alloc | apply pw_below_drewN | apply below_drew1 | refine below_set ?_ GE353.out | refine below_set ?_ GE354.out | refine below_set ?_ GE366.out | refine below_set ?_ GE374.out) | exact HB.out)⟩⟩
         ·rw [if_neg c49] at H
          have c49b0 : (t377.toList == t378.toList) = false := beq_eq_false_iff_ne.mpr c49
          have c49b1 : (t377.toList != t378.toList) = true := bne_iff_ne.mpr c49
          exact absurd H (by simp)
       case rest =>
        clear HC32
        try clear c1
        try clear c2
        try clear p2
        try clear c3
        try clear c4
        try clear c5
        try clear c12
        try clear c13
        try clear c16
        try clear c18
        try clear c19
        try clear c20
        try clear c21
        try clear c22
        try clear c29
        try clear c29b0
        try clear c35
        try clear c36
        try clear c40
        try clear c41
        try clear c42
        try clear c46
        try clear c46b0
        try clear c46b1
        try clear c46b2
        try clear c49
        try clear c49b0
        try clear c49b1
        try clear c52
        try clear c52b0
        try clear c52b1
        try clear c52b2
        try clear c53
        try clear c53b0
        try clear hcz14_1
        try clear hcz14_2
        try clear hcz14_3
        try clear hcz14_4
        try clear hcz14_5
        try clear hcz16_0
        try clear hcz16_1
        try clear hcz16_2
        try clear hcz16_3
        try clear hcz16_4
        try clear hcz16_5
        try clear hcz19_0
        try clear hcz19_1
        try clear hcz19_2
        try clear hcz19_3
        try clear hcz19_4
        try clear hcz19_5
        try clear hcz21_0
        try clear hcz21_1
        try clear hcz21_2
        try clear hcz21_3
        try clear hcz21_4
        try clear hcz21_5
        try clear hcz24_0
        try clear hcz24_1
        try clear hcz24_2
        try clear hcz24_3
        try clear hcz24_4
        try clear hcz24_5
        try clear hcz37_0
        try clear hcz37_1
        try clear hcz37_2
        try clear hcz37_3
        try clear hcz37_4
        try clear hcz37_5
        try clear hcz43_0
        try clear hcz43_1
        try clear hcz43_2
        try clear hcz43_3
        try clear hcz43_4
        try clear hcz43_5
        try clear hfz14_0
        try clear hfz14_1
        try clear hfz14_2
        try clear hfz14_3
        try clear hfz14_4
        try clear hfz14_5
        try clear hfz16_0
        try clear hfz16_1
        try clear hfz16_2
        try clear hfz16_3
        try clear hfz16_4
        try clear hfz16_5
        try clear hfz19_0
        try clear hfz19_1
        try clear hfz19_2
        try clear hfz19_3
        try clear hfz19_4
        try clear hfz19_5
        try clear hfz21_0
        try clear hfz21_1
        try clear hfz21_2
        try clear hfz21_3
        try clear hfz21_4
        try clear hfz21_5
        try clear hfz24_0
        try clear hfz24_1
        try clear hfz24_2
        try clear hfz24_3
        try clear hfz24_4
        try clear hfz24_5
        try clear hfz37_0
        try clear hfz37_1
        try clear hfz37_2
        try clear hfz37_3
        try clear hfz37_4
        try clear hfz37_5
        try clear hfz43_0
        try clear hfz43_1
        try clear hfz43_2
        try clear hfz43_3
        try clear hfz43_4
        try clear hfz43_5
        try clear p2
        obtain ⟨kq, x74_31, rfl, HA, HJ31, BK353, BK354, BK366, BK374, HB⟩ := hcut
        cases kq with
        | zero => exact absurd HA.out (by simp [entaillaw2_TuplTells.j2])
        | succ kj31 =>
         have H := HA.out
         clear HA
         simp only [entaillaw2_TuplTells.j2] at H
         by_cases c62 : x74_31 = true
         ·subst c62
          have H1 : (none) = some r := by rw [if_pos rfl] at H; exact H
          clear H
          have H := H1
          clear H1
          exact absurd H (by simp)
         ·replace c62 := Bool.eq_false_iff.mpr c62
          subst c62
          have H1 : ((entaillaw2_Tame.f a3).bind fun bt381 => ((entaillaw2_Tame.f a4).bind fun bt387 => ((entailref1_Text.f kj31 bt381.1 bt381.2.1 bt381.2.2.1 bt381.2.2.2.1 bt381.2.2.2.2.1 bt381.2.2.2.2.2).bind fun t393 => (entaillaw2_TuplTells.l0 kj31 t393 a3 a4 (wrap64 (x11_2 + 1)) bt381.1 bt381.2.1 bt381.2.2.1 bt381.2.2.2.1 bt381.2.2.2.2.1 bt381.2.2.2.2.2 bt387.1 bt387.2.1 bt387.2.2.1 bt387.2.2.2.1 bt387.2.2.2.2.1 bt387.2.2.2.2.2)))) = some r := by rw [if_neg (show ¬ (false = true) by decide)] at H; exact H
          clear H
          have H := H1
          clear H1
          replace H := Option.bind_eq_some_iff.mp H
          obtain ⟨⟨t381, t382, t383, t384, t385, t386⟩, A630, H⟩ := H
          replace H : ((entaillaw2_Tame.f a4).bind fun bt387 => ((entailref1_Text.f kj31 t381 t382 t383 t384 t385 t386).bind fun t393 => (entaillaw2_TuplTells.l0 kj31 t393 a3 a4 (wrap64 (x11_2 + 1)) t381 t382 t383 t384 t385 t386 bt387.1 bt387.2.1 bt387.2.2.1 bt387.2.2.2.1 bt387.2.2.2.2.1 bt387.2.2.2.2.2))) = some r := H
          have A63 := Aside0.mk A630
          clear A630
          replace H := Option.bind_eq_some_iff.mp H
          obtain ⟨⟨t387, t388, t389, t390, t391, t392⟩, A640, H⟩ := H
          replace H : ((entailref1_Text.f kj31 t381 t382 t383 t384 t385 t386).bind fun t393 => (entaillaw2_TuplTells.l0 kj31 t393 a3 a4 (wrap64 (x11_2 + 1)) t381 t382 t383 t384 t385 t386 t387 t388 t389 t390 t391 t392)) = some r := H
          have A64 := Aside0.mk A640
          clear A640
          replace H := Option.bind_eq_some_iff.mp H
          obtain ⟨t393, A650, H⟩ := H
          replace H : (entaillaw2_TuplTells.l0 kj31 t393 a3 a4 (wrap64 (x11_2 + 1)) t381 t382 t383 t384 t385 t386 t387 t388 t389 t390 t391 t392) = some r := H
          have A65 := Aside0.mk A650
          clear A650
          have H' := Aside0.mk H
          clear H
          go_wp2_with (first | ((with_reducible refine gate_callee (f := 23) rfl ?_); refine goesL_ (some 76) rfl rfl Try.func23 (by kernel_rfl) rfl #[.int .i64 a3] rfl (by (try simp only [List.map_toArray, List.map_cons, List.map_nil]); first | done | rfl | (simp only [List.length_drop, List.length_take]; rfl)) ?_; (with_reducible refine (entaillaw2_Tame.calls a3 t381 t382 t383 t384 t385 t386 _ A63.out).mono ?_); rintro e w66 ⟨rfl, hb⟩; refine ⟨_, rfl, ?_⟩; have n0_ := Aside0.mk (blk_below (g := gb353) (o := .cells #[.string x354000_2, .string x354001_2, .string x354002_2, .string x354003_2, .string x354004_2, .string x354005_2] 29 (0, 0)) (by (with_reducible repeat (first | refine blk_drewN ?_ _ | refine blk_drew ?_ | refine blk_alloc ?_ _)); exact BK353.out) hb); have n1_ := Aside0.mk (blk_below (g := gb354) (o := .cells #[.string x355000_2, .string x355001_2, .string x355002_2, .string x355003_2, .string x355004_2, .string x355005_2] 29 (0, 0)) (by (with_reducible repeat (first | refine blk_drewN ?_ _ | refine blk_drew ?_ | refine blk_alloc ?_ _)); exact BK354.out) hb); have n2_ := Aside0.mk (blk_below (g := gb366) (o := .cells #[.string t359, .string t360, .string t361, .string t362, .string t363, .string t364] 29 (0, 0)) (by (with_reducible repeat (first | refine blk_drewN ?_ _ | refine blk_drew ?_ | refine blk_alloc ?_ _)); exact BK366.out) hb); have n3_ := Aside0.mk (blk_below (g := gb374) (o := .cells #[.string t367, .string t368, .string t369, .string t370, .string t371, .string t372] 29 (0, 0)) (by (with_reducible repeat (first | refine blk_drewN ?_ _ | refine blk_drew ?_ | refine blk_alloc ?_ _)); exact BK374.out) hb); have n4_ := Aside0.mk (below_step (by repeat (first | (with_reducible first | exact HB.out | apply below_alloc | apply pw_below_drewN | apply below_drew1 | refine below_set ?_ GE353.out | refine below_set ?_ GE354.out | refine below_set ?_ GE366.out | refine below_set ?_ GE374.out) | exact HB.out)) hb); clear BK353; clear BK354; clear BK366; clear BK374; clear HB; have BK353 := n0_; have BK354 := n1_; have BK366 := n2_; have BK374 := n3_; have HB := n4_; clear n0_ n1_ n2_ n3_ n4_; (try clear hb); (try clear hb2); (try clear hk); (try clear hi)) | ((with_reducible refine gate_callee (f := 23) rfl ?_); refine goesL_ (some 78) rfl rfl Try.func23 (by kernel_rfl) rfl #[.int .i64 a4] rfl (by (try simp only [List.map_toArray, List.map_cons, List.map_nil]); first | done | rfl | (simp only [List.length_drop, List.length_take]; rfl)) ?_; (with_reducible refine (entaillaw2_Tame.calls a4 t387 t388 t389 t390 t391 t392 _ A64.out).mono ?_); rintro e w67 ⟨rfl, hb⟩; refine ⟨_, rfl, ?_⟩; have n0_ := Aside0.mk (blk_below (g := gb353) (o := .cells #[.string x354000_2, .string x354001_2, .string x354002_2, .string x354003_2, .string x354004_2, .string x354005_2] 29 (0, 0)) (by (with_reducible repeat (first | refine blk_drewN ?_ _ | refine blk_drew ?_ | refine blk_alloc ?_ _)); exact BK353.out) hb); have n1_ := Aside0.mk (blk_below (g := gb354) (o := .cells #[.string x355000_2, .string x355001_2, .string x355002_2, .string x355003_2, .string x355004_2, .string x355005_2] 29 (0, 0)) (by (with_reducible repeat (first | refine blk_drewN ?_ _ | refine blk_drew ?_ | refine blk_alloc ?_ _)); exact BK354.out) hb); have n2_ := Aside0.mk (blk_below (g := gb366) (o := .cells #[.string t359, .string t360, .string t361, .string t362, .string t363, .string t364] 29 (0, 0)) (by (with_reducible repeat (first | refine blk_drewN ?_ _ | refine blk_drew ?_ | refine blk_alloc ?_ _)); exact BK366.out) hb); have n3_ := Aside0.mk (blk_below (g := gb374) (o := .cells #[.string t367, .string t368, .string t369, .string t370, .string t371, .string t372] 29 (0, 0)) (by (with_reducible repeat (first | refine blk_drewN ?_ _ | refine blk_drew ?_ | refine blk_alloc ?_ _)); exact BK374.out) hb); have n4_ := Aside0.mk (below_step (by repeat (first | (with_reducible first | exact HB.out | apply below_alloc | apply pw_below_drewN | apply below_drew1 | refine below_set ?_ GE353.out | refine below_set ?_ GE354.out | refine below_set ?_ GE366.out | refine below_set ?_ GE374.out) | exact HB.out)) hb); clear BK353; clear BK354; clear BK366; clear BK374; clear HB; have BK353 := n0_; have BK354 := n1_; have BK366 := n2_; have BK374 := n3_; have HB := n4_; clear n0_ n1_ n2_ n3_ n4_; (try clear hb); (try clear hb2); (try clear hk); (try clear hi); have hnb68 := NB353_354.out; have hnc68 := NB354_353.out; have hnb69 := NB353_366.out; have hnc69 := NB366_353.out; have hnb70 := NB353_374.out; have hnc70 := NB374_353.out; have hcz71_0 : w67.cell? ⟨gb353, 0, none⟩ = some (.string x354000_2) := (blk_cell BK353.out 0).trans rfl; have hcz71_1 : w67.cell? ⟨gb353, 1, none⟩ = some (.string x354001_2) := (blk_cell BK353.out 1).trans rfl; have hcz71_2 : w67.cell? ⟨gb353, 2, none⟩ = some (.string x354002_2) := (blk_cell BK353.out 2).trans rfl; have hcz71_3 : w67.cell? ⟨gb353, 3, none⟩ = some (.string x354003_2) := (blk_cell BK353.out 3).trans rfl; have hcz71_4 : w67.cell? ⟨gb353, 4, none⟩ = some (.string x354004_2) := (blk_cell BK353.out 4).trans rfl; have hcz71_5 : w67.cell? ⟨gb353, 5, none⟩ = some (.string x354005_2) := (blk_cell BK353.out 5).trans rfl; have hfz71_0 := blk_frozen BK353.out 0; have hfz71_1 := blk_frozen BK353.out 1; have hfz71_2 := blk_frozen BK353.out 2; have hfz71_3 := blk_frozen BK353.out 3; have hfz71_4 := blk_frozen BK353.out 4; have hfz71_5 := blk_frozen BK353.out 5; have hnb72 := NB354_366.out; have hnc72 := NB366_354.out; have hnb73 := NB354_374.out; have hnc73 := NB374_354.out; have hcz74_0 : w67.cell? ⟨gb354, 0, none⟩ = some (.string x355000_2) := (blk_cell BK354.out 0).trans rfl; have hcz74_1 : w67.cell? ⟨gb354, 1, none⟩ = some (.string x355001_2) := (blk_cell BK354.out 1).trans rfl; have hcz74_2 : w67.cell? ⟨gb354, 2, none⟩ = some (.string x355002_2) := (blk_cell BK354.out 2).trans rfl; have hcz74_3 : w67.cell? ⟨gb354, 3, none⟩ = some (.string x355003_2) := (blk_cell BK354.out 3).trans rfl; have hcz74_4 : w67.cell? ⟨gb354, 4, none⟩ = some (.string x355004_2) := (blk_cell BK354.out 4).trans rfl; have hcz74_5 : w67.cell? ⟨gb354, 5, none⟩ = some (.string x355005_2) := (blk_cell BK354.out 5).trans rfl; have hfz74_0 := blk_frozen BK354.out 0; have hfz74_1 := blk_frozen BK354.out 1; have hfz74_2 := blk_frozen BK354.out 2; have hfz74_3 := blk_frozen BK354.out 3; have hfz74_4 := blk_frozen BK354.out 4; have hfz74_5 := blk_frozen BK354.out 5) | ((with_reducible refine gate_callee (f := 21) rfl ?_); refine goesL_ (some 80) rfl rfl Try.func21 (by kernel_rfl) rfl #[.agg #[.string t381, .string t382, .string t383, .string t384, .string t385, .string t386]] rfl (by (try simp only [List.map_toArray, List.map_cons, List.map_nil]); first | done | rfl | (simp only [List.length_drop, List.length_take]; rfl)) ?_; (with_reducible refine (entailref1_Text.calls kj31 t381 t382 t383 t384 t385 t386 t393 _ A65.out).mono ?_); rintro e w75 ⟨rfl, hb⟩; refine ⟨_, rfl, ?_⟩; have n0_ := Aside0.mk (blk_below (g := gb353) (o := .cells #[.string t381, .string t382, .string t383, .string t384, .string t385, .string t386] 29 (0, 0)) (by (with_reducible repeat (first | refine blk_drewN ?_ _ | refine blk_drew ?_ | refine blk_alloc ?_ _)); refine blk_far ?_ NB353_354.out _; (with_reducible repeat (first | refine blk_drewN ?_ _ | refine blk_drew ?_ | refine blk_alloc ?_ _)); refine blk_far ?_ NB353_354.out _; (with_reducible repeat (first | refine blk_drewN ?_ _ | refine blk_drew ?_ | refine blk_alloc ?_ _)); refine blk_far ?_ NB353_354.out _; (with_reducible repeat (first | refine blk_drewN ?_ _ | refine blk_drew ?_ | refine blk_alloc ?_ _)); refine blk_far ?_ NB353_354.out _; (with_reducible repeat (first | refine blk_drewN ?_ _ | refine blk_drew ?_ | refine blk_alloc ?_ _)); refine blk_far ?_ NB353_354.out _; (with_reducible repeat (first | refine blk_drewN ?_ _ | refine blk_drew ?_ | refine blk_alloc ?_ _)); refine blk_far ?_ NB353_354.out _; (with_reducible repeat (first | refine blk_drewN ?_ _ | refine blk_drew ?_ | refine blk_alloc ?_ _)); refine blk_put (cs := #[.string t381, .string t382, .string t383, .string t384, .string t385, .string x354005_2]) ?_ 5 _ rfl; (with_reducible repeat (first | refine blk_drewN ?_ _ | refine blk_drew ?_ | refine blk_alloc ?_ _)); refine blk_put (cs := #[.string t381, .string t382, .string t383, .string t384, .string x354004_2, .string x354005_2]) ?_ 4 _ rfl; (with_reducible repeat (first | refine blk_drewN ?_ _ | refine blk_drew ?_ | refine blk_alloc ?_ _)); refine blk_put (cs := #[.string t381, .string t382, .string t383, .string x354003_2, .string x354004_2, .string x354005_2]) ?_ 3 _ rfl; (with_reducible repeat (first | refine blk_drewN ?_ _ | refine blk_drew ?_ | refine blk_alloc ?_ _)); refine blk_put (cs := #[.string t381, .string t382, .string x354002_2, .string x354003_2, .string x354004_2, .string x354005_2]) ?_ 2 _ rfl; (with_reducible repeat (first | refine blk_drewN ?_ _ | refine blk_drew ?_ | refine blk_alloc ?_ _)); refine blk_put (cs := #[.string t381, .string x354001_2, .string x354002_2, .string x354003_2, .string x354004_2, .string x354005_2]) ?_ 1 _ rfl; (with_reducible repeat (first | refine blk_drewN ?_ _ | refine blk_drew ?_ | refine blk_alloc ?_ _)); refine blk_put (cs := #[.string x354000_2, .string x354001_2, .string x354002_2, .string x354003_2, .string x354004_2, .string x354005_2]) ?_ 0 _ rfl; (with_reducible repeat (first | refine blk_drewN ?_ _ | refine blk_drew ?_ | refine blk_alloc ?_ _)); exact BK353.out) hb); have n1_ := Aside0.mk (blk_below (g := gb354) (o := .cells #[.string t387, .string t388, .string t389, .string t390, .string t391, .string t392] 29 (0, 0)) (by (with_reducible repeat (first | refine blk_drewN ?_ _ | refine blk_drew ?_ | refine blk_alloc ?_ _)); refine blk_put (cs := #[.string t387, .string t388, .string t389, .string t390, .string t391, .string x355005_2]) ?_ 5 _ rfl; (with_reducible repeat (first | refine blk_drewN ?_ _ | refine blk_drew ?_ | refine blk_alloc ?_ _)); refine blk_put (cs := #[.string t387, .string t388, .string t389, .string t390, .string x355004_2, .string x355005_2]) ?_ 4 _ rfl; (with_reducible repeat (first | refine blk_drewN ?_ _ | refine blk_drew ?_ | refine blk_alloc ?_ _)); refine blk_put (cs := #[.string t387, .string t388, .string t389, .string x355003_2, .string x355004_2, .string x355005_2]) ?_ 3 _ rfl; (with_reducible repeat (first | refine blk_drewN ?_ _ | refine blk_drew ?_ | refine blk_alloc ?_ _)); refine blk_put (cs := #[.string t387, .string t388, .string x355002_2, .string x355003_2, .string x355004_2, .string x355005_2]) ?_ 2 _ rfl; (with_reducible repeat (first | refine blk_drewN ?_ _ | refine blk_drew ?_ | refine blk_alloc ?_ _)); refine blk_put (cs := #[.string t387, .string x355001_2, .string x355002_2, .string x355003_2, .string x355004_2, .string x355005_2]) ?_ 1 _ rfl; (with_reducible repeat (first | refine blk_drewN ?_ _ | refine blk_drew ?_ | refine blk_alloc ?_ _)); refine blk_put (cs := #[.string x355000_2, .string x355001_2, .string x355002_2, .string x355003_2, .string x355004_2, .string x355005_2]) ?_ 0 _ rfl; (with_reducible repeat (first | refine blk_drewN ?_ _ | refine blk_drew ?_ | refine blk_alloc ?_ _)); refine blk_far ?_ NB354_353.out _; (with_reducible repeat (first | refine blk_drewN ?_ _ | refine blk_drew ?_ | refine blk_alloc ?_ _)); refine blk_far ?_ NB354_353.out _; (with_reducible repeat (first | refine blk_drewN ?_ _ | refine blk_drew ?_ | refine blk_alloc ?_ _)); refine blk_far ?_ NB354_353.out _; (with_reducible repeat (first | refine blk_drewN ?_ _ | refine blk_drew ?_ | refine blk_alloc ?_ _)); refine blk_far ?_ NB354_353.out _; (with_reducible repeat (first | refine blk_drewN ?_ _ | refine blk_drew ?_ | refine blk_alloc ?_ _)); refine blk_far ?_ NB354_353.out _; (with_reducible repeat (first | refine blk_drewN ?_ _ | refine blk_drew ?_ | refine blk_alloc ?_ _)); refine blk_far ?_ NB354_353.out _; (with_reducible repeat (first | refine blk_drewN ?_ _ | refine blk_drew ?_ | refine blk_alloc ?_ _)); exact BK354.out) hb); have n2_ := Aside0.mk (blk_below (g := gb366) (o := .cells #[.string t359, .string t360, .string t361, .string t362, .string t363, .string t364] 29 (0, 0)) (by (with_reducible repeat (first | refine blk_drewN ?_ _ | refine blk_drew ?_ | refine blk_alloc ?_ _)); refine blk_far ?_ NB366_354.out _; (with_reducible repeat (first | refine blk_drewN ?_ _ | refine blk_drew ?_ | refine blk_alloc ?_ _)); refine blk_far ?_ NB366_354.out _; (with_reducible repeat (first | refine blk_drewN ?_ _ | refine blk_drew ?_ | refine blk_alloc ?_ _)); refine blk_far ?_ NB366_354.out _; (with_reducible repeat (first | refine blk_drewN ?_ _ | refine blk_drew ?_ | refine blk_alloc ?_ _)); refine blk_far ?_ NB366_354.out _; (with_reducible repeat (first | refine blk_drewN ?_ _ | refine blk_drew ?_ | refine blk_alloc ?_ _)); refine blk_far ?_ NB366_354.out _; (with_reducible repeat (first | refine blk_drewN ?_ _ | refine blk_drew ?_ | refine blk_alloc ?_ _)); refine blk_far ?_ NB366_354.out _; (with_reducible repeat (first | refine blk_drewN ?_ _ | refine blk_drew ?_ | refine blk_alloc ?_ _)); refine blk_far ?_ NB366_353.out _; (with_reducible repeat (first | refine blk_drewN ?_ _ | refine blk_drew ?_ | refine blk_alloc ?_ _)); refine blk_far ?_ NB366_353.out _; (with_reducible repeat (first | refine blk_drewN ?_ _ | refine blk_drew ?_ | refine blk_alloc ?_ _)); refine blk_far ?_ NB366_353.out _; (with_reducible repeat (first | refine blk_drewN ?_ _ | refine blk_drew ?_ | refine blk_alloc ?_ _)); refine blk_far ?_ NB366_353.out _; (with_reducible repeat (first | refine blk_drewN ?_ _ | refine blk_drew ?_ | refine blk_alloc ?_ _)); refine blk_far ?_ NB366_353.out _; (with_reducible repeat (first | refine blk_drewN ?_ _ | refine blk_drew ?_ | refine blk_alloc ?_ _)); refine blk_far ?_ NB366_353.out _; (with_reducible repeat (first | refine blk_drewN ?_ _ | refine blk_drew ?_ | refine blk_alloc ?_ _)); exact BK366.out) hb); have n3_ := Aside0.mk (blk_below (g := gb374) (o := .cells #[.string t367, .string t368, .string t369, .string t370, .string t371, .string t372] 29 (0, 0)) (by (with_reducible repeat (first | refine blk_drewN ?_ _ | refine blk_drew ?_ | refine blk_alloc ?_ _)); refine blk_far ?_ NB374_354.out _; (with_reducible repeat (first | refine blk_drewN ?_ _ | refine blk_drew ?_ | refine blk_alloc ?_ _)); refine blk_far ?_ NB374_354.out _; (with_reducible repeat (first | refine blk_drewN ?_ _ | refine blk_drew ?_ | refine blk_alloc ?_ _)); refine blk_far ?_ NB374_354.out _; (with_reducible repeat (first | refine blk_drewN ?_ _ | refine blk_drew ?_ | refine blk_alloc ?_ _)); refine blk_far ?_ NB374_354.out _; (with_reducible repeat (first | refine blk_drewN ?_ _ | refine blk_drew ?_ | refine blk_alloc ?_ _)); refine blk_far ?_ NB374_354.out _; (with_reducible repeat (first | refine blk_drewN ?_ _ | refine blk_drew ?_ | refine blk_alloc ?_ _)); refine blk_far ?_ NB374_354.out _; (with_reducible repeat (first | refine blk_drewN ?_ _ | refine blk_drew ?_ | refine blk_alloc ?_ _)); refine blk_far ?_ NB374_353.out _; (with_reducible repeat (first | refine blk_drewN ?_ _ | refine blk_drew ?_ | refine blk_alloc ?_ _)); refine blk_far ?_ NB374_353.out _; (with_reducible repeat (first | refine blk_drewN ?_ _ | refine blk_drew ?_ | refine blk_alloc ?_ _)); refine blk_far ?_ NB374_353.out _; (with_reducible repeat (first | refine blk_drewN ?_ _ | refine blk_drew ?_ | refine blk_alloc ?_ _)); refine blk_far ?_ NB374_353.out _; (with_reducible repeat (first | refine blk_drewN ?_ _ | refine blk_drew ?_ | refine blk_alloc ?_ _)); refine blk_far ?_ NB374_353.out _; (with_reducible repeat (first | refine blk_drewN ?_ _ | refine blk_drew ?_ | refine blk_alloc ?_ _)); refine blk_far ?_ NB374_353.out _; (with_reducible repeat (first | refine blk_drewN ?_ _ | refine blk_drew ?_ | refine blk_alloc ?_ _)); exact BK374.out) hb); have n4_ := Aside0.mk (below_step (by repeat (first | (with_reducible first | exact HB.out | apply below_alloc | apply pw_below_drewN | apply below_drew1 | refine below_set ?_ GE353.out | refine below_set ?_ GE354.out | refine below_set ?_ GE366.out | refine below_set ?_ GE374.out) | exact HB.out)) hb); clear BK353; clear BK354; clear BK366; clear BK374; clear HB; have BK353 := n0_; have BK354 := n1_; have BK366 := n2_; have BK374 := n3_; have HB := n4_; clear n0_ n1_ n2_ n3_ n4_; (try clear hb); (try clear hb2); (try clear hk); (try clear hi)))
          go_roundg kj31
          case measure => have := HJ5.out; have := HK2.out; have := HJ31.out; omega
          case rel => exact ⟨(t393), (wrap64 (x11_2 + 1)), (t381), (t382), (t383), (t384), (t385), (t386), (t387), (t388), (t389), (t390), (t391), (t392), (by first | rfl | (simp; done) | (simp [*]; done)), (by first | rfl | (simp; done) | (simp [*]; done)), H', ⟨by have := HJ5.out; have := HK2.out; have := HJ31.out; omega⟩, ⟨by (with_reducible repeat (first | refine blk_drewN ?_ _ | refine blk_drew ?_ | refine blk_alloc ?_ _)); exact BK353.out⟩, ⟨by (with_reducible repeat (first | refine blk_drewN ?_ _ | refine blk_drew ?_ | refine blk_alloc ?_ _)); exact BK354.out⟩, ⟨by repeat (first | (with_reducible first | exact HB.out | apply below_alloc | apply pw_below_drewN | apply below_drew1 | refine below_set ?_ GE353.out | refine below_set ?_ GE354.out | refine below_set ?_ GE366.out | refine below_set ?_ GE374.out) | exact HB.out)⟩⟩
      ·rw [if_neg c29] at H
       have c29b0 : decide (x11_2 < 2) = false := decide_eq_false c29
       clear c29
       replace H := Option.bind_eq_some_iff.mp H
       obtain ⟨t358, A760, H⟩ := H
       replace H : (some t358) = some r := H
       have A76 := Aside0.mk A760
       clear A760
       obtain rfl := Option.some.inj H
       go_wp2_with (first | ((with_reducible refine gate_callee (f := 14) rfl ?_); refine goesL_ (some 81) rfl rfl Try.func14 (by kernel_rfl) rfl #[] rfl (by (try simp only [List.map_toArray, List.map_cons, List.map_nil]); first | done | rfl | (simp only [List.length_drop, List.length_take]; rfl)) ?_; (with_reducible refine (entaillaw2_awake.calls k2  t358 _ A76.out).mono ?_); rintro e w77 ⟨rfl, hb⟩; refine ⟨_, rfl, ?_⟩; have n0_ := Aside0.mk (blk_below (g := gb353) (o := .cells #[.string x354000_2, .string x354001_2, .string x354002_2, .string x354003_2, .string x354004_2, .string x354005_2] 29 (0, 0)) (by (with_reducible repeat (first | refine blk_drewN ?_ _ | refine blk_drew ?_ | refine blk_alloc ?_ _)); exact BK353.out) hb); have n1_ := Aside0.mk (blk_below (g := gb354) (o := .cells #[.string x355000_2, .string x355001_2, .string x355002_2, .string x355003_2, .string x355004_2, .string x355005_2] 29 (0, 0)) (by (with_reducible repeat (first | refine blk_drewN ?_ _ | refine blk_drew ?_ | refine blk_alloc ?_ _)); exact BK354.out) hb); have n2_ := Aside0.mk (below_step (by repeat (first | (with_reducible first | exact HB.out | apply below_alloc | apply pw_below_drewN | apply below_drew1 | refine below_set ?_ GE353.out | refine below_set ?_ GE354.out) | exact HB.out)) hb); clear BK353; clear BK354; clear HB; have BK353 := n0_; have BK354 := n1_; have HB := n2_; clear n0_ n1_ n2_; (try clear hb); (try clear hb2); (try clear hk); (try clear hi)))
       go_ret
       exact ⟨by first | rfl | (simp [errW_none, errW_some] <;> rfl) | (simp [*, errW_none, errW_some] <;> rfl), by repeat (first | (with_reducible first | exact HB.out | apply below_alloc | apply pw_below_drewN | apply below_drew1 | refine below_set ?_ GE353.out | refine below_set ?_ GE354.out) | exact HB.out)⟩
end Go.Proofs.Ytjmlloiolppoiaa.P
end
section
namespace Go.Proofs.Ytjmlloiolppoiaa.PureTuplTells
open Go.RowKit Go.Proofs.Ytjmlloiolppoiaa.Num Go.Proofs.Ytjmlloiolppoiaa.P Go.Proofs.YtjmlloiolppoiaaW.PrintWords Go.Proofs.YtjmlloiolppoiaaW.PrintLast Go.Proofs.Ytjmlloiolppoiaa.Base Go.Proofs.Ytjmlloiolppoiaa.Atom Go.Proofs.Ytjmlloiolppoiaa.Tupl Go.Proofs.Ytjmlloiolppoiaa.TuplLess
theorem parse_evR (s : ByteArray) (hs : s.size ≤ 1000000000000) : Ev (fun k => tupl_Parse.f k s) (parseR (A s)) := parse_ev s hs
theorem step (n m i : Int) (hi : i < 2) (s : ByteArray) (hs : s.size ≤ 1000000000000) (a0 a1 a2 a3 a4 a5 b0 b1 b2 b3 b4 b5 : ByteArray) (h1 : a1.size ≤ 1000000000000) (h4 : a4.size ≤ 1000000000000) :
    ∃ K, ∀ k, K ≤ k → entaillaw2_TuplTells.l0 (k + 1) s n m i a0 a1 a2 a3 a4 a5 b0 b1 b2 b3 b4 b5 = entaillaw2_TuplTells.j2 k n m i false := by
  obtain ⟨K1, t1⟩ := parse_evR s hs
  obtain ⟨K2, t2⟩ := rparse_ev s hs
  obtain ⟨K3, t3⟩ := ok_ev a0 a1 a2 a3 a4 a5 h1 h4
  obtain ⟨K4, t4⟩ := rok_ev a0 a1 a2 a3 a4 a5 h1 h4
  obtain ⟨K5, t5⟩ := text_ev a0 a1 a2 a3 a4 a5 h1 h4
  obtain ⟨K6, t6⟩ := rtext_ev a0 a1 a2 a3 a4 a5 h1 h4
  obtain ⟨K7, t7⟩ := less_ev a0 a1 a2 a3 a4 a5 b0 b1 b2 b3 b4 b5
  obtain ⟨K8, t8⟩ := rless_ev a0 a1 a2 a3 a4 a5 b0 b1 b2 b3 b4 b5
  refine ⟨K1 + K2 + K3 + K4 + K5 + K6 + K7 + K8, fun k hk => ?_⟩
  have t1 : tupl_Parse.f k s = some (parseR (A s)) := t1 k (by omega)
  have t2 : entailref1_Parse.f k s = some (parseR (A s)) := t2 k (by omega)
  have t3 : tupl_Ok.f k a0 a1 a2 a3 a4 a5 = some _ := t3 k (by omega)
  have t4 : entailref1_Ok.f k a0 a1 a2 a3 a4 a5 = some _ := t4 k (by omega)
  have t5 : tupl_Text.f k a0 a1 a2 a3 a4 a5 = some _ := t5 k (by omega)
  have t6 : entailref1_Text.f k a0 a1 a2 a3 a4 a5 = some _ := t6 k (by omega)
  have t7 : tupl_Less.f k a0 a1 a2 a3 a4 a5 b0 b1 b2 b3 b4 b5 = some _ := t7 k (by omega)
  have t8 : entailref1_Less.f k a0 a1 a2 a3 a4 a5 b0 b1 b2 b3 b4 b5 = some _ := t8 k (by omega)
  simp only [entaillaw2_TuplTells.l0]
  rw [if_pos hi]
  simp only [t1, t2, t3, t4, t5, t6, t7, t8, Option.bind_some, bne_self_eq_false, Bool.false_eq_true, if_false, if_true, BEq.rfl, Bool.not_true, Bool.or_self]
theorem short_eq (a0 a1 a2 a3 a4 a5 : ByteArray) (z : a0.size ≤ 1000000000000000 ∧ a1.size ≤ 1000000000000000 ∧ a2.size ≤ 1000000000000000 ∧ a3.size ≤ 1000000000000000 ∧ a4.size ≤ 1000000000000000 ∧ a5.size ≤ 1000000000000000) :
    entaillaw2_Short.f a0 a1 a2 a3 a4 a5 = some (decide (((a0.size + a1.size + a2.size + a3.size + a4.size + a5.size : Nat) : Int) ≤ 900)) := by
  obtain ⟨z0, z1, z2, z3, z4, z5⟩ := z
  unfold entaillaw2_Short.f
  rw [wrap_id (i := (a0.size : Int) + (a1.size : Int)) (by omega) (by omega), wrap_id (i := (a0.size : Int) + (a1.size : Int) + (a2.size : Int)) (by omega) (by omega), wrap_id (i := (a0.size : Int) + (a1.size : Int) + (a2.size : Int) + (a3.size : Int)) (by omega) (by omega),
    wrap_id (i := (a0.size : Int) + (a1.size : Int) + (a2.size : Int) + (a3.size : Int) + (a4.size : Int)) (by omega) (by omega), wrap_id (i := (a0.size : Int) + (a1.size : Int) + (a2.size : Int) + (a3.size : Int) + (a4.size : Int) + (a5.size : Int)) (by omega) (by omega)]
  have e : ((a0.size + a1.size + a2.size + a3.size + a4.size + a5.size : Nat) : Int) = (a0.size : Int) + (a1.size : Int) + (a2.size : Int) + (a3.size : Int) + (a4.size : Int) + (a5.size : Int) := by omega
  rw [e]
theorem awake_j0 (s : ByteArray) (n m : Int) (a0 a1 a2 a3 a4 a5 b0 b1 b2 b3 b4 b5 : ByteArray) : ∃ K, ∀ k, K ≤ k → entaillaw2_TuplTells.j0 (k + 1) s n m true a0 a1 a2 a3 a4 a5 b0 b1 b2 b3 b4 b5 = some true := by
  obtain ⟨K, h⟩ := awake2_ev
  refine ⟨K, fun k hk => ?_⟩
  have q : entaillaw2_awake.f k = some true := h k hk
  simp only [entaillaw2_TuplTells.j0, if_true, q, Option.bind_some]
theorem text_size {a b c d e f : List UInt8} (ha : a.length ≤ 3) (hb : b.length ≤ 3) (hc : c.length ≤ 3) (hd : d.length ≤ 3) (he : e.length ≤ 3) (hf : f.length ≤ 3) : (toB (textR a b c d e f)).size ≤ 1000 := by
  rw [toB_size]
  unfold textR
  by_cases o : okL a b c d e f = true
  · rw [if_pos o]; unfold textL
    simp only [List.length_append, List.length_cons]
    by_cases n : f = []
    · rw [if_pos n, List.length_nil]; omega
    · rw [if_neg n, List.length_cons]; omega
  · rw [if_neg o, List.length_nil]; omega
theorem tells (n m : Int) (s : ByteArray) (a0 a1 a2 a3 a4 a5 b0 b1 b2 b3 b4 b5 : ByteArray)
    (za : a0.size ≤ 1000000000000000 ∧ a1.size ≤ 1000000000000000 ∧ a2.size ≤ 1000000000000000 ∧ a3.size ≤ 1000000000000000 ∧ a4.size ≤ 1000000000000000 ∧ a5.size ≤ 1000000000000000)
    (zb : b0.size ≤ 1000000000000000 ∧ b1.size ≤ 1000000000000000 ∧ b2.size ≤ 1000000000000000 ∧ b3.size ≤ 1000000000000000 ∧ b4.size ≤ 1000000000000000 ∧ b5.size ≤ 1000000000000000) :
    ∃ k, entaillaw2_TuplTells.f k a0 a1 a2 a3 a4 a5 b0 b1 b2 b3 b4 b5 s n m = some true := by
  have aw := awake_j0 s n m a0 a1 a2 a3 a4 a5 b0 b1 b2 b3 b4 b5
  obtain ⟨Kw, hw⟩ := aw
  have ha := short_eq a0 a1 a2 a3 a4 a5 za
  have hb := short_eq b0 b1 b2 b3 b4 b5 zb
  by_cases ga : ((a0.size + a1.size + a2.size + a3.size + a4.size + a5.size : Nat) : Int) ≤ 900
  · rw [decide_eq_true ga] at ha
    by_cases gb : ((b0.size + b1.size + b2.size + b3.size + b4.size + b5.size : Nat) : Int) ≤ 900
    · rw [decide_eq_true gb] at hb
      by_cases gs : (s.size : Int) > 900
      · refine ⟨Kw + 1, ?_⟩
        unfold entaillaw2_TuplTells.f
        simp only [ha, hb, Option.bind_some, if_true, decide_eq_true gs]
        exact hw Kw (Nat.le_refl _)
      · obtain ⟨⟨x0, x1, x2, x3, x4, x5⟩, hx, X⟩ := tame_eq n
        obtain ⟨⟨y0, y1, y2, y3, y4, y5⟩, hy, _⟩ := tame_eq m
        obtain ⟨_, r1, r2, r3, r4, r5, r6⟩ := X
        simp only at r1 r2 r3 r4 r5 r6
        obtain ⟨K1, s1⟩ := step n m 0 (by decide) s (by omega) a0 a1 a2 a3 a4 a5 b0 b1 b2 b3 b4 b5 (by omega) (by omega)
        obtain ⟨K2, s2⟩ := rtext_ev x0 x1 x2 x3 x4 x5 (by omega) (by omega)
        have zt := text_size (a := A x0) (b := A x1) (c := A x2) (d := A x3) (e := A x4) (f := A x5) (by rw [A_len]; omega) (by rw [A_len]; omega) (by rw [A_len]; omega) (by rw [A_len]; omega) (by rw [A_len]; omega) (by rw [A_len]; omega)
        generalize toB (textR (A x0) (A x1) (A x2) (A x3) (A x4) (A x5)) = T at s2 zt
        obtain ⟨K3, s3⟩ := step n m 1 (by decide) T (by omega) x0 x1 x2 x3 x4 x5 y0 y1 y2 y3 y4 y5 (by omega) (by omega)
        obtain ⟨K4, s4⟩ := awake2_ev
        have jn : ∀ k, K2 ≤ k → ∀ i, entaillaw2_TuplTells.j2 (k + 1) n m i false = entaillaw2_TuplTells.l0 k T n m (wrap64 (i + 1)) x0 x1 x2 x3 x4 x5 y0 y1 y2 y3 y4 y5 := by
          intro k hk i
          have q : entailref1_Text.f k x0 x1 x2 x3 x4 x5 = some T := s2 k hk
          simp only [entaillaw2_TuplTells.j2, Bool.false_eq_true, if_false, hx, hy, q, Option.bind_some]
        have w1 : wrap64 (0 + 1) = 1 := wrap_id (by decide) (by decide)
        have w2 : wrap64 (1 + 1) = 2 := wrap_id (by decide) (by decide)
        refine ⟨K1 + K2 + K3 + K4 + 6, ?_⟩
        unfold entaillaw2_TuplTells.f
        simp only [ha, hb, Option.bind_some, if_true, decide_eq_false gs]
        rw [show K1 + K2 + K3 + K4 + 6 = (K1 + K2 + K3 + K4 + 5) + 1 by omega]
        simp only [entaillaw2_TuplTells.j0, Bool.false_eq_true, if_false]
        rw [show K1 + K2 + K3 + K4 + 5 = (K1 + K2 + K3 + K4 + 4) + 1 by omega, s1 _ (by omega), show K1 + K2 + K3 + K4 + 4 = (K1 + K2 + K3 + K4 + 3) + 1 by omega, jn _ (by omega), w1]
        rw [show K1 + K2 + K3 + K4 + 3 = (K1 + K2 + K3 + K4 + 2) + 1 by omega, s3 _ (by omega), show K1 + K2 + K3 + K4 + 2 = (K1 + K2 + K3 + K4 + 1) + 1 by omega, jn _ (by omega), w2]
        have q4 : entaillaw2_awake.f (K1 + K2 + K3 + K4) = some true := s4 _ (by omega)
        simp only [entaillaw2_TuplTells.l0]
        rw [if_neg (by decide)]
        simp only [q4, Option.bind_some]
    · rw [decide_eq_false gb] at hb
      refine ⟨Kw + 1, ?_⟩
      unfold entaillaw2_TuplTells.f
      simp only [ha, hb, Option.bind_some, if_true, Bool.false_eq_true, if_false]
      exact hw Kw (Nat.le_refl _)
  · rw [decide_eq_false ga] at ha
    refine ⟨Kw + 1, ?_⟩
    unfold entaillaw2_TuplTells.f
    simp only [ha, Option.bind_some, Bool.false_eq_true, if_false]
    exact hw Kw (Nat.le_refl _)
end Go.Proofs.Ytjmlloiolppoiaa.PureTuplTells
end
