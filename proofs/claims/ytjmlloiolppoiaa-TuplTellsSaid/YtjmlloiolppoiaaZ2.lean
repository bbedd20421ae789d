/- Functions of the given program as plain Lean functions, their contracts, and the plain laws: what the row needs of them. -/
import Derived.Test.YtjmlloiolppoiaaProg
import Derived.Test.YtjmlloiolppoiaaZ1
import Derived.Below
import Derived.Deep.Draws
import Derived.Deep.AppendLies
import Derived.Maps.AppendAt
import Derived.OwnWalk
import Derived.Laws.BytesArg
import Derived.Laws.MakeOwn
import Derived.Laws.OwnMore
import Derived.Deep.OwnRows
import Derived.Tactics
import Derived.Lib.ConvBytes
import Derived.Laws.Slices
import Derived.WalkKit
import Derived.KernelRfl
import Derived.RowKit3
import Derived.Deep.LoopGhost
import Derived.Deep.QuietTactic
import Derived.BigQuiet
import Derived.WideLaws
import Derived.Deep.DeepCutAuto
import Derived.Deep.CutBlock
import Derived.Deep.RegionHeld3
import Derived.Laws.Rows
import Derived.Lib.AppendStr
import Derived.ArgAppend
import Derived.Laws.IdiomCopy
import Derived.OrdersHeld
import Derived.Laws.BitsLemmas
import Derived.RowKit
import Derived.Lib.Bytealg
import Derived.Laws.Externs
import Derived.Laws.StructEq
import Derived.Shelf.Strings.Builder1
import Derived.Shelf.Strings.Builder2
import Derived.Shelf.Strings.OnBuilder
import Derived.Shelf.Small.Strs
import Derived.Shelf.Strings.Search1
import Derived.Shelf.Strings.Search2
import Derived.Shelf.Strings.Cut
import Derived.Shelf.LaysM
import Derived.Shelf.Strings.Shaped
import Derived.Lib.IndexBytes
section
namespace Go.Proofs.Ytjmlloiolppoiaa.P
open Go.RowKit Go.Proofs.YtjmlloiolppoiaaW.PrintWords Go.Proofs.YtjmlloiolppoiaaW.PrintLast Go.Proofs.YtjmlloiolppoiaaW.PrintMore
set_option linter.unusedVariables false
set_option linter.unusedSimpArgs false
def tupl_Compare.f (k : Nat) (a0_0 : ByteArray) (a0_1 : ByteArray) (a0_2 : ByteArray) (a0_3 : ByteArray) (a0_4 : ByteArray) (a0_5 : ByteArray) (a1_0 : ByteArray) (a1_1 : ByteArray) (a1_2 : ByteArray) (a1_3 : ByteArray) (a1_4 : ByteArray) (a1_5 : ByteArray) : Option (Int) := (strings_Compare.f a0_0 a1_0).bind fun t235 => ((strings_Compare.f a0_1 a1_1).bind fun t236 => ((strings_Compare.f a0_2 a1_2).bind fun t237 => ((strings_Compare.f a0_3 a1_3).bind fun t238 => ((strings_Compare.f a0_4 a1_4).bind fun t239 => ((strings_Compare.f a0_5 a1_5).bind fun t240 => ((cmp_Or_int.f k (([t235, t236, t237, t238, t239, t240] : List Int))).bind fun t244 => (some t244)))))))
theorem tupl_Compare.mono : ∀ a0 a1 a2 a3 a4 a5 a6 a7 a8 a9 a10 a11 k, LeO (tupl_Compare.f k a0 a1 a2 a3 a4 a5 a6 a7 a8 a9 a10 a11) (tupl_Compare.f (k + 1) a0 a1 a2 a3 a4 a5 a6 a7 a8 a9 a10 a11) := by
 intro a0 a1 a2 a3 a4 a5 a6 a7 a8 a9 a10 a11 k
 unfold tupl_Compare.f
 repeat' first
   | (with_reducible exact cmp_Or_int.mono _ _)
   | (with_reducible exact LeO.refl _)
   | (with_reducible exact LeO.none _)
   | (with_reducible refine LeO.ite ?_ ?_)
   | (with_reducible refine LeO.bind ?_ (fun _ => ?_))
   | exact cmp_Or_int.mono _ _
   | exact LeO.none _
   | refine LeO.ite ?_ ?_
   | refine LeO.bind ?_ (fun _ => ?_)
def tupl_Compare.T1 : Bool × List (List Nat × List Nat) := (true, [([], []), ([0], [0]), ([1], [1]), ([], []), ([3], [3]), ([4], [4]), ([2, 5], [2, 5]), ([], []), ([7], [7]), ([8], [8]), ([], []), ([10], [10]), ([11], [11]), ([9, 12, 6], [9, 12]), ([], []), ([14], [14]), ([], []), ([16], [16]), ([15, 17, 13], [15, 17]), ([], []), ([19], [19]), ([20], [20]), ([], []), ([22], [22]), ([23], [23]), ([21, 24, 18], [21, 24]), ([], []), ([26], [26]), ([27], [27]), ([], []), ([29], [29]), ([30], [30]), ([28, 31, 25], [28, 31]), ([], []), ([33], [33]), ([34], [34]), ([], []), ([36], [36]), ([37], [37]), ([35, 38, 32], [35, 38]), ([6, 13, 18, 25, 32, 39], [6, 13, 18, 25, 32, 39]), ([40, 39], [40]), ([41, 41, 0, 1, 2, 3, 4, 5, 6, 7, 8, 9, 10, 11, 12, 13, 14, 15, 16, 17, 18, 19, 20, 21, 22, 23, 24, 25, 26, 27, 28, 29, 30, 31, 32, 33, 34, 35, 36, 37, 38, 39, 40, 41], [41])])
def tupl_Compare.B1 : List Nat := [0, 1, 3, 0, 8, 24, 63, 0, 128, 384, 0, 1024, 3072, 8191, 0, 16384, 0, 65536, 262143, 0, 524288, 1572864, 0, 4194304, 12582912, 33554431, 0, 67108864, 201326592, 0, 536870912, 1610612736, 4294967295, 0, 8589934592, 25769803776, 0, 68719476736, 206158430208, 549755813887, 1099511627775, 2199023255551, 4398046511103]
theorem tupl_Compare.tab1 : rtab .any (opsOf Try.f36 1) = tupl_Compare.T1 := by kernel_rfl
theorem tupl_Compare.bits1 : waitsOk tupl_Compare.T1.2 tupl_Compare.B1 = true := by kernel_rfl
set_option maxHeartbeats 8000000 in
set_option maxRecDepth 100000 in
theorem tupl_Compare.calls (k : Nat) (a0_0 : ByteArray) (a0_1 : ByteArray) (a0_2 : ByteArray) (a0_3 : ByteArray) (a0_4 : ByteArray) (a0_5 : ByteArray) (a1_0 : ByteArray) (a1_1 : ByteArray) (a1_2 : ByteArray) (a1_3 : ByteArray) (a1_4 : ByteArray) (a1_5 : ByteArray) (r : Int) (w : World) (h : tupl_Compare.f k a0_0 a0_1 a0_2 a0_3 a0_4 a0_5 a1_0 a1_1 a1_2 a1_3 a1_4 a1_5 = some r) :
  Calls Try.prog 36 #[.agg #[.string a0_0, .string a0_1, .string a0_2, .string a0_3, .string a0_4, .string a0_5], .agg #[.string a1_0, .string a1_1, .string a1_2, .string a1_3, .string a1_4, .string a1_5]] w fun e w' => e = .returned (.int .i64 r) ∧ Below w.heap.size w w' := by
 have hu29 := Try.underlying29
 have HB := Aside0.mk (Below.refl w.heap.size w)
 have H : ((strings_Compare.f a0_0 a1_0).bind fun t235 => ((strings_Compare.f a0_1 a1_1).bind fun t236 => ((strings_Compare.f a0_2 a1_2).bind fun t237 => ((strings_Compare.f a0_3 a1_3).bind fun t238 => ((strings_Compare.f a0_4 a1_4).bind fun t239 => ((strings_Compare.f a0_5 a1_5).bind fun t240 => ((cmp_Or_int.f k (([t235, t236, t237, t238, t239, t240] : List Int))).bind fun t244 => (some t244)))))))) = some r := h
 clear h
 replace H := Option.bind_eq_some_iff.mp H
 obtain ⟨t235, A30, H⟩ := H
 replace H : ((strings_Compare.f a0_1 a1_1).bind fun t236 => ((strings_Compare.f a0_2 a1_2).bind fun t237 => ((strings_Compare.f a0_3 a1_3).bind fun t238 => ((strings_Compare.f a0_4 a1_4).bind fun t239 => ((strings_Compare.f a0_5 a1_5).bind fun t240 => ((cmp_Or_int.f k (([t235, t236, t237, t238, t239, t240] : List Int))).bind fun t244 => (some t244))))))) = some r := H
 have A3 := Aside0.mk A30
 clear A30
 replace H := Option.bind_eq_some_iff.mp H
 obtain ⟨t236, A40, H⟩ := H
 replace H : ((strings_Compare.f a0_2 a1_2).bind fun t237 => ((strings_Compare.f a0_3 a1_3).bind fun t238 => ((strings_Compare.f a0_4 a1_4).bind fun t239 => ((strings_Compare.f a0_5 a1_5).bind fun t240 => ((cmp_Or_int.f k (([t235, t236, t237, t238, t239, t240] : List Int))).bind fun t244 => (some t244)))))) = some r := H
 have A4 := Aside0.mk A40
 clear A40
 replace H := Option.bind_eq_some_iff.mp H
 obtain ⟨t237, A50, H⟩ := H
 replace H : ((strings_Compare.f a0_3 a1_3).bind fun t238 => ((strings_Compare.f a0_4 a1_4).bind fun t239 => ((strings_Compare.f a0_5 a1_5).bind fun t240 => ((cmp_Or_int.f k (([t235, t236, t237, t238, t239, t240] : List Int))).bind fun t244 => (some t244))))) = some r := H
 have A5 := Aside0.mk A50
 clear A50
 replace H := Option.bind_eq_some_iff.mp H
 obtain ⟨t238, A60, H⟩ := H
 replace H : ((strings_Compare.f a0_4 a1_4).bind fun t239 => ((strings_Compare.f a0_5 a1_5).bind fun t240 => ((cmp_Or_int.f k (([t235, t236, t237, t238, t239, t240] : List Int))).bind fun t244 => (some t244)))) = some r := H
 have A6 := Aside0.mk A60
 clear A60
 replace H := Option.bind_eq_some_iff.mp H
 obtain ⟨t239, A70, H⟩ := H
 replace H : ((strings_Compare.f a0_5 a1_5).bind fun t240 => ((cmp_Or_int.f k (([t235, t236, t237, t238, t239, t240] : List Int))).bind fun t244 => (some t244))) = some r := H
 have A7 := Aside0.mk A70
 clear A70
 replace H := Option.bind_eq_some_iff.mp H
 obtain ⟨t240, A80, H⟩ := H
 replace H : ((cmp_Or_int.f k (([t235, t236, t237, t238, t239, t240] : List Int))).bind fun t244 => (some t244)) = some r := H
 have A8 := Aside0.mk A80
 clear A80
 obtain ⟨y241, hy241⟩ : ∃ y_ : List Int, y_ = (([t235, t236, t237, t238, t239, t240] : List Int)) := ⟨_, rfl⟩
 replace H : ((cmp_Or_int.f k y241).bind fun t244 => (some t244)) = some r := by first | (rw [hy241]; with_reducible exact H) | (have H2_ := (Option.bind_some _ _).symm.trans H; rw [hy241]; with_reducible exact H2_) | (have H2_ := (Option.bind_some _ _).symm.trans H; with_reducible exact H2_) | with_reducible exact H | (rw [hy241]; exact H) | exact H
 have Ny241 := Aside0.mk hy241
 clear hy241
 replace H := Option.bind_eq_some_iff.mp H
 obtain ⟨t244, A90, H⟩ := H
 replace H : (some t244) = some r := H
 have A9 := Aside0.mk A90
 clear A90
 obtain rfl := Option.some.inj H
 go_enter Try.func36, Try.ntmps36
 try go_wp2_with (first | ((with_reducible refine gate_dst (N := 2) rfl ?_); refine box_event ?hg (N := 2) ?hd (cs := #[.string a0_0, .string a0_1, .string a0_2, .string a0_3, .string a0_4, .string a0_5]) (t := 29) ?hr ?_; (case hd => rfl); (case hg => rfl); (case hr => first | (go_simp; done) | (go_simp; rfl)); intro gb233 hg w10 hbox hb; have n0_ := Aside0.mk (below_step (by repeat (first | (with_reducible first | exact HB.out | apply below_alloc | apply pw_below_drewN | apply below_drew1) | exact HB.out)) hb); have n1_ := Aside0.mk (hbox); have n2_ := Aside0.mk ((by rw [hg]; exact (below_size (by repeat (first | (with_reducible first | exact HB.out | apply below_alloc | apply pw_below_drewN | apply below_drew1) | exact HB.out))) : w.heap.size ≤ gb233)); have n3_ := Aside0.mk ((by rw [hg]; exact (below_size (by repeat (first | (with_reducible first | exact HB.out | apply below_alloc | apply pw_below_drewN | apply below_drew1) | exact HB.out))) : w.heap.size ≤ gb233)); clear HB; have HB := n0_; have BK233 := n1_; have GW233 := n2_; have GE233 := n3_; clear n0_ n1_ n2_ n3_; clear hb hbox hg) | ((with_reducible refine gate_dst (N := 3) rfl ?_); refine box_event ?hg (N := 3) ?hd (cs := #[.string a1_0, .string a1_1, .string a1_2, .string a1_3, .string a1_4, .string a1_5]) (t := 29) ?hr ?_; (case hd => rfl); (case hg => rfl); (case hr => first | (go_simp; done) | (go_simp; rfl)); intro gb234 hg w11 hbox hb; have n0_ := Aside0.mk (blk_below (g := gb233) (o := .cells #[.string a0_0, .string a0_1, .string a0_2, .string a0_3, .string a0_4, .string a0_5] 29 (0, 0)) (by (with_reducible repeat (first | refine blk_drewN ?_ _ | refine blk_drew ?_ | refine blk_alloc ?_ _)); exact BK233.out) hb); have n1_ := Aside0.mk (below_step (by repeat (first | (with_reducible first | exact HB.out | apply below_alloc | apply pw_below_drewN | apply below_drew1 | refine below_set ?_ GE233.out) | exact HB.out)) hb); have n2_ := Aside0.mk (hbox); have n3_ := Aside0.mk ((by rw [hg]; exact (below_size (by repeat (first | (with_reducible first | exact HB.out | apply below_alloc | apply pw_below_drewN | apply below_drew1 | refine below_set ?_ GE233.out) | exact HB.out))) : w.heap.size ≤ gb234)); have n4_ := Aside0.mk ((by rw [hg]; exact (below_size (by repeat (first | (with_reducible first | exact HB.out | apply below_alloc | apply pw_below_drewN | apply below_drew1 | refine below_set ?_ GE233.out) | exact HB.out))) : w.heap.size ≤ gb234)); have n5_ := Aside0.mk ((by rw [hg]; exact Nat.ne_of_lt (blk_lt (g := gb233) (o := .cells #[.string a0_0, .string a0_1, .string a0_2, .string a0_3, .string a0_4, .string a0_5] 29 (0, 0)) (by (with_reducible repeat (first | refine blk_drewN ?_ _ | refine blk_drew ?_ | refine blk_alloc ?_ _)); exact BK233.out)) : gb233 ≠ gb234)); have n6_ := Aside0.mk ((by rw [hg]; exact Nat.ne_of_gt (blk_lt (g := gb233) (o := .cells #[.string a0_0, .string a0_1, .string a0_2, .string a0_3, .string a0_4, .string a0_5] 29 (0, 0)) (by (with_reducible repeat (first | refine blk_drewN ?_ _ | refine blk_drew ?_ | refine blk_alloc ?_ _)); exact BK233.out)) : gb234 ≠ gb233)); clear BK233; clear HB; have BK233 := n0_; have HB := n1_; have BK234 := n2_; have GW234 := n3_; have GE234 := n4_; have NB233_234 := n5_; have NB234_233 := n6_; clear n0_ n1_ n2_ n3_ n4_ n5_ n6_; clear hb hbox hg))
 have n0_ := Aside0.mk (blk_drew BK233.out)
 have n1_ := Aside0.mk (blk_drew BK234.out)
 have n2_ := Aside0.mk (below_drew1 HB.out)
 clear BK233
 clear BK234
 clear HB
 have BK233 := n0_
 have BK234 := n1_
 have HB := n2_
 clear n0_ n1_ n2_
 refine start_ (n := 43) (S := fun w' => w'.cell? ⟨gb233, 0, none⟩ = some (.string a0_0) ∧ w'.cell? ⟨gb233, 1, none⟩ = some (.string a0_1) ∧ w'.cell? ⟨gb233, 2, none⟩ = some (.string a0_2) ∧ w'.cell? ⟨gb233, 3, none⟩ = some (.string a0_3) ∧ w'.cell? ⟨gb233, 4, none⟩ = some (.string a0_4) ∧ w'.cell? ⟨gb233, 5, none⟩ = some (.string a0_5) ∧ w'.cell? ⟨gb234, 0, none⟩ = some (.string a1_0) ∧ w'.cell? ⟨gb234, 1, none⟩ = some (.string a1_1) ∧ w'.cell? ⟨gb234, 2, none⟩ = some (.string a1_2) ∧ w'.cell? ⟨gb234, 3, none⟩ = some (.string a1_3) ∧ w'.cell? ⟨gb234, 4, none⟩ = some (.string a1_4) ∧ w'.cell? ⟨gb234, 5, none⟩ = some (.string a1_5)) (ds := []) #[false, false, false, false, false, false, false, false, false, false, false, false, false, false, false, false, false, false, false, false, false, false, false, false, false, false, false, false, false, false, false, false, false, false, false, false, false, false, false, false, false, false, false] (by kernel_rfl) rfl rfl ⟨(blk_cell BK233.out 0).trans rfl, (blk_cell BK233.out 1).trans rfl, (blk_cell BK233.out 2).trans rfl, (blk_cell BK233.out 3).trans rfl, (blk_cell BK233.out 4).trans rfl, (blk_cell BK233.out 5).trans rfl, (blk_cell BK234.out 0).trans rfl, (blk_cell BK234.out 1).trans rfl, (blk_cell BK234.out 2).trans rfl, (blk_cell BK234.out 3).trans rfl, (blk_cell BK234.out 4).trans rfl, (blk_cell BK234.out 5).trans rfl⟩ (fun hHeld => ?_); refine with_tabW tupl_Compare.tab1 tupl_Compare.bits1 (fun HT_ HW_ => ?_)
 generalize w11.drew = w12 at BK233 BK234 HB hHeld ⊢
 refine pure_ (i := 0) (N := some 5) (v := ?_) (a' := ?_) #[true, false, false, false, false, false, false, false, false, false, false, false, false, false, false, false, false, false, false, false, false, false, false, false, false, false, false, false, false, false, false, false, false, false, false, false, false, false, false, false, false, false, false] rfl rfl (any_of HT_.out (by kernel_rfl)) (fun _ _ _ h => h) (Or.inl ⟨by rfl, ?_⟩) ?_ ?_
 rotate_left
 ·intro w'
  go_simp
  with_reducible rfl
 rotate_left
 ·simp only [Act.put, List.setIfInBounds_toArray, List.set_cons_zero, List.set_cons_succ, i64_w, i32_w]
  rfl
 refine pure_ (i := 1) (N := some 6) (v := ?_) (a' := ?_) #[true, true, false, false, false, false, false, false, false, false, false, false, false, false, false, false, false, false, false, false, false, false, false, false, false, false, false, false, false, false, false, false, false, false, false, false, false, false, false, false, false, false, false] rfl rfl (any_of HT_.out (by kernel_rfl)) (fun _ _ _ h => h) (Or.inl ⟨by rfl, ?_⟩) ?_ ?_
 rotate_left
 ·intro w'
  go_simp
  with_reducible rfl
 rotate_left
 ·simp only [Act.put, List.setIfInBounds_toArray, List.set_cons_zero, List.set_cons_succ, i64_w, i32_w]
  rfl
 refine pure_ (i := 3) (N := some 8) (v := ?_) (a' := ?_) #[true, true, false, true, false, false, false, false, false, false, false, false, false, false, false, false, false, false, false, false, false, false, false, false, false, false, false, false, false, false, false, false, false, false, false, false, false, false, false, false, false, false, false] rfl rfl (any_of HT_.out (by kernel_rfl)) (fun _ _ _ h => h) (Or.inl ⟨by rfl, ?_⟩) ?_ ?_
 rotate_left
 ·intro w'
  go_simp
  with_reducible rfl
 rotate_left
 ·simp only [Act.put, List.setIfInBounds_toArray, List.set_cons_zero, List.set_cons_succ, i64_w, i32_w]
  rfl
 refine pure_ (i := 4) (N := some 9) (v := ?_) (a' := ?_) #[true, true, false, true, true, false, false, false, false, false, false, false, false, false, false, false, false, false, false, false, false, false, false, false, false, false, false, false, false, false, false, false, false, false, false, false, false, false, false, false, false, false, false] rfl rfl (any_of HT_.out (by kernel_rfl)) (fun _ _ _ h => h) (Or.inl ⟨by rfl, ?_⟩) ?_ ?_
 rotate_left
 ·intro w'
  go_simp
  with_reducible rfl
 rotate_left
 ·simp only [Act.put, List.setIfInBounds_toArray, List.set_cons_zero, List.set_cons_succ, i64_w, i32_w]
  rfl
 refine pure_ (i := 7) (N := some 12) (v := ?_) (a' := ?_) #[true, true, false, true, true, false, false, true, false, false, false, false, false, false, false, false, false, false, false, false, false, false, false, false, false, false, false, false, false, false, false, false, false, false, false, false, false, false, false, false, false, false, false] rfl rfl (any_of HT_.out (by kernel_rfl)) (fun _ _ _ h => h) (Or.inl ⟨by rfl, ?_⟩) ?_ ?_
 rotate_left
 ·intro w'
  go_simp
  with_reducible rfl
 rotate_left
 ·simp only [Act.put, List.setIfInBounds_toArray, List.set_cons_zero, List.set_cons_succ, i64_w, i32_w]
  rfl
 refine pure_ (i := 8) (N := some 13) (v := ?_) (a' := ?_) #[true, true, false, true, true, false, false, true, true, false, false, false, false, false, false, false, false, false, false, false, false, false, false, false, false, false, false, false, false, false, false, false, false, false, false, false, false, false, false, false, false, false, false] rfl rfl (any_of HT_.out (by kernel_rfl)) (fun _ _ _ h => h) (Or.inl ⟨by rfl, ?_⟩) ?_ ?_
 rotate_left
 ·intro w'
  go_simp
  with_reducible rfl
 rotate_left
 ·simp only [Act.put, List.setIfInBounds_toArray, List.set_cons_zero, List.set_cons_succ, i64_w, i32_w]
  rfl
 refine pure_ (i := 10) (N := some 15) (v := ?_) (a' := ?_) #[true, true, false, true, true, false, false, true, true, false, true, false, false, false, false, false, false, false, false, false, false, false, false, false, false, false, false, false, false, false, false, false, false, false, false, false, false, false, false, false, false, false, false] rfl rfl (any_of HT_.out (by kernel_rfl)) (fun _ _ _ h => h) (Or.inl ⟨by rfl, ?_⟩) ?_ ?_
 rotate_left
 ·intro w'
  go_simp
  with_reducible rfl
 rotate_left
 ·simp only [Act.put, List.setIfInBounds_toArray, List.set_cons_zero, List.set_cons_succ, i64_w, i32_w]
  rfl
 refine pure_ (i := 11) (N := some 16) (v := ?_) (a' := ?_) #[true, true, false, true, true, false, false, true, true, false, true, true, false, false, false, false, false, false, false, false, false, false, false, false, false, false, false, false, false, false, false, false, false, false, false, false, false, false, false, false, false, false, false] rfl rfl (any_of HT_.out (by kernel_rfl)) (fun _ _ _ h => h) (Or.inl ⟨by rfl, ?_⟩) ?_ ?_
 rotate_left
 ·intro w'
  go_simp
  with_reducible rfl
 rotate_left
 ·simp only [Act.put, List.setIfInBounds_toArray, List.set_cons_zero, List.set_cons_succ, i64_w, i32_w]
  rfl
 refine pure_ (i := 14) (N := some 19) (v := ?_) (a' := ?_) #[true, true, false, true, true, false, false, true, true, false, true, true, false, false, true, false, false, false, false, false, false, false, false, false, false, false, false, false, false, false, false, false, false, false, false, false, false, false, false, false, false, false, false] rfl rfl (any_of HT_.out (by kernel_rfl)) (fun _ _ _ h => h) (Or.inl ⟨by rfl, ?_⟩) ?_ ?_
 rotate_left
 ·intro w'
  go_simp
  with_reducible rfl
 rotate_left
 ·simp only [Act.put, List.setIfInBounds_toArray, List.set_cons_zero, List.set_cons_succ, i64_w, i32_w]
  rfl
 refine pure_ (i := 16) (N := some 21) (v := ?_) (a' := ?_) #[true, true, false, true, true, false, false, true, true, false, true, true, false, false, true, false, true, false, false, false, false, false, false, false, false, false, false, false, false, false, false, false, false, false, false, false, false, false, false, false, false, false, false] rfl rfl (any_of HT_.out (by kernel_rfl)) (fun _ _ _ h => h) (Or.inl ⟨by rfl, ?_⟩) ?_ ?_
 rotate_left
 ·intro w'
  go_simp
  with_reducible rfl
 rotate_left
 ·simp only [Act.put, List.setIfInBounds_toArray, List.set_cons_zero, List.set_cons_succ, i64_w, i32_w]
  rfl
 refine pure_ (i := 19) (N := some 24) (v := ?_) (a' := ?_) #[true, true, false, true, true, false, false, true, true, false, true, true, false, false, true, false, true, false, false, true, false, false, false, false, false, false, false, false, false, false, false, false, false, false, false, false, false, false, false, false, false, false, false] rfl rfl (any_of HT_.out (by kernel_rfl)) (fun _ _ _ h => h) (Or.inl ⟨by rfl, ?_⟩) ?_ ?_
 rotate_left
 ·intro w'
  go_simp
  with_reducible rfl
 rotate_left
 ·simp only [Act.put, List.setIfInBounds_toArray, List.set_cons_zero, List.set_cons_succ, i64_w, i32_w]
  rfl
 refine pure_ (i := 20) (N := some 25) (v := ?_) (a' := ?_) #[true, true, false, true, true, false, false, true, true, false, true, true, false, false, true, false, true, false, false, true, true, false, false, false, false, false, false, false, false, false, false, false, false, false, false, false, false, false, false, false, false, false, false] rfl rfl (any_of HT_.out (by kernel_rfl)) (fun _ _ _ h => h) (Or.inl ⟨by rfl, ?_⟩) ?_ ?_
 rotate_left
 ·intro w'
  go_simp
  with_reducible rfl
 rotate_left
 ·simp only [Act.put, List.setIfInBounds_toArray, List.set_cons_zero, List.set_cons_succ, i64_w, i32_w]
  rfl
 refine pure_ (i := 22) (N := some 27) (v := ?_) (a' := ?_) #[true, true, false, true, true, false, false, true, true, false, true, true, false, false, true, false, true, false, false, true, true, false, true, false, false, false, false, false, false, false, false, false, false, false, false, false, false, false, false, false, false, false, false] rfl rfl (any_of HT_.out (by kernel_rfl)) (fun _ _ _ h => h) (Or.inl ⟨by rfl, ?_⟩) ?_ ?_
 rotate_left
 ·intro w'
  go_simp
  with_reducible rfl
 rotate_left
 ·simp only [Act.put, List.setIfInBounds_toArray, List.set_cons_zero, List.set_cons_succ, i64_w, i32_w]
  rfl
 refine pure_ (i := 23) (N := some 28) (v := ?_) (a' := ?_) #[true, true, false, true, true, false, false, true, true, false, true, true, false, false, true, false, true, false, false, true, true, false, true, true, false, false, false, false, false, false, false, false, false, false, false, false, false, false, false, false, false, false, false] rfl rfl (any_of HT_.out (by kernel_rfl)) (fun _ _ _ h => h) (Or.inl ⟨by rfl, ?_⟩) ?_ ?_
 rotate_left
 ·intro w'
  go_simp
  with_reducible rfl
 rotate_left
 ·simp only [Act.put, List.setIfInBounds_toArray, List.set_cons_zero, List.set_cons_succ, i64_w, i32_w]
  rfl
 refine pure_ (i := 26) (N := some 31) (v := ?_) (a' := ?_) #[true, true, false, true, true, false, false, true, true, false, true, true, false, false, true, false, true, false, false, true, true, false, true, true, false, false, true, false, false, false, false, false, false, false, false, false, false, false, false, false, false, false, false] rfl rfl (any_of HT_.out (by kernel_rfl)) (fun _ _ _ h => h) (Or.inl ⟨by rfl, ?_⟩) ?_ ?_
 rotate_left
 ·intro w'
  go_simp
  with_reducible rfl
 rotate_left
 ·simp only [Act.put, List.setIfInBounds_toArray, List.set_cons_zero, List.set_cons_succ, i64_w, i32_w]
  rfl
 refine pure_ (i := 27) (N := some 32) (v := ?_) (a' := ?_) #[true, true, false, true, true, false, false, true, true, false, true, true, false, false, true, false, true, false, false, true, true, false, true, true, false, false, true, true, false, false, false, false, false, false, false, false, false, false, false, false, false, false, false] rfl rfl (any_of HT_.out (by kernel_rfl)) (fun _ _ _ h => h) (Or.inl ⟨by rfl, ?_⟩) ?_ ?_
 rotate_left
 ·intro w'
  go_simp
  with_reducible rfl
 rotate_left
 ·simp only [Act.put, List.setIfInBounds_toArray, List.set_cons_zero, List.set_cons_succ, i64_w, i32_w]
  rfl
 refine pure_ (i := 29) (N := some 34) (v := ?_) (a' := ?_) #[true, true, false, true, true, false, false, true, true, false, true, true, false, false, true, false, true, false, false, true, true, false, true, true, false, false, true, true, false, true, false, false, false, false, false, false, false, false, false, false, false, false, false] rfl rfl (any_of HT_.out (by kernel_rfl)) (fun _ _ _ h => h) (Or.inl ⟨by rfl, ?_⟩) ?_ ?_
 rotate_left
 ·intro w'
  go_simp
  with_reducible rfl
 rotate_left
 ·simp only [Act.put, List.setIfInBounds_toArray, List.set_cons_zero, List.set_cons_succ, i64_w, i32_w]
  rfl
 refine pure_ (i := 30) (N := some 35) (v := ?_) (a' := ?_) #[true, true, false, true, true, false, false, true, true, false, true, true, false, false, true, false, true, false, false, true, true, false, true, true, false, false, true, true, false, true, true, false, false, false, false, false, false, false, false, false, false, false, false] rfl rfl (any_of HT_.out (by kernel_rfl)) (fun _ _ _ h => h) (Or.inl ⟨by rfl, ?_⟩) ?_ ?_
 rotate_left
 ·intro w'
  go_simp
  with_reducible rfl
 rotate_left
 ·simp only [Act.put, List.setIfInBounds_toArray, List.set_cons_zero, List.set_cons_succ, i64_w, i32_w]
  rfl
 refine pure_ (i := 33) (N := some 38) (v := ?_) (a' := ?_) #[true, true, false, true, true, false, false, true, true, false, true, true, false, false, true, false, true, false, false, true, true, false, true, true, false, false, true, true, false, true, true, false, false, true, false, false, false, false, false, false, false, false, false] rfl rfl (any_of HT_.out (by kernel_rfl)) (fun _ _ _ h => h) (Or.inl ⟨by rfl, ?_⟩) ?_ ?_
 rotate_left
 ·intro w'
  go_simp
  with_reducible rfl
 rotate_left
 ·simp only [Act.put, List.setIfInBounds_toArray, List.set_cons_zero, List.set_cons_succ, i64_w, i32_w]
  rfl
 refine pure_ (i := 34) (N := some 39) (v := ?_) (a' := ?_) #[true, true, false, true, true, false, false, true, true, false, true, true, false, false, true, false, true, false, false, true, true, false, true, true, false, false, true, true, false, true, true, false, false, true, true, false, false, false, false, false, false, false, false] rfl rfl (any_of HT_.out (by kernel_rfl)) (fun _ _ _ h => h) (Or.inl ⟨by rfl, ?_⟩) ?_ ?_
 rotate_left
 ·intro w'
  go_simp
  with_reducible rfl
 rotate_left
 ·simp only [Act.put, List.setIfInBounds_toArray, List.set_cons_zero, List.set_cons_succ, i64_w, i32_w]
  rfl
 refine pure_ (i := 36) (N := some 41) (v := ?_) (a' := ?_) #[true, true, false, true, true, false, false, true, true, false, true, true, false, false, true, false, true, false, false, true, true, false, true, true, false, false, true, true, false, true, true, false, false, true, true, false, true, false, false, false, false, false, false] rfl rfl (any_of HT_.out (by kernel_rfl)) (fun _ _ _ h => h) (Or.inl ⟨by rfl, ?_⟩) ?_ ?_
 rotate_left
 ·intro w'
  go_simp
  with_reducible rfl
 rotate_left
 ·simp only [Act.put, List.setIfInBounds_toArray, List.set_cons_zero, List.set_cons_succ, i64_w, i32_w]
  rfl
 refine pure_ (i := 37) (N := some 42) (v := ?_) (a' := ?_) #[true, true, false, true, true, false, false, true, true, false, true, true, false, false, true, false, true, false, false, true, true, false, true, true, false, false, true, true, false, true, true, false, false, true, true, false, true, true, false, false, false, false, false] rfl rfl (any_of HT_.out (by kernel_rfl)) (fun _ _ _ h => h) (Or.inl ⟨by rfl, ?_⟩) ?_ ?_
 rotate_left
 ·intro w'
  go_simp
  with_reducible rfl
 rotate_left
 ·simp only [Act.put, List.setIfInBounds_toArray, List.set_cons_zero, List.set_cons_succ, i64_w, i32_w]
  rfl
 refine take_ (i := 2) (N := some 7) (v := ?_) (a' := ?_) #[true, true, true, true, true, false, false, true, true, false, true, true, false, false, true, false, true, false, false, true, true, false, true, true, false, false, true, true, false, true, true, false, false, true, true, false, true, true, false, false, false, false, false] rfl rfl (take_ofW HT_.out HW_.out (by kernel_rfl)) (fun _ _ _ h => h) (Or.inl ⟨by rfl, ?_⟩) hHeld ?_ ?_
 rotate_left
 ·rintro w' ⟨s0, s1, s2, s3, s4, s5, s6, s7, s8, s9, s10, s11⟩
  go_simp
  with_reducible rfl
 rotate_left
 ·simp only [Act.put, List.setIfInBounds_toArray, List.set_cons_zero, List.set_cons_succ, i64_w, i32_w]
  rfl
 refine take_ (i := 5) (N := some 10) (v := ?_) (a' := ?_) #[true, true, true, true, true, true, false, true, true, false, true, true, false, false, true, false, true, false, false, true, true, false, true, true, false, false, true, true, false, true, true, false, false, true, true, false, true, true, false, false, false, false, false] rfl rfl (take_ofW HT_.out HW_.out (by kernel_rfl)) (fun _ _ _ h => h) (Or.inl ⟨by rfl, ?_⟩) hHeld ?_ ?_
 rotate_left
 ·rintro w' ⟨s0, s1, s2, s3, s4, s5, s6, s7, s8, s9, s10, s11⟩
  go_simp
  with_reducible rfl
 rotate_left
 ·simp only [Act.put, List.setIfInBounds_toArray, List.set_cons_zero, List.set_cons_succ, i64_w, i32_w]
  rfl
 refine take_ (i := 9) (N := some 14) (v := ?_) (a' := ?_) #[true, true, true, true, true, true, false, true, true, true, true, true, false, false, true, false, true, false, false, true, true, false, true, true, false, false, true, true, false, true, true, false, false, true, true, false, true, true, false, false, false, false, false] rfl rfl (take_ofW HT_.out HW_.out (by kernel_rfl)) (fun _ _ _ h => h) (Or.inl ⟨by rfl, ?_⟩) hHeld ?_ ?_
 rotate_left
 ·rintro w' ⟨s0, s1, s2, s3, s4, s5, s6, s7, s8, s9, s10, s11⟩
  go_simp
  with_reducible rfl
 rotate_left
 ·simp only [Act.put, List.setIfInBounds_toArray, List.set_cons_zero, List.set_cons_succ, i64_w, i32_w]
  rfl
 refine take_ (i := 12) (N := some 17) (v := ?_) (a' := ?_) #[true, true, true, true, true, true, false, true, true, true, true, true, true, false, true, false, true, false, false, true, true, false, true, true, false, false, true, true, false, true, true, false, false, true, true, false, true, true, false, false, false, false, false] rfl rfl (take_ofW HT_.out HW_.out (by kernel_rfl)) (fun _ _ _ h => h) (Or.inl ⟨by rfl, ?_⟩) hHeld ?_ ?_
 rotate_left
 ·rintro w' ⟨s0, s1, s2, s3, s4, s5, s6, s7, s8, s9, s10, s11⟩
  go_simp
  with_reducible rfl
 rotate_left
 ·simp only [Act.put, List.setIfInBounds_toArray, List.set_cons_zero, List.set_cons_succ, i64_w, i32_w]
  rfl
 refine take_ (i := 15) (N := some 20) (v := ?_) (a' := ?_) #[true, true, true, true, true, true, false, true, true, true, true, true, true, false, true, true, true, false, false, true, true, false, true, true, false, false, true, true, false, true, true, false, false, true, true, false, true, true, false, false, false, false, false] rfl rfl (take_ofW HT_.out HW_.out (by kernel_rfl)) (fun _ _ _ h => h) (Or.inl ⟨by rfl, ?_⟩) hHeld ?_ ?_
 rotate_left
 ·rintro w' ⟨s0, s1, s2, s3, s4, s5, s6, s7, s8, s9, s10, s11⟩
  go_simp
  with_reducible rfl
 rotate_left
 ·simp only [Act.put, List.setIfInBounds_toArray, List.set_cons_zero, List.set_cons_succ, i64_w, i32_w]
  rfl
 refine take_ (i := 17) (N := some 22) (v := ?_) (a' := ?_) #[true, true, true, true, true, true, false, true, true, true, true, true, true, false, true, true, true, true, false, true, true, false, true, true, false, false, true, true, false, true, true, false, false, true, true, false, true, true, false, false, false, false, false] rfl rfl (take_ofW HT_.out HW_.out (by kernel_rfl)) (fun _ _ _ h => h) (Or.inl ⟨by rfl, ?_⟩) hHeld ?_ ?_
 rotate_left
 ·rintro w' ⟨s0, s1, s2, s3, s4, s5, s6, s7, s8, s9, s10, s11⟩
  go_simp
  with_reducible rfl
 rotate_left
 ·simp only [Act.put, List.setIfInBounds_toArray, List.set_cons_zero, List.set_cons_succ, i64_w, i32_w]
  rfl
 refine take_ (i := 21) (N := some 26) (v := ?_) (a' := ?_) #[true, true, true, true, true, true, false, true, true, true, true, true, true, false, true, true, true, true, false, true, true, true, true, true, false, false, true, true, false, true, true, false, false, true, true, false, true, true, false, false, false, false, false] rfl rfl (take_ofW HT_.out HW_.out (by kernel_rfl)) (fun _ _ _ h => h) (Or.inl ⟨by rfl, ?_⟩) hHeld ?_ ?_
 rotate_left
 ·rintro w' ⟨s0, s1, s2, s3, s4, s5, s6, s7, s8, s9, s10, s11⟩
  go_simp
  with_reducible rfl
 rotate_left
 ·simp only [Act.put, List.setIfInBounds_toArray, List.set_cons_zero, List.set_cons_succ, i64_w, i32_w]
  rfl
 refine take_ (i := 24) (N := some 29) (v := ?_) (a' := ?_) #[true, true, true, true, true, true, false, true, true, true, true, true, true, false, true, true, true, true, false, true, true, true, true, true, true, false, true, true, false, true, true, false, false, true, true, false, true, true, false, false, false, false, false] rfl rfl (take_ofW HT_.out HW_.out (by kernel_rfl)) (fun _ _ _ h => h) (Or.inl ⟨by rfl, ?_⟩) hHeld ?_ ?_
 rotate_left
 ·rintro w' ⟨s0, s1, s2, s3, s4, s5, s6, s7, s8, s9, s10, s11⟩
  go_simp
  with_reducible rfl
 rotate_left
 ·simp only [Act.put, List.setIfInBounds_toArray, List.set_cons_zero, List.set_cons_succ, i64_w, i32_w]
  rfl
 refine take_ (i := 28) (N := some 33) (v := ?_) (a' := ?_) #[true, true, true, true, true, true, false, true, true, true, true, true, true, false, true, true, true, true, false, true, true, true, true, true, true, false, true, true, true, true, true, false, false, true, true, false, true, true, false, false, false, false, false] rfl rfl (take_ofW HT_.out HW_.out (by kernel_rfl)) (fun _ _ _ h => h) (Or.inl ⟨by rfl, ?_⟩) hHeld ?_ ?_
 rotate_left
 ·rintro w' ⟨s0, s1, s2, s3, s4, s5, s6, s7, s8, s9, s10, s11⟩
  go_simp
  with_reducible rfl
 rotate_left
 ·simp only [Act.put, List.setIfInBounds_toArray, List.set_cons_zero, List.set_cons_succ, i64_w, i32_w]
  rfl
 refine take_ (i := 31) (N := some 36) (v := ?_) (a' := ?_) #[true, true, true, true, true, true, false, true, true, true, true, true, true, false, true, true, true, true, false, true, true, true, true, true, true, false, true, true, true, true, true, true, false, true, true, false, true, true, false, false, false, false, false] rfl rfl (take_ofW HT_.out HW_.out (by kernel_rfl)) (fun _ _ _ h => h) (Or.inl ⟨by rfl, ?_⟩) hHeld ?_ ?_
 rotate_left
 ·rintro w' ⟨s0, s1, s2, s3, s4, s5, s6, s7, s8, s9, s10, s11⟩
  go_simp
  with_reducible rfl
 rotate_left
 ·simp only [Act.put, List.setIfInBounds_toArray, List.set_cons_zero, List.set_cons_succ, i64_w, i32_w]
  rfl
 refine take_ (i := 35) (N := some 40) (v := ?_) (a' := ?_) #[true, true, true, true, true, true, false, true, true, true, true, true, true, false, true, true, true, true, false, true, true, true, true, true, true, false, true, true, true, true, true, true, false, true, true, true, true, true, false, false, false, false, false] rfl rfl (take_ofW HT_.out HW_.out (by kernel_rfl)) (fun _ _ _ h => h) (Or.inl ⟨by rfl, ?_⟩) hHeld ?_ ?_
 rotate_left
 ·rintro w' ⟨s0, s1, s2, s3, s4, s5, s6, s7, s8, s9, s10, s11⟩
  go_simp
  with_reducible rfl
 rotate_left
 ·simp only [Act.put, List.setIfInBounds_toArray, List.set_cons_zero, List.set_cons_succ, i64_w, i32_w]
  rfl
 refine take_ (i := 38) (N := some 43) (v := ?_) (a' := ?_) #[true, true, true, true, true, true, false, true, true, true, true, true, true, false, true, true, true, true, false, true, true, true, true, true, true, false, true, true, true, true, true, true, false, true, true, true, true, true, true, false, false, false, false] rfl rfl (take_ofW HT_.out HW_.out (by kernel_rfl)) (fun _ _ _ h => h) (Or.inl ⟨by rfl, ?_⟩) hHeld ?_ ?_
 rotate_left
 ·rintro w' ⟨s0, s1, s2, s3, s4, s5, s6, s7, s8, s9, s10, s11⟩
  go_simp
  with_reducible rfl
 rotate_left
 ·simp only [Act.put, List.setIfInBounds_toArray, List.set_cons_zero, List.set_cons_succ, i64_w, i32_w]
  rfl
 refine one_ (i := 6) (N := some 11) #[true, true, true, true, true, true, true, true, true, true, true, true, true, false, true, true, true, true, false, true, true, true, true, true, true, false, true, true, true, true, true, true, false, true, true, true, true, true, true, false, false, false, false] rfl rfl (one_of HT_.out (by kernel_rfl)) (by decide) (fun K hK => ?_)
 refine goes_ Try.func45 (by kernel_rfl) rfl #[.string a0_0, .string a1_0] (by rfl) rfl rfl (by (try simp only [List.map_toArray, List.map_cons, List.map_nil]); first | done | rfl | (simp only [List.length_drop, List.length_take]; rfl)) ?_
 with_reducible refine (strings_Compare.calls a0_0 a1_0 t235 _ A3.out).mono ?_
 rintro e w' ⟨rfl, ⟨nd, rfl⟩⟩
 refine ⟨_, rfl, ?_⟩
 refine hK.out _ _ ⟨(blk_cell BK233.out 0).trans rfl, (blk_cell BK233.out 1).trans rfl, (blk_cell BK233.out 2).trans rfl, (blk_cell BK233.out 3).trans rfl, (blk_cell BK233.out 4).trans rfl, (blk_cell BK233.out 5).trans rfl, (blk_cell BK234.out 0).trans rfl, (blk_cell BK234.out 1).trans rfl, (blk_cell BK234.out 2).trans rfl, (blk_cell BK234.out 3).trans rfl, (blk_cell BK234.out 4).trans rfl, (blk_cell BK234.out 5).trans rfl⟩ (fun hHeld => ?_)
 clear hK K
 refine norm_ (a' := ?_) ?_ ?_
 rotate_left
 ·show Act.put _ (some 11) _ = _
  simp only [Act.put, List.setIfInBounds_toArray, List.set_cons_zero, List.set_cons_succ, i64_w, i32_w]
  rfl
 refine one_ (i := 13) (N := some 18) #[true, true, true, true, true, true, true, true, true, true, true, true, true, true, true, true, true, true, false, true, true, true, true, true, true, false, true, true, true, true, true, true, false, true, true, true, true, true, true, false, false, false, false] rfl rfl (one_of HT_.out (by kernel_rfl)) (by decide) (fun K hK => ?_)
 refine goes_ Try.func45 (by kernel_rfl) rfl #[.string a0_1, .string a1_1] (by rfl) rfl rfl (by (try simp only [List.map_toArray, List.map_cons, List.map_nil]); first | done | rfl | (simp only [List.length_drop, List.length_take]; rfl)) ?_
 with_reducible refine (strings_Compare.calls a0_1 a1_1 t236 _ A4.out).mono ?_
 rintro e w' ⟨rfl, ⟨nd, rfl⟩⟩
 refine ⟨_, rfl, ?_⟩
 refine hK.out _ _ ⟨(blk_cell BK233.out 0).trans rfl, (blk_cell BK233.out 1).trans rfl, (blk_cell BK233.out 2).trans rfl, (blk_cell BK233.out 3).trans rfl, (blk_cell BK233.out 4).trans rfl, (blk_cell BK233.out 5).trans rfl, (blk_cell BK234.out 0).trans rfl, (blk_cell BK234.out 1).trans rfl, (blk_cell BK234.out 2).trans rfl, (blk_cell BK234.out 3).trans rfl, (blk_cell BK234.out 4).trans rfl, (blk_cell BK234.out 5).trans rfl⟩ (fun hHeld => ?_)
 clear hK K
 refine norm_ (a' := ?_) ?_ ?_
 rotate_left
 ·show Act.put _ (some 18) _ = _
  simp only [Act.put, List.setIfInBounds_toArray, List.set_cons_zero, List.set_cons_succ, i64_w, i32_w]
  rfl
 refine one_ (i := 18) (N := some 23) #[true, true, true, true, true, true, true, true, true, true, true, true, true, true, true, true, true, true, true, true, true, true, true, true, true, false, true, true, true, true, true, true, false, true, true, true, true, true, true, false, false, false, false] rfl rfl (one_of HT_.out (by kernel_rfl)) (by decide) (fun K hK => ?_)
 refine goes_ Try.func45 (by kernel_rfl) rfl #[.string a0_2, .string a1_2] (by rfl) rfl rfl (by (try simp only [List.map_toArray, List.map_cons, List.map_nil]); first | done | rfl | (simp only [List.length_drop, List.length_take]; rfl)) ?_
 with_reducible refine (strings_Compare.calls a0_2 a1_2 t237 _ A5.out).mono ?_
 rintro e w' ⟨rfl, ⟨nd, rfl⟩⟩
 refine ⟨_, rfl, ?_⟩
 refine hK.out _ _ ⟨(blk_cell BK233.out 0).trans rfl, (blk_cell BK233.out 1).trans rfl, (blk_cell BK233.out 2).trans rfl, (blk_cell BK233.out 3).trans rfl, (blk_cell BK233.out 4).trans rfl, (blk_cell BK233.out 5).trans rfl, (blk_cell BK234.out 0).trans rfl, (blk_cell BK234.out 1).trans rfl, (blk_cell BK234.out 2).trans rfl, (blk_cell BK234.out 3).trans rfl, (blk_cell BK234.out 4).trans rfl, (blk_cell BK234.out 5).trans rfl⟩ (fun hHeld => ?_)
 clear hK K
 refine norm_ (a' := ?_) ?_ ?_
 rotate_left
 ·show Act.put _ (some 23) _ = _
  simp only [Act.put, List.setIfInBounds_toArray, List.set_cons_zero, List.set_cons_succ, i64_w, i32_w]
  rfl
 refine one_ (i := 25) (N := some 30) #[true, true, true, true, true, true, true, true, true, true, true, true, true, true, true, true, true, true, true, true, true, true, true, true, true, true, true, true, true, true, true, true, false, true, true, true, true, true, true, false, false, false, false] rfl rfl (one_of HT_.out (by kernel_rfl)) (by decide) (fun K hK => ?_)
 refine goes_ Try.func45 (by kernel_rfl) rfl #[.string a0_3, .string a1_3] (by rfl) rfl rfl (by (try simp only [List.map_toArray, List.map_cons, List.map_nil]); first | done | rfl | (simp only [List.length_drop, List.length_take]; rfl)) ?_
 with_reducible refine (strings_Compare.calls a0_3 a1_3 t238 _ A6.out).mono ?_
 rintro e w' ⟨rfl, ⟨nd, rfl⟩⟩
 refine ⟨_, rfl, ?_⟩
 refine hK.out _ _ ⟨(blk_cell BK233.out 0).trans rfl, (blk_cell BK233.out 1).trans rfl, (blk_cell BK233.out 2).trans rfl, (blk_cell BK233.out 3).trans rfl, (blk_cell BK233.out 4).trans rfl, (blk_cell BK233.out 5).trans rfl, (blk_cell BK234.out 0).trans rfl, (blk_cell BK234.out 1).trans rfl, (blk_cell BK234.out 2).trans rfl, (blk_cell BK234.out 3).trans rfl, (blk_cell BK234.out 4).trans rfl, (blk_cell BK234.out 5).trans rfl⟩ (fun hHeld => ?_)
 clear hK K
 refine norm_ (a' := ?_) ?_ ?_
 rotate_left
 ·show Act.put _ (some 30) _ = _
  simp only [Act.put, List.setIfInBounds_toArray, List.set_cons_zero, List.set_cons_succ, i64_w, i32_w]
  rfl
 refine one_ (i := 32) (N := some 37) #[true, true, true, true, true, true, true, true, true, true, true, true, true, true, true, true, true, true, true, true, true, true, true, true, true, true, true, true, true, true, true, true, true, true, true, true, true, true, true, false, false, false, false] rfl rfl (one_of HT_.out (by kernel_rfl)) (by decide) (fun K hK => ?_)
 refine goes_ Try.func45 (by kernel_rfl) rfl #[.string a0_4, .string a1_4] (by rfl) rfl rfl (by (try simp only [List.map_toArray, List.map_cons, List.map_nil]); first | done | rfl | (simp only [List.length_drop, List.length_take]; rfl)) ?_
 with_reducible refine (strings_Compare.calls a0_4 a1_4 t239 _ A7.out).mono ?_
 rintro e w' ⟨rfl, ⟨nd, rfl⟩⟩
 refine ⟨_, rfl, ?_⟩
 refine hK.out _ _ ⟨(blk_cell BK233.out 0).trans rfl, (blk_cell BK233.out 1).trans rfl, (blk_cell BK233.out 2).trans rfl, (blk_cell BK233.out 3).trans rfl, (blk_cell BK233.out 4).trans rfl, (blk_cell BK233.out 5).trans rfl, (blk_cell BK234.out 0).trans rfl, (blk_cell BK234.out 1).trans rfl, (blk_cell BK234.out 2).trans rfl, (blk_cell BK234.out 3).trans rfl, (blk_cell BK234.out 4).trans rfl, (blk_cell BK234.out 5).trans rfl⟩ (fun hHeld => ?_)
 clear hK K
 refine norm_ (a' := ?_) ?_ ?_
 rotate_left
 ·show Act.put _ (some 37) _ = _
  simp only [Act.put, List.setIfInBounds_toArray, List.set_cons_zero, List.set_cons_succ, i64_w, i32_w]
  rfl
 refine one_ (i := 39) (N := some 44) #[true, true, true, true, true, true, true, true, true, true, true, true, true, true, true, true, true, true, true, true, true, true, true, true, true, true, true, true, true, true, true, true, true, true, true, true, true, true, true, true, false, false, false] rfl rfl (one_of HT_.out (by kernel_rfl)) (by decide) (fun K hK => ?_)
 refine goes_ Try.func45 (by kernel_rfl) rfl #[.string a0_5, .string a1_5] (by rfl) rfl rfl (by (try simp only [List.map_toArray, List.map_cons, List.map_nil]); first | done | rfl | (simp only [List.length_drop, List.length_take]; rfl)) ?_
 with_reducible refine (strings_Compare.calls a0_5 a1_5 t240 _ A8.out).mono ?_
 rintro e w' ⟨rfl, ⟨nd, rfl⟩⟩
 refine ⟨_, rfl, ?_⟩
 refine hK.out _ _ ⟨(blk_cell BK233.out 0).trans rfl, (blk_cell BK233.out 1).trans rfl, (blk_cell BK233.out 2).trans rfl, (blk_cell BK233.out 3).trans rfl, (blk_cell BK233.out 4).trans rfl, (blk_cell BK233.out 5).trans rfl, (blk_cell BK234.out 0).trans rfl, (blk_cell BK234.out 1).trans rfl, (blk_cell BK234.out 2).trans rfl, (blk_cell BK234.out 3).trans rfl, (blk_cell BK234.out 4).trans rfl, (blk_cell BK234.out 5).trans rfl⟩ (fun hHeld => ?_)
 clear hK K
 refine norm_ (a' := ?_) ?_ ?_
 rotate_left
 ·show Act.put _ (some 44) _ = _
  simp only [Act.put, List.setIfInBounds_toArray, List.set_cons_zero, List.set_cons_succ, i64_w, i32_w]
  rfl
 refine one_ (i := 40) (N := some 45) #[true, true, true, true, true, true, true, true, true, true, true, true, true, true, true, true, true, true, true, true, true, true, true, true, true, true, true, true, true, true, true, true, true, true, true, true, true, true, true, true, true, false, false] rfl rfl (one_of HT_.out (by kernel_rfl)) (by decide) (fun K hK => ?_)
 refine Kd.R_lit_step (Kd.int .i64) _ 3 ?hg (N := 45) ?hd (xs := ([t235, t236, t237, t238, t239, t240] : List Int)) (inner := [.int .i64 t235, .int .i64 t236, .int .i64 t237, .int .i64 t238, .int .i64 t239, .int .i64 t240]) (ok := fun _ => True) (okp := fun _ => True) ?hr ?hp (fun _ hk => hk) trivial (Below.refl _ _) (Nat.le_refl _) (by simp) ?_; (case hd => rfl); (case hg => rfl); (case hr => first | (go_simp; done) | (go_simp; rfl)); (case hp => exact (Reps.one (show Kd.M (Kd.int .i64) _ _ _ t235 [.int .i64 t235] from rfl) (Reps.one (show Kd.M (Kd.int .i64) _ _ _ t236 [.int .i64 t236] from rfl) (Reps.one (show Kd.M (Kd.int .i64) _ _ _ t237 [.int .i64 t237] from rfl) (Reps.one (show Kd.M (Kd.int .i64) _ _ _ t238 [.int .i64 t238] from rfl) (Reps.one (show Kd.M (Kd.int .i64) _ _ _ t239 [.int .i64 t239] from rfl) (Reps.one (show Kd.M (Kd.int .i64) _ _ _ t240 [.int .i64 t240] from rfl) (Reps.none _ _))))))))
 intro v242 w13 ho14 hb hg_ hnew_
 clear hg_ hnew_
 (first | rw [← Ny241.out] at ho14 | (simp only [Int.reduceToNat] at ho14; rw [← Ny241.out] at ho14))
 have n0_ := Aside0.mk (Kd.R_lower ho14 (below_size (by repeat (first | (with_reducible first | exact HB.out | apply below_alloc | apply pw_below_drewN | apply below_drew1 | refine below_set ?_ GE233.out | refine below_set ?_ GE234.out) | exact HB.out))))
 have n1_ := Aside0.mk (blk_below (g := gb233) (o := .cells #[.string a0_0, .string a0_1, .string a0_2, .string a0_3, .string a0_4, .string a0_5] 29 (0, 0)) (by (with_reducible repeat (first | refine blk_drewN ?_ _ | refine blk_drew ?_ | refine blk_alloc ?_ _)); exact BK233.out) hb)
 have n2_ := Aside0.mk (blk_below (g := gb234) (o := .cells #[.string a1_0, .string a1_1, .string a1_2, .string a1_3, .string a1_4, .string a1_5] 29 (0, 0)) (by (with_reducible repeat (first | refine blk_drewN ?_ _ | refine blk_drew ?_ | refine blk_alloc ?_ _)); exact BK234.out) hb)
 have n3_ := Aside0.mk (below_step (by repeat (first | (with_reducible first | exact HB.out | apply below_alloc | apply pw_below_drewN | apply below_drew1 | refine below_set ?_ GE233.out | refine below_set ?_ GE234.out) | exact HB.out)) hb)
 clear BK233
 clear BK234
 clear HB
 have HO243 := n0_
 have BK233 := n1_
 have BK234 := n2_
 have HB := n3_
 clear n0_ n1_ n2_ n3_
 clear hb ho14
 obtain ⟨Ao15, co15, eo15⟩ := Kd.R_slice HO243.out
 (first | subst eo15 | (injection eo15 with f1_ f2_ f3_; have f4_ := f1_.symm; have f5_ := f3_.symm; clear f1_ f2_ f3_; subst f4_; subst f5_))
 refine hK.out _ _ ⟨(blk_cell BK233.out 0).trans rfl, (blk_cell BK233.out 1).trans rfl, (blk_cell BK233.out 2).trans rfl, (blk_cell BK233.out 3).trans rfl, (blk_cell BK233.out 4).trans rfl, (blk_cell BK233.out 5).trans rfl, (blk_cell BK234.out 0).trans rfl, (blk_cell BK234.out 1).trans rfl, (blk_cell BK234.out 2).trans rfl, (blk_cell BK234.out 3).trans rfl, (blk_cell BK234.out 4).trans rfl, (blk_cell BK234.out 5).trans rfl⟩ (fun hHeld => ?_)
 clear hK K
 refine norm_ (a' := ?_) ?_ ?_
 rotate_left
 ·show Act.put _ (some 45) _ = _
  simp only [Act.put, List.setIfInBounds_toArray, List.set_cons_zero, List.set_cons_succ, i64_w, i32_w]
  rfl
 refine one_ (i := 41) (N := some 46) #[true, true, true, true, true, true, true, true, true, true, true, true, true, true, true, true, true, true, true, true, true, true, true, true, true, true, true, true, true, true, true, true, true, true, true, true, true, true, true, true, true, true, false] rfl rfl (one_of HT_.out (by kernel_rfl)) (by decide) (fun K hK => ?_)
 refine goes_ Try.func44 (by kernel_rfl) rfl #[.slice Ao15 y241.length co15] (by rfl) rfl rfl (by (try simp only [List.map_toArray, List.map_cons, List.map_nil]); first | done | rfl | (simp only [List.length_drop, List.length_take]; rfl)) ?_
 with_reducible refine (cmp_Or_int.calls k _ _ y241 t244 _ ?side1 ?side2 A9.out).mono ?_
 (case side1 => repeat (first | exact (Kd.R_reads' HO243.out).2.2 | (with_reducible refine Kd.C_alloc ?_ _) | (with_reducible refine Kd.C_drewN ?_ _) | (with_reducible refine Kd.C_drew ?_)))
 (case side2 => exact (Kd.R_reads' HO243.out).2.1)
 rintro e w' ⟨rfl, ⟨nd, rfl⟩⟩
 refine ⟨_, rfl, ?_⟩
 refine hK.out _ _ ⟨(blk_cell BK233.out 0).trans rfl, (blk_cell BK233.out 1).trans rfl, (blk_cell BK233.out 2).trans rfl, (blk_cell BK233.out 3).trans rfl, (blk_cell BK233.out 4).trans rfl, (blk_cell BK233.out 5).trans rfl, (blk_cell BK234.out 0).trans rfl, (blk_cell BK234.out 1).trans rfl, (blk_cell BK234.out 2).trans rfl, (blk_cell BK234.out 3).trans rfl, (blk_cell BK234.out 4).trans rfl, (blk_cell BK234.out 5).trans rfl⟩ (fun hHeld => ?_)
 clear hK K
 refine norm_ (a' := ?_) ?_ ?_
 rotate_left
 ·show Act.put _ (some 46) _ = _
  simp only [Act.put, List.setIfInBounds_toArray, List.set_cons_zero, List.set_cons_succ, i64_w, i32_w]
  rfl
 refine pure_ (i := 42) (N := some 4) (v := ?_) (a' := ?_) #[true, true, true, true, true, true, true, true, true, true, true, true, true, true, true, true, true, true, true, true, true, true, true, true, true, true, true, true, true, true, true, true, true, true, true, true, true, true, true, true, true, true, true] rfl rfl (any_of HT_.out (by kernel_rfl)) (fun _ _ _ h => h) (Or.inl ⟨by rfl, ?_⟩) ?_ ?_
 rotate_left
 ·intro w'
  go_simp
  with_reducible rfl
 rotate_left
 ·simp only [Act.put, List.setIfInBounds_toArray, List.set_cons_zero, List.set_cons_succ, i64_w, i32_w]
  rfl
 refine done_ (done_of HT_.out (by kernel_rfl)) ?_
 try go_wp2
 go_ret
 exact ⟨by first | rfl | (simp [errW_none, errW_some] <;> rfl) | (simp [*, errW_none, errW_some] <;> rfl), by repeat (first | (with_reducible first | exact HB.out | apply below_alloc | apply pw_below_drewN | apply below_drew1 | refine below_set ?_ GE233.out | refine below_set ?_ GE234.out) | exact HB.out)⟩
end Go.Proofs.Ytjmlloiolppoiaa.P
end
section
namespace Go.Proofs.Ytjmlloiolppoiaa.P
open Go.RowKit Go.Proofs.YtjmlloiolppoiaaW.PrintWords Go.Proofs.YtjmlloiolppoiaaW.PrintLast Go.Proofs.YtjmlloiolppoiaaW.PrintMore
set_option linter.unusedVariables false
set_option linter.unusedSimpArgs false
def tupl_Less.f (k : Nat) (a0_0 : ByteArray) (a0_1 : ByteArray) (a0_2 : ByteArray) (a0_3 : ByteArray) (a0_4 : ByteArray) (a0_5 : ByteArray) (a1_0 : ByteArray) (a1_1 : ByteArray) (a1_2 : ByteArray) (a1_3 : ByteArray) (a1_4 : ByteArray) (a1_5 : ByteArray) : Option (Bool) := (tupl_Compare.f k a0_0 a0_1 a0_2 a0_3 a0_4 a0_5 a1_0 a1_1 a1_2 a1_3 a1_4 a1_5).bind fun t247 => (some (decide (t247 < 0)))
theorem tupl_Less.mono : ∀ a0 a1 a2 a3 a4 a5 a6 a7 a8 a9 a10 a11 k, LeO (tupl_Less.f k a0 a1 a2 a3 a4 a5 a6 a7 a8 a9 a10 a11) (tupl_Less.f (k + 1) a0 a1 a2 a3 a4 a5 a6 a7 a8 a9 a10 a11) := by
 intro a0 a1 a2 a3 a4 a5 a6 a7 a8 a9 a10 a11 k
 unfold tupl_Less.f
 repeat' first
   | (with_reducible exact tupl_Compare.mono _ _ _ _ _ _ _ _ _ _ _ _ _)
   | (with_reducible exact LeO.refl _)
   | (with_reducible exact LeO.none _)
   | (with_reducible refine LeO.ite ?_ ?_)
   | (with_reducible refine LeO.bind ?_ (fun _ => ?_))
   | exact tupl_Compare.mono _ _ _ _ _ _ _ _ _ _ _ _ _
   | exact LeO.none _
   | refine LeO.ite ?_ ?_
   | refine LeO.bind ?_ (fun _ => ?_)
set_option maxHeartbeats 8000000 in
set_option maxRecDepth 100000 in
theorem tupl_Less.calls (k : Nat) (a0_0 : ByteArray) (a0_1 : ByteArray) (a0_2 : ByteArray) (a0_3 : ByteArray) (a0_4 : ByteArray) (a0_5 : ByteArray) (a1_0 : ByteArray) (a1_1 : ByteArray) (a1_2 : ByteArray) (a1_3 : ByteArray) (a1_4 : ByteArray) (a1_5 : ByteArray) (r : Bool) (w : World) (h : tupl_Less.f k a0_0 a0_1 a0_2 a0_3 a0_4 a0_5 a1_0 a1_1 a1_2 a1_3 a1_4 a1_5 = some r) :
  Calls Try.prog 16 #[.agg #[.string a0_0, .string a0_1, .string a0_2, .string a0_3, .string a0_4, .string a0_5], .agg #[.string a1_0, .string a1_1, .string a1_2, .string a1_3, .string a1_4, .string a1_5]] w fun e w' => e = .returned (.bool r) ∧ Below w.heap.size w w' := by
 have hu29 := Try.underlying29
 have HB := Aside0.mk (Below.refl w.heap.size w)
 have H : ((tupl_Compare.f k a0_0 a0_1 a0_2 a0_3 a0_4 a0_5 a1_0 a1_1 a1_2 a1_3 a1_4 a1_5).bind fun t247 => (some (decide (t247 < 0)))) = some r := h
 clear h
 replace H := Option.bind_eq_some_iff.mp H
 obtain ⟨t247, A30, H⟩ := H
 replace H : (some (decide (t247 < 0))) = some r := H
 have A3 := Aside0.mk A30
 clear A30
 obtain rfl := Option.some.inj H
 go_enter Try.func16, Try.ntmps16
 go_wp2_with (first | ((with_reducible refine gate_dst (N := 2) rfl ?_); refine box_event ?hg (N := 2) ?hd (cs := #[.string a0_0, .string a0_1, .string a0_2, .string a0_3, .string a0_4, .string a0_5]) (t := 29) ?hr ?_; (case hd => rfl); (case hg => rfl); (case hr => first | (go_simp; done) | (go_simp; rfl)); intro gb245 hg w4 hbox hb; have n0_ := Aside0.mk (below_step (by repeat (first | (with_reducible first | exact HB.out | apply below_alloc | apply pw_below_drewN | apply below_drew1) | exact HB.out)) hb); have n1_ := Aside0.mk (hbox); have n2_ := Aside0.mk ((by rw [hg]; exact (below_size (by repeat (first | (with_reducible first | exact HB.out | apply below_alloc | apply pw_below_drewN | apply below_drew1) | exact HB.out))) : w.heap.size ≤ gb245)); have n3_ := Aside0.mk ((by rw [hg]; exact (below_size (by repeat (first | (with_reducible first | exact HB.out | apply below_alloc | apply pw_below_drewN | apply below_drew1) | exact HB.out))) : w.heap.size ≤ gb245)); clear HB; have HB := n0_; have BK245 := n1_; have GW245 := n2_; have GE245 := n3_; clear n0_ n1_ n2_ n3_; clear hb hbox hg) | ((with_reducible refine gate_dst (N := 3) rfl ?_); refine box_event ?hg (N := 3) ?hd (cs := #[.string a1_0, .string a1_1, .string a1_2, .string a1_3, .string a1_4, .string a1_5]) (t := 29) ?hr ?_; (case hd => rfl); (case hg => rfl); (case hr => first | (go_simp; done) | (go_simp; rfl)); intro gb246 hg w5 hbox hb; have n0_ := Aside0.mk (blk_below (g := gb245) (o := .cells #[.string a0_0, .string a0_1, .string a0_2, .string a0_3, .string a0_4, .string a0_5] 29 (0, 0)) (by (with_reducible repeat (first | refine blk_drewN ?_ _ | refine blk_drew ?_ | refine blk_alloc ?_ _)); exact BK245.out) hb); have n1_ := Aside0.mk (below_step (by repeat (first | (with_reducible first | exact HB.out | apply below_alloc | apply pw_below_drewN | apply below_drew1 | refine below_set ?_ GE245.out) | exact HB.out)) hb); have n2_ := Aside0.mk (hbox); have n3_ := Aside0.mk ((by rw [hg]; exact (below_size (by repeat (first | (with_reducible first | exact HB.out | apply below_alloc | apply pw_below_drewN | apply below_drew1 | refine below_set ?_ GE245.out) | exact HB.out))) : w.heap.size ≤ gb246)); have n4_ := Aside0.mk ((by rw [hg]; exact (below_size (by repeat (first | (with_reducible first | exact HB.out | apply below_alloc | apply pw_below_drewN | apply below_drew1 | refine below_set ?_ GE245.out) | exact HB.out))) : w.heap.size ≤ gb246)); have n5_ := Aside0.mk ((by rw [hg]; exact Nat.ne_of_lt (blk_lt (g := gb245) (o := .cells #[.string a0_0, .string a0_1, .string a0_2, .string a0_3, .string a0_4, .string a0_5] 29 (0, 0)) (by (with_reducible repeat (first | refine blk_drewN ?_ _ | refine blk_drew ?_ | refine blk_alloc ?_ _)); exact BK245.out)) : gb245 ≠ gb246)); have n6_ := Aside0.mk ((by rw [hg]; exact Nat.ne_of_gt (blk_lt (g := gb245) (o := .cells #[.string a0_0, .string a0_1, .string a0_2, .string a0_3, .string a0_4, .string a0_5] 29 (0, 0)) (by (with_reducible repeat (first | refine blk_drewN ?_ _ | refine blk_drew ?_ | refine blk_alloc ?_ _)); exact BK245.out)) : gb246 ≠ gb245)); clear BK245; clear HB; have BK245 := n0_; have HB := n1_; have BK246 := n2_; have GW246 := n3_; have GE246 := n4_; have NB245_246 := n5_; have NB246_245 := n6_; clear n0_ n1_ n2_ n3_ n4_ n5_ n6_; clear hb hbox hg; have hnb6 := NB245_246.out; have hnc6 := NB246_245.out; have hcz7_0 : w5.cell? ⟨gb245, 0, none⟩ = some (.string a0_0) := (blk_cell BK245.out 0).trans rfl; have hcz7_1 : w5.cell? ⟨gb245, 1, none⟩ = some (.string a0_1) := (blk_cell BK245.out 1).trans rfl; have hcz7_2 : w5.cell? ⟨gb245, 2, none⟩ = some (.string a0_2) := (blk_cell BK245.out 2).trans rfl; have hcz7_3 : w5.cell? ⟨gb245, 3, none⟩ = some (.string a0_3) := (blk_cell BK245.out 3).trans rfl; have hcz7_4 : w5.cell? ⟨gb245, 4, none⟩ = some (.string a0_4) := (blk_cell BK245.out 4).trans rfl; have hcz7_5 : w5.cell? ⟨gb245, 5, none⟩ = some (.string a0_5) := (blk_cell BK245.out 5).trans rfl; have hfz7_0 := blk_frozen BK245.out 0; have hfz7_1 := blk_frozen BK245.out 1; have hfz7_2 := blk_frozen BK245.out 2; have hfz7_3 := blk_frozen BK245.out 3; have hfz7_4 := blk_frozen BK245.out 4; have hfz7_5 := blk_frozen BK245.out 5; have hcz8_0 : w5.cell? ⟨gb246, 0, none⟩ = some (.string a1_0) := (blk_cell BK246.out 0).trans rfl; have hcz8_1 : w5.cell? ⟨gb246, 1, none⟩ = some (.string a1_1) := (blk_cell BK246.out 1).trans rfl; have hcz8_2 : w5.cell? ⟨gb246, 2, none⟩ = some (.string a1_2) := (blk_cell BK246.out 2).trans rfl; have hcz8_3 : w5.cell? ⟨gb246, 3, none⟩ = some (.string a1_3) := (blk_cell BK246.out 3).trans rfl; have hcz8_4 : w5.cell? ⟨gb246, 4, none⟩ = some (.string a1_4) := (blk_cell BK246.out 4).trans rfl; have hcz8_5 : w5.cell? ⟨gb246, 5, none⟩ = some (.string a1_5) := (blk_cell BK246.out 5).trans rfl; have hfz8_0 := blk_frozen BK246.out 0; have hfz8_1 := blk_frozen BK246.out 1; have hfz8_2 := blk_frozen BK246.out 2; have hfz8_3 := blk_frozen BK246.out 3; have hfz8_4 := blk_frozen BK246.out 4; have hfz8_5 := blk_frozen BK246.out 5) | ((with_reducible refine gate_callee (f := 36) rfl ?_); refine goesL_ (some 7) rfl rfl Try.func36 (by kernel_rfl) rfl #[.agg #[.string a0_0, .string a0_1, .string a0_2, .string a0_3, .string a0_4, .string a0_5], .agg #[.string a1_0, .string a1_1, .string a1_2, .string a1_3, .string a1_4, .string a1_5]] rfl (by (try simp only [List.map_toArray, List.map_cons, List.map_nil]); first | done | rfl | (simp only [List.length_drop, List.length_take]; rfl)) ?_; (with_reducible refine (tupl_Compare.calls k a0_0 a0_1 a0_2 a0_3 a0_4 a0_5 a1_0 a1_1 a1_2 a1_3 a1_4 a1_5 t247 _ A3.out).mono ?_); rintro e w9 ⟨rfl, hb⟩; refine ⟨_, rfl, ?_⟩; have n0_ := Aside0.mk (blk_below (g := gb245) (o := .cells #[.string a0_0, .string a0_1, .string a0_2, .string a0_3, .string a0_4, .string a0_5] 29 (0, 0)) (by (with_reducible repeat (first | refine blk_drewN ?_ _ | refine blk_drew ?_ | refine blk_alloc ?_ _)); exact BK245.out) hb); have n1_ := Aside0.mk (blk_below (g := gb246) (o := .cells #[.string a1_0, .string a1_1, .string a1_2, .string a1_3, .string a1_4, .string a1_5] 29 (0, 0)) (by (with_reducible repeat (first | refine blk_drewN ?_ _ | refine blk_drew ?_ | refine blk_alloc ?_ _)); exact BK246.out) hb); have n2_ := Aside0.mk (below_step (by repeat (first | (with_reducible first | exact HB.out | apply below_alloc | apply pw_below_drewN | apply below_drew1 | refine below_set ?_ GE245.out | refine below_set ?_ GE246.out) | exact HB.out)) hb); clear BK245; clear BK246; clear HB; have BK245 := n0_; have BK246 := n1_; have HB := n2_; clear n0_ n1_ n2_; (try clear hb); (try clear hb2); (try clear hk); (try clear hi)))
 go_ret
 exact ⟨by first | rfl | (simp [errW_none, errW_some] <;> rfl) | (simp [*, errW_none, errW_some] <;> rfl), by repeat (first | (with_reducible first | exact HB.out | apply below_alloc | apply pw_below_drewN | apply below_drew1 | refine below_set ?_ GE245.out | refine below_set ?_ GE246.out) | exact HB.out)⟩
end Go.Proofs.Ytjmlloiolppoiaa.P
end
section
namespace Go.Proofs.Ytjmlloiolppoiaa.P
open Go.RowKit Go.Proofs.YtjmlloiolppoiaaW.PrintWords Go.Proofs.YtjmlloiolppoiaaW.PrintLast Go.Proofs.YtjmlloiolppoiaaW.PrintMore
set_option linter.unusedVariables false
set_option linter.unusedSimpArgs false
attribute [local go_sem high] eqA29
def entaillaw2_awake.f (k : Nat)  : Option (Bool) := (tupl_Parse.f k (⟨#[100, 111, 99, 58, 116, 124, 97, 47, 98, 35, 118, 105, 101, 119, 64, 103, 114, 111, 117, 112, 58, 103, 35, 109, 101, 109, 98, 101, 114]⟩ : ByteArray)).bind fun bt248 => ((tupl_Parse.f k (⟨#[100, 111, 99, 58, 97, 35, 118, 105, 101, 119, 64]⟩ : ByteArray)).bind fun bt256 => (if bt248.2.2.2.2.2.2 = true then (if ((bt248.1.toList == ([100, 111, 99] : List UInt8) && (bt248.2.1.toList == ([116, 124, 97, 47, 98] : List UInt8))) && (bt248.2.2.1.toList == ([118, 105, 101, 119] : List UInt8) && ((bt248.2.2.2.1.toList == ([103, 114, 111, 117, 112] : List UInt8) && (bt248.2.2.2.2.1.toList == ([103] : List UInt8) && (bt248.2.2.2.2.2.1.toList == ([109, 101, 109, 98, 101, 114] : List UInt8))))))) = true then ((tupl_Text.f k bt248.1 bt248.2.1 bt248.2.2.1 bt248.2.2.2.1 bt248.2.2.2.2.1 bt248.2.2.2.2.2.1).bind fun t264 => (if t264.toList = ([100, 111, 99, 58, 116, 124, 97, 47, 98, 35, 118, 105, 101, 119, 64, 103, 114, 111, 117, 112, 58, 103, 35, 109, 101, 109, 98, 101, 114] : List UInt8) then (if bt256.2.2.2.2.2.2 = true then (none) else ((tupl_Ok.f k bt248.1 bt248.2.1 bt248.2.2.1 bt248.2.2.2.1 bt248.2.2.2.2.1 bt248.2.2.2.2.2.1).bind fun t265 => (if t265 = true then ((tupl_Ok.f k (⟨#[]⟩ : ByteArray) (⟨#[]⟩ : ByteArray) (⟨#[]⟩ : ByteArray) (⟨#[]⟩ : ByteArray) (⟨#[]⟩ : ByteArray) (⟨#[]⟩ : ByteArray)).bind fun t266 => (if t266 = true then (none) else ((tupl_Less.f k (⟨#[]⟩ : ByteArray) (⟨#[]⟩ : ByteArray) (⟨#[]⟩ : ByteArray) (⟨#[]⟩ : ByteArray) (⟨#[]⟩ : ByteArray) (⟨#[]⟩ : ByteArray) bt248.1 bt248.2.1 bt248.2.2.1 bt248.2.2.2.1 bt248.2.2.2.2.1 bt248.2.2.2.2.2.1).bind fun t267 => (some t267)))) else (none)))) else (none))) else (none)) else (none)))
theorem entaillaw2_awake.mono : ∀ k, LeO (entaillaw2_awake.f k ) (entaillaw2_awake.f (k + 1) ) := by
 intro  k
 unfold entaillaw2_awake.f
 repeat' first
   | (with_reducible exact tupl_Less.mono _ _ _ _ _ _ _ _ _ _ _ _ _)
   | (with_reducible exact tupl_Ok.mono _ _ _ _ _ _ _)
   | (with_reducible exact tupl_Parse.mono _ _)
   | (with_reducible exact tupl_Text.mono _ _ _ _ _ _ _)
   | (with_reducible exact LeO.refl _)
   | (with_reducible exact LeO.none _)
   | (with_reducible refine LeO.ite ?_ ?_)
   | (with_reducible refine LeO.bind ?_ (fun _ => ?_))
   | exact tupl_Less.mono _ _ _ _ _ _ _ _ _ _ _ _ _
   | exact tupl_Ok.mono _ _ _ _ _ _ _
   | exact tupl_Parse.mono _ _
   | exact tupl_Text.mono _ _ _ _ _ _ _
   | exact LeO.none _
   | refine LeO.ite ?_ ?_
   | refine LeO.bind ?_ (fun _ => ?_)
set_option maxHeartbeats 8000000 in
set_option maxRecDepth 100000 in
theorem entaillaw2_awake.calls (k : Nat)  (r : Bool) (w : World) (h : entaillaw2_awake.f k  = some r) :
  Calls Try.prog 14 #[] w fun e w' => e = .returned (.bool r) ∧ Below w.heap.size w w' := by
 have hu29 := Try.underlying29
 have hu25 := Try.underlying25
 have hu27 := Try.underlying27
 have HB := Aside0.mk (Below.refl w.heap.size w)
 have H : ((tupl_Parse.f k (⟨#[100, 111, 99, 58, 116, 124, 97, 47, 98, 35, 118, 105, 101, 119, 64, 103, 114, 111, 117, 112, 58, 103, 35, 109, 101, 109, 98, 101, 114]⟩ : ByteArray)).bind fun bt248 => ((tupl_Parse.f k (⟨#[100, 111, 99, 58, 97, 35, 118, 105, 101, 119, 64]⟩ : ByteArray)).bind fun bt256 => (if bt248.2.2.2.2.2.2 = true then (if ((bt248.1.toList == ([100, 111, 99] : List UInt8) && (bt248.2.1.toList == ([116, 124, 97, 47, 98] : List UInt8))) && (bt248.2.2.1.toList == ([118, 105, 101, 119] : List UInt8) && ((bt248.2.2.2.1.toList == ([103, 114, 111, 117, 112] : List UInt8) && (bt248.2.2.2.2.1.toList == ([103] : List UInt8) && (bt248.2.2.2.2.2.1.toList == ([109, 101, 109, 98, 101, 114] : List UInt8))))))) = true then ((tupl_Text.f k bt248.1 bt248.2.1 bt248.2.2.1 bt248.2.2.2.1 bt248.2.2.2.2.1 bt248.2.2.2.2.2.1).bind fun t264 => (if t264.toList = ([100, 111, 99, 58, 116, 124, 97, 47, 98, 35, 118, 105, 101, 119, 64, 103, 114, 111, 117, 112, 58, 103, 35, 109, 101, 109, 98, 101, 114] : List UInt8) then (if bt256.2.2.2.2.2.2 = true then (none) else ((tupl_Ok.f k bt248.1 bt248.2.1 bt248.2.2.1 bt248.2.2.2.1 bt248.2.2.2.2.1 bt248.2.2.2.2.2.1).bind fun t265 => (if t265 = true then ((tupl_Ok.f k (⟨#[]⟩ : ByteArray) (⟨#[]⟩ : ByteArray) (⟨#[]⟩ : ByteArray) (⟨#[]⟩ : ByteArray) (⟨#[]⟩ : ByteArray) (⟨#[]⟩ : ByteArray)).bind fun t266 => (if t266 = true then (none) else ((tupl_Less.f k (⟨#[]⟩ : ByteArray) (⟨#[]⟩ : ByteArray) (⟨#[]⟩ : ByteArray) (⟨#[]⟩ : ByteArray) (⟨#[]⟩ : ByteArray) (⟨#[]⟩ : ByteArray) bt248.1 bt248.2.1 bt248.2.2.1 bt248.2.2.2.1 bt248.2.2.2.2.1 bt248.2.2.2.2.2.1).bind fun t267 => (some t267)))) else (none)))) else (none))) else (none)) else (none)))) = some r := h
 clear h
 replace H := Option.bind_eq_some_iff.mp H
 obtain ⟨⟨t248, t249, t250, t251, t252, t253, t254⟩, A10, H⟩ := H
 replace H : ((tupl_Parse.f k (⟨#[100, 111, 99, 58, 97, 35, 118, 105, 101, 119, 64]⟩ : ByteArray)).bind fun bt256 => (if t254 = true then (if ((t248.toList == ([100, 111, 99] : List UInt8) && (t249.toList == ([116, 124, 97, 47, 98] : List UInt8))) && (t250.toList == ([118, 105, 101, 119] : List UInt8) && ((t251.toList == ([103, 114, 111, 117, 112] : List UInt8) && (t252.toList == ([103] : List UInt8) && (t253.toList == ([109, 101, 109, 98, 101, 114] : List UInt8))))))) = true then ((tupl_Text.f k t248 t249 t250 t251 t252 t253).bind fun t264 => (if t264.toList = ([100, 111, 99, 58, 116, 124, 97, 47, 98, 35, 118, 105, 101, 119, 64, 103, 114, 111, 117, 112, 58, 103, 35, 109, 101, 109, 98, 101, 114] : List UInt8) then (if bt256.2.2.2.2.2.2 = true then (none) else ((tupl_Ok.f k t248 t249 t250 t251 t252 t253).bind fun t265 => (if t265 = true then ((tupl_Ok.f k (⟨#[]⟩ : ByteArray) (⟨#[]⟩ : ByteArray) (⟨#[]⟩ : ByteArray) (⟨#[]⟩ : ByteArray) (⟨#[]⟩ : ByteArray) (⟨#[]⟩ : ByteArray)).bind fun t266 => (if t266 = true then (none) else ((tupl_Less.f k (⟨#[]⟩ : ByteArray) (⟨#[]⟩ : ByteArray) (⟨#[]⟩ : ByteArray) (⟨#[]⟩ : ByteArray) (⟨#[]⟩ : ByteArray) (⟨#[]⟩ : ByteArray) t248 t249 t250 t251 t252 t253).bind fun t267 => (some t267)))) else (none)))) else (none))) else (none)) else (none))) = some r := H
 have A1 := Aside0.mk A10
 clear A10
 replace H := Option.bind_eq_some_iff.mp H
 obtain ⟨⟨t256, t257, t258, t259, t260, t261, t262⟩, A20, H⟩ := H
 replace H : (if t254 = true then (if ((t248.toList == ([100, 111, 99] : List UInt8) && (t249.toList == ([116, 124, 97, 47, 98] : List UInt8))) && (t250.toList == ([118, 105, 101, 119] : List UInt8) && ((t251.toList == ([103, 114, 111, 117, 112] : List UInt8) && (t252.toList == ([103] : List UInt8) && (t253.toList == ([109, 101, 109, 98, 101, 114] : List UInt8))))))) = true then ((tupl_Text.f k t248 t249 t250 t251 t252 t253).bind fun t264 => (if t264.toList = ([100, 111, 99, 58, 116, 124, 97, 47, 98, 35, 118, 105, 101, 119, 64, 103, 114, 111, 117, 112, 58, 103, 35, 109, 101, 109, 98, 101, 114] : List UInt8) then (if t262 = true then (none) else ((tupl_Ok.f k t248 t249 t250 t251 t252 t253).bind fun t265 => (if t265 = true then ((tupl_Ok.f k (⟨#[]⟩ : ByteArray) (⟨#[]⟩ : ByteArray) (⟨#[]⟩ : ByteArray) (⟨#[]⟩ : ByteArray) (⟨#[]⟩ : ByteArray) (⟨#[]⟩ : ByteArray)).bind fun t266 => (if t266 = true then (none) else ((tupl_Less.f k (⟨#[]⟩ : ByteArray) (⟨#[]⟩ : ByteArray) (⟨#[]⟩ : ByteArray) (⟨#[]⟩ : ByteArray) (⟨#[]⟩ : ByteArray) (⟨#[]⟩ : ByteArray) t248 t249 t250 t251 t252 t253).bind fun t267 => (some t267)))) else (none)))) else (none))) else (none)) else (none)) = some r := H
 have A2 := Aside0.mk A20
 clear A20
 by_cases c3 : t254 = true
 ·subst c3
  have H1 : (if ((t248.toList == ([100, 111, 99] : List UInt8) && (t249.toList == ([116, 124, 97, 47, 98] : List UInt8))) && (t250.toList == ([118, 105, 101, 119] : List UInt8) && ((t251.toList == ([103, 114, 111, 117, 112] : List UInt8) && (t252.toList == ([103] : List UInt8) && (t253.toList == ([109, 101, 109, 98, 101, 114] : List UInt8))))))) = true then ((tupl_Text.f k t248 t249 t250 t251 t252 t253).bind fun t264 => (if t264.toList = ([100, 111, 99, 58, 116, 124, 97, 47, 98, 35, 118, 105, 101, 119, 64, 103, 114, 111, 117, 112, 58, 103, 35, 109, 101, 109, 98, 101, 114] : List UInt8) then (if t262 = true then (none) else ((tupl_Ok.f k t248 t249 t250 t251 t252 t253).bind fun t265 => (if t265 = true then ((tupl_Ok.f k (⟨#[]⟩ : ByteArray) (⟨#[]⟩ : ByteArray) (⟨#[]⟩ : ByteArray) (⟨#[]⟩ : ByteArray) (⟨#[]⟩ : ByteArray) (⟨#[]⟩ : ByteArray)).bind fun t266 => (if t266 = true then (none) else ((tupl_Less.f k (⟨#[]⟩ : ByteArray) (⟨#[]⟩ : ByteArray) (⟨#[]⟩ : ByteArray) (⟨#[]⟩ : ByteArray) (⟨#[]⟩ : ByteArray) (⟨#[]⟩ : ByteArray) t248 t249 t250 t251 t252 t253).bind fun t267 => (some t267)))) else (none)))) else (none))) else (none)) = some r := by rw [if_pos rfl] at H; exact H
  clear H
  have H := H1
  clear H1
  by_cases c4 : ((t248.toList == ([100, 111, 99] : List UInt8) && (t249.toList == ([116, 124, 97, 47, 98] : List UInt8))) && (t250.toList == ([118, 105, 101, 119] : List UInt8) && ((t251.toList == ([103, 114, 111, 117, 112] : List UInt8) && (t252.toList == ([103] : List UInt8) && (t253.toList == ([109, 101, 109, 98, 101, 114] : List UInt8))))))) = true
  ·rw [if_pos c4] at H
   have c4b0 : ((t248.toList == ([100, 111, 99] : List UInt8) && (t249.toList == ([116, 124, 97, 47, 98] : List UInt8))) && (t250.toList == ([118, 105, 101, 119] : List UInt8) && ((t251.toList == ([103, 114, 111, 117, 112] : List UInt8) && (t252.toList == ([103] : List UInt8) && (t253.toList == ([109, 101, 109, 98, 101, 114] : List UInt8))))))) = true := c4
   clear c4
   replace H := Option.bind_eq_some_iff.mp H
   obtain ⟨t264, A50, H⟩ := H
   replace H : (if t264.toList = ([100, 111, 99, 58, 116, 124, 97, 47, 98, 35, 118, 105, 101, 119, 64, 103, 114, 111, 117, 112, 58, 103, 35, 109, 101, 109, 98, 101, 114] : List UInt8) then (if t262 = true then (none) else ((tupl_Ok.f k t248 t249 t250 t251 t252 t253).bind fun t265 => (if t265 = true then ((tupl_Ok.f k (⟨#[]⟩ : ByteArray) (⟨#[]⟩ : ByteArray) (⟨#[]⟩ : ByteArray) (⟨#[]⟩ : ByteArray) (⟨#[]⟩ : ByteArray) (⟨#[]⟩ : ByteArray)).bind fun t266 => (if t266 = true then (none) else ((tupl_Less.f k (⟨#[]⟩ : ByteArray) (⟨#[]⟩ : ByteArray) (⟨#[]⟩ : ByteArray) (⟨#[]⟩ : ByteArray) (⟨#[]⟩ : ByteArray) (⟨#[]⟩ : ByteArray) t248 t249 t250 t251 t252 t253).bind fun t267 => (some t267)))) else (none)))) else (none)) = some r := H
   have A5 := Aside0.mk A50
   clear A50
   by_cases c6 : t264.toList = ([100, 111, 99, 58, 116, 124, 97, 47, 98, 35, 118, 105, 101, 119, 64, 103, 114, 111, 117, 112, 58, 103, 35, 109, 101, 109, 98, 101, 114] : List UInt8)
   ·rw [if_pos c6] at H
    have c6b0 : (t264.toList == ([100, 111, 99, 58, 116, 124, 97, 47, 98, 35, 118, 105, 101, 119, 64, 103, 114, 111, 117, 112, 58, 103, 35, 109, 101, 109, 98, 101, 114] : List UInt8)) = true := beq_iff_eq.mpr c6
    have c6b1 : (t264.toList != ([100, 111, 99, 58, 116, 124, 97, 47, 98, 35, 118, 105, 101, 119, 64, 103, 114, 111, 117, 112, 58, 103, 35, 109, 101, 109, 98, 101, 114] : List UInt8)) = false := bne_eq_false_iff_eq.mpr c6
    clear c6
    by_cases c7 : t262 = true
    ·subst c7
     have H1 : (none) = some r := by rw [if_pos rfl] at H; exact H
     clear H
     have H := H1
     clear H1
     exact absurd H (by simp)
    ·replace c7 := Bool.eq_false_iff.mpr c7
     subst c7
     have H1 : ((tupl_Ok.f k t248 t249 t250 t251 t252 t253).bind fun t265 => (if t265 = true then ((tupl_Ok.f k (⟨#[]⟩ : ByteArray) (⟨#[]⟩ : ByteArray) (⟨#[]⟩ : ByteArray) (⟨#[]⟩ : ByteArray) (⟨#[]⟩ : ByteArray) (⟨#[]⟩ : ByteArray)).bind fun t266 => (if t266 = true then (none) else ((tupl_Less.f k (⟨#[]⟩ : ByteArray) (⟨#[]⟩ : ByteArray) (⟨#[]⟩ : ByteArray) (⟨#[]⟩ : ByteArray) (⟨#[]⟩ : ByteArray) (⟨#[]⟩ : ByteArray) t248 t249 t250 t251 t252 t253).bind fun t267 => (some t267)))) else (none))) = some r := by rw [if_neg (show ¬ (false = true) by decide)] at H; exact H
     clear H
     have H := H1
     clear H1
     replace H := Option.bind_eq_some_iff.mp H
     obtain ⟨t265, A80, H⟩ := H
     replace H : (if t265 = true then ((tupl_Ok.f k (⟨#[]⟩ : ByteArray) (⟨#[]⟩ : ByteArray) (⟨#[]⟩ : ByteArray) (⟨#[]⟩ : ByteArray) (⟨#[]⟩ : ByteArray) (⟨#[]⟩ : ByteArray)).bind fun t266 => (if t266 = true then (none) else ((tupl_Less.f k (⟨#[]⟩ : ByteArray) (⟨#[]⟩ : ByteArray) (⟨#[]⟩ : ByteArray) (⟨#[]⟩ : ByteArray) (⟨#[]⟩ : ByteArray) (⟨#[]⟩ : ByteArray) t248 t249 t250 t251 t252 t253).bind fun t267 => (some t267)))) else (none)) = some r := H
     have A8 := Aside0.mk A80
     clear A80
     by_cases c9 : t265 = true
     ·subst c9
      have H1 : ((tupl_Ok.f k (⟨#[]⟩ : ByteArray) (⟨#[]⟩ : ByteArray) (⟨#[]⟩ : ByteArray) (⟨#[]⟩ : ByteArray) (⟨#[]⟩ : ByteArray) (⟨#[]⟩ : ByteArray)).bind fun t266 => (if t266 = true then (none) else ((tupl_Less.f k (⟨#[]⟩ : ByteArray) (⟨#[]⟩ : ByteArray) (⟨#[]⟩ : ByteArray) (⟨#[]⟩ : ByteArray) (⟨#[]⟩ : ByteArray) (⟨#[]⟩ : ByteArray) t248 t249 t250 t251 t252 t253).bind fun t267 => (some t267)))) = some r := by rw [if_pos rfl] at H; exact H
      clear H
      have H := H1
      clear H1
      replace H := Option.bind_eq_some_iff.mp H
      obtain ⟨t266, A100, H⟩ := H
      replace H : (if t266 = true then (none) else ((tupl_Less.f k (⟨#[]⟩ : ByteArray) (⟨#[]⟩ : ByteArray) (⟨#[]⟩ : ByteArray) (⟨#[]⟩ : ByteArray) (⟨#[]⟩ : ByteArray) (⟨#[]⟩ : ByteArray) t248 t249 t250 t251 t252 t253).bind fun t267 => (some t267))) = some r := H
      have A10 := Aside0.mk A100
      clear A100
      by_cases c11 : t266 = true
      ·subst c11
       have H1 : (none) = some r := by rw [if_pos rfl] at H; exact H
       clear H
       have H := H1
       clear H1
       exact absurd H (by simp)
      ·replace c11 := Bool.eq_false_iff.mpr c11
       subst c11
       have H1 : ((tupl_Less.f k (⟨#[]⟩ : ByteArray) (⟨#[]⟩ : ByteArray) (⟨#[]⟩ : ByteArray) (⟨#[]⟩ : ByteArray) (⟨#[]⟩ : ByteArray) (⟨#[]⟩ : ByteArray) t248 t249 t250 t251 t252 t253).bind fun t267 => (some t267)) = some r := by rw [if_neg (show ¬ (false = true) by decide)] at H; exact H
       clear H
       have H := H1
       clear H1
       replace H := Option.bind_eq_some_iff.mp H
       obtain ⟨t267, A120, H⟩ := H
       replace H : (some t267) = some r := H
       have A12 := Aside0.mk A120
       clear A120
       obtain rfl := Option.some.inj H
       go_enter Try.func14, Try.ntmps14
       go_wp2_with (first | ((with_reducible refine gate_callee (f := 12) rfl ?_); refine goesL_ (some 6) rfl rfl Try.func12 (by kernel_rfl) rfl #[.string (⟨#[100, 111, 99, 58, 116, 124, 97, 47, 98, 35, 118, 105, 101, 119, 64, 103, 114, 111, 117, 112, 58, 103, 35, 109, 101, 109, 98, 101, 114]⟩ : ByteArray)] rfl (by (try simp only [List.map_toArray, List.map_cons, List.map_nil]); first | done | rfl | (simp only [List.length_drop, List.length_take]; rfl)) ?_; (with_reducible refine (tupl_Parse.calls k (⟨#[100, 111, 99, 58, 116, 124, 97, 47, 98, 35, 118, 105, 101, 119, 64, 103, 114, 111, 117, 112, 58, 103, 35, 109, 101, 109, 98, 101, 114]⟩ : ByteArray) t248 t249 t250 t251 t252 t253 true _ A1.out).mono ?_); rintro e w13 ⟨rfl, hb⟩; refine ⟨_, rfl, ?_⟩; have n0_ := Aside0.mk (below_step (by repeat (first | (with_reducible first | exact HB.out | apply below_alloc | apply pw_below_drewN | apply below_drew1) | exact HB.out)) hb); clear HB; have HB := n0_; clear n0_; (try clear hb); (try clear hb2); (try clear hk); (try clear hi)) | ((with_reducible refine gate_dst (N := 1) rfl ?_); refine box_event ?hg (N := 1) ?hd (cs := #[.string (⟨#[]⟩ : ByteArray), .string (⟨#[]⟩ : ByteArray), .string (⟨#[]⟩ : ByteArray), .string (⟨#[]⟩ : ByteArray), .string (⟨#[]⟩ : ByteArray), .string (⟨#[]⟩ : ByteArray)]) (t := 29) ?hr ?_; (case hd => rfl); (case hg => rfl); (case hr => first | (go_simp; done) | (go_simp; rfl)); intro gb255 hg w14 hbox hb; have n0_ := Aside0.mk (below_step (by repeat (first | (with_reducible first | exact HB.out | apply below_alloc | apply pw_below_drewN | apply below_drew1) | exact HB.out)) hb); have n1_ := Aside0.mk (hbox); have n2_ := Aside0.mk ((by rw [hg]; exact (below_size (by repeat (first | (with_reducible first | exact HB.out | apply below_alloc | apply pw_below_drewN | apply below_drew1) | exact HB.out))) : w.heap.size ≤ gb255)); have n3_ := Aside0.mk ((by rw [hg]; exact (below_size (by repeat (first | (with_reducible first | exact HB.out | apply below_alloc | apply pw_below_drewN | apply below_drew1) | exact HB.out))) : w.heap.size ≤ gb255)); clear HB; have HB := n0_; have BK255 := n1_; have GW255 := n2_; have GE255 := n3_; clear n0_ n1_ n2_ n3_; clear hb hbox hg; have hcz15_0 : w14.cell? ⟨gb255, 0, none⟩ = some (.string (⟨#[]⟩ : ByteArray)) := (blk_cell BK255.out 0).trans rfl; have hcz15_1 : w14.cell? ⟨gb255, 1, none⟩ = some (.string (⟨#[]⟩ : ByteArray)) := (blk_cell BK255.out 1).trans rfl; have hcz15_2 : w14.cell? ⟨gb255, 2, none⟩ = some (.string (⟨#[]⟩ : ByteArray)) := (blk_cell BK255.out 2).trans rfl; have hcz15_3 : w14.cell? ⟨gb255, 3, none⟩ = some (.string (⟨#[]⟩ : ByteArray)) := (blk_cell BK255.out 3).trans rfl; have hcz15_4 : w14.cell? ⟨gb255, 4, none⟩ = some (.string (⟨#[]⟩ : ByteArray)) := (blk_cell BK255.out 4).trans rfl; have hcz15_5 : w14.cell? ⟨gb255, 5, none⟩ = some (.string (⟨#[]⟩ : ByteArray)) := (blk_cell BK255.out 5).trans rfl; have hfz15_0 := blk_frozen BK255.out 0; have hfz15_1 := blk_frozen BK255.out 1; have hfz15_2 := blk_frozen BK255.out 2; have hfz15_3 := blk_frozen BK255.out 3; have hfz15_4 := blk_frozen BK255.out 4; have hfz15_5 := blk_frozen BK255.out 5) | ((with_reducible refine gate_callee (f := 12) rfl ?_); refine goesL_ (some 10) rfl rfl Try.func12 (by kernel_rfl) rfl #[.string (⟨#[100, 111, 99, 58, 97, 35, 118, 105, 101, 119, 64]⟩ : ByteArray)] rfl (by (try simp only [List.map_toArray, List.map_cons, List.map_nil]); first | done | rfl | (simp only [List.length_drop, List.length_take]; rfl)) ?_; (with_reducible refine (tupl_Parse.calls k (⟨#[100, 111, 99, 58, 97, 35, 118, 105, 101, 119, 64]⟩ : ByteArray) t256 t257 t258 t259 t260 t261 false _ A2.out).mono ?_); rintro e w16 ⟨rfl, hb⟩; refine ⟨_, rfl, ?_⟩; have n0_ := Aside0.mk (blk_below (g := gb255) (o := .cells #[.string t248, .string t249, .string t250, .string t251, .string t252, .string t253] 29 (0, 0)) (by (with_reducible repeat (first | refine blk_drewN ?_ _ | refine blk_drew ?_ | refine blk_alloc ?_ _)); refine blk_put (cs := #[.string t248, .string t249, .string t250, .string t251, .string t252, .string (⟨#[]⟩ : ByteArray)]) ?_ 5 _ rfl; (with_reducible repeat (first | refine blk_drewN ?_ _ | refine blk_drew ?_ | refine blk_alloc ?_ _)); refine blk_put (cs := #[.string t248, .string t249, .string t250, .string t251, .string (⟨#[]⟩ : ByteArray), .string (⟨#[]⟩ : ByteArray)]) ?_ 4 _ rfl; (with_reducible repeat (first | refine blk_drewN ?_ _ | refine blk_drew ?_ | refine blk_alloc ?_ _)); refine blk_put (cs := #[.string t248, .string t249, .string t250, .string (⟨#[]⟩ : ByteArray), .string (⟨#[]⟩ : ByteArray), .string (⟨#[]⟩ : ByteArray)]) ?_ 3 _ rfl; (with_reducible repeat (first | refine blk_drewN ?_ _ | refine blk_drew ?_ | refine blk_alloc ?_ _)); refine blk_put (cs := #[.string t248, .string t249, .string (⟨#[]⟩ : ByteArray), .string (⟨#[]⟩ : ByteArray), .string (⟨#[]⟩ : ByteArray), .string (⟨#[]⟩ : ByteArray)]) ?_ 2 _ rfl; (with_reducible repeat (first | refine blk_drewN ?_ _ | refine blk_drew ?_ | refine blk_alloc ?_ _)); refine blk_put (cs := #[.string t248, .string (⟨#[]⟩ : ByteArray), .string (⟨#[]⟩ : ByteArray), .string (⟨#[]⟩ : ByteArray), .string (⟨#[]⟩ : ByteArray), .string (⟨#[]⟩ : ByteArray)]) ?_ 1 _ rfl; (with_reducible repeat (first | refine blk_drewN ?_ _ | refine blk_drew ?_ | refine blk_alloc ?_ _)); refine blk_put (cs := #[.string (⟨#[]⟩ : ByteArray), .string (⟨#[]⟩ : ByteArray), .string (⟨#[]⟩ : ByteArray), .string (⟨#[]⟩ : ByteArray), .string (⟨#[]⟩ : ByteArray), .string (⟨#[]⟩ : ByteArray)]) ?_ 0 _ rfl; (with_reducible repeat (first | refine blk_drewN ?_ _ | refine blk_drew ?_ | refine blk_alloc ?_ _)); exact BK255.out) hb); have n1_ := Aside0.mk (below_step (by repeat (first | (with_reducible first | exact HB.out | apply below_alloc | apply pw_below_drewN | apply below_drew1 | refine below_set ?_ GE255.out) | exact HB.out)) hb); clear BK255; clear HB; have BK255 := n0_; have HB := n1_; clear n0_ n1_; (try clear hb); (try clear hb2); (try clear hk); (try clear hi)) | ((with_reducible refine gate_dst (N := 3) rfl ?_); refine box_event ?hg (N := 3) ?hd (cs := #[.string (⟨#[]⟩ : ByteArray), .string (⟨#[]⟩ : ByteArray), .string (⟨#[]⟩ : ByteArray), .string (⟨#[]⟩ : ByteArray), .string (⟨#[]⟩ : ByteArray), .string (⟨#[]⟩ : ByteArray)]) (t := 29) ?hr ?_; (case hd => rfl); (case hg => rfl); (case hr => first | (go_simp; done) | (go_simp; rfl)); intro gb263 hg w17 hbox hb; have n0_ := Aside0.mk (blk_below (g := gb255) (o := .cells #[.string t248, .string t249, .string t250, .string t251, .string t252, .string t253] 29 (0, 0)) (by (with_reducible repeat (first | refine blk_drewN ?_ _ | refine blk_drew ?_ | refine blk_alloc ?_ _)); exact BK255.out) hb); have n1_ := Aside0.mk (below_step (by repeat (first | (with_reducible first | exact HB.out | apply below_alloc | apply pw_below_drewN | apply below_drew1 | refine below_set ?_ GE255.out) | exact HB.out)) hb); have n2_ := Aside0.mk (hbox); have n3_ := Aside0.mk ((by rw [hg]; exact (below_size (by repeat (first | (with_reducible first | exact HB.out | apply below_alloc | apply pw_below_drewN | apply below_drew1 | refine below_set ?_ GE255.out) | exact HB.out))) : w.heap.size ≤ gb263)); have n4_ := Aside0.mk ((by rw [hg]; exact (below_size (by repeat (first | (with_reducible first | exact HB.out | apply below_alloc | apply pw_below_drewN | apply below_drew1 | refine below_set ?_ GE255.out) | exact HB.out))) : w.heap.size ≤ gb263)); have n5_ := Aside0.mk ((by rw [hg]; exact Nat.ne_of_lt (blk_lt (g := gb255) (o := .cells #[.string t248, .string t249, .string t250, .string t251, .string t252, .string t253] 29 (0, 0)) (by (with_reducible repeat (first | refine blk_drewN ?_ _ | refine blk_drew ?_ | refine blk_alloc ?_ _)); exact BK255.out)) : gb255 ≠ gb263)); have n6_ := Aside0.mk ((by rw [hg]; exact Nat.ne_of_gt (blk_lt (g := gb255) (o := .cells #[.string t248, .string t249, .string t250, .string t251, .string t252, .string t253] 29 (0, 0)) (by (with_reducible repeat (first | refine blk_drewN ?_ _ | refine blk_drew ?_ | refine blk_alloc ?_ _)); exact BK255.out)) : gb263 ≠ gb255)); clear BK255; clear HB; have BK255 := n0_; have HB := n1_; have BK263 := n2_; have GW263 := n3_; have GE263 := n4_; have NB255_263 := n5_; have NB263_255 := n6_; clear n0_ n1_ n2_ n3_ n4_ n5_ n6_; clear hb hbox hg; have hnb18 := NB263_255.out; have hnc18 := NB255_263.out; have hcz19_0 : w17.cell? ⟨gb263, 0, none⟩ = some (.string (⟨#[]⟩ : ByteArray)) := (blk_cell BK263.out 0).trans rfl; have hcz19_1 : w17.cell? ⟨gb263, 1, none⟩ = some (.string (⟨#[]⟩ : ByteArray)) := (blk_cell BK263.out 1).trans rfl; have hcz19_2 : w17.cell? ⟨gb263, 2, none⟩ = some (.string (⟨#[]⟩ : ByteArray)) := (blk_cell BK263.out 2).trans rfl; have hcz19_3 : w17.cell? ⟨gb263, 3, none⟩ = some (.string (⟨#[]⟩ : ByteArray)) := (blk_cell BK263.out 3).trans rfl; have hcz19_4 : w17.cell? ⟨gb263, 4, none⟩ = some (.string (⟨#[]⟩ : ByteArray)) := (blk_cell BK263.out 4).trans rfl; have hcz19_5 : w17.cell? ⟨gb263, 5, none⟩ = some (.string (⟨#[]⟩ : ByteArray)) := (blk_cell BK263.out 5).trans rfl; have hfz19_0 := blk_frozen BK263.out 0; have hfz19_1 := blk_frozen BK263.out 1; have hfz19_2 := blk_frozen BK263.out 2; have hfz19_3 := blk_frozen BK263.out 3; have hfz19_4 := blk_frozen BK263.out 4; have hfz19_5 := blk_frozen BK263.out 5; have hcz20_0 : w17.cell? ⟨gb255, 0, none⟩ = some (.string t248) := (blk_cell BK255.out 0).trans rfl; have hcz20_1 : w17.cell? ⟨gb255, 1, none⟩ = some (.string t249) := (blk_cell BK255.out 1).trans rfl; have hcz20_2 : w17.cell? ⟨gb255, 2, none⟩ = some (.string t250) := (blk_cell BK255.out 2).trans rfl; have hcz20_3 : w17.cell? ⟨gb255, 3, none⟩ = some (.string t251) := (blk_cell BK255.out 3).trans rfl; have hcz20_4 : w17.cell? ⟨gb255, 4, none⟩ = some (.string t252) := (blk_cell BK255.out 4).trans rfl; have hcz20_5 : w17.cell? ⟨gb255, 5, none⟩ = some (.string t253) := (blk_cell BK255.out 5).trans rfl; have hfz20_0 := blk_frozen BK255.out 0; have hfz20_1 := blk_frozen BK255.out 1; have hfz20_2 := blk_frozen BK255.out 2; have hfz20_3 := blk_frozen BK255.out 3; have hfz20_4 := blk_frozen BK255.out 4; have hfz20_5 := blk_frozen BK255.out 5) | (go_at_call 13; (with_reducible refine (tupl_Text.calls k t248 t249 t250 t251 t252 t253 t264 _ A5.out).mono ?_); rintro e w21 ⟨rfl, hb⟩; have n0_ := Aside0.mk (blk_below (g := gb255) (o := .cells #[.string t248, .string t249, .string t250, .string t251, .string t252, .string t253] 29 (0, 0)) (by (with_reducible repeat (first | refine blk_drewN ?_ _ | refine blk_drew ?_ | refine blk_alloc ?_ _)); refine blk_far ?_ NB255_263.out _; (with_reducible repeat (first | refine blk_drewN ?_ _ | refine blk_drew ?_ | refine blk_alloc ?_ _)); refine blk_far ?_ NB255_263.out _; (with_reducible repeat (first | refine blk_drewN ?_ _ | refine blk_drew ?_ | refine blk_alloc ?_ _)); refine blk_far ?_ NB255_263.out _; (with_reducible repeat (first | refine blk_drewN ?_ _ | refine blk_drew ?_ | refine blk_alloc ?_ _)); refine blk_far ?_ NB255_263.out _; (with_reducible repeat (first | refine blk_drewN ?_ _ | refine blk_drew ?_ | refine blk_alloc ?_ _)); refine blk_far ?_ NB255_263.out _; (with_reducible repeat (first | refine blk_drewN ?_ _ | refine blk_drew ?_ | refine blk_alloc ?_ _)); refine blk_far ?_ NB255_263.out _; (with_reducible repeat (first | refine blk_drewN ?_ _ | refine blk_drew ?_ | refine blk_alloc ?_ _)); exact BK255.out) hb); have n1_ := Aside0.mk (blk_below (g := gb263) (o := .cells #[.string t256, .string t257, .string t258, .string t259, .string t260, .string t261] 29 (0, 0)) (by (with_reducible repeat (first | refine blk_drewN ?_ _ | refine blk_drew ?_ | refine blk_alloc ?_ _)); refine blk_put (cs := #[.string t256, .string t257, .string t258, .string t259, .string t260, .string (⟨#[]⟩ : ByteArray)]) ?_ 5 _ rfl; (with_reducible repeat (first | refine blk_drewN ?_ _ | refine blk_drew ?_ | refine blk_alloc ?_ _)); refine blk_put (cs := #[.string t256, .string t257, .string t258, .string t259, .string (⟨#[]⟩ : ByteArray), .string (⟨#[]⟩ : ByteArray)]) ?_ 4 _ rfl; (with_reducible repeat (first | refine blk_drewN ?_ _ | refine blk_drew ?_ | refine blk_alloc ?_ _)); refine blk_put (cs := #[.string t256, .string t257, .string t258, .string (⟨#[]⟩ : ByteArray), .string (⟨#[]⟩ : ByteArray), .string (⟨#[]⟩ : ByteArray)]) ?_ 3 _ rfl; (with_reducible repeat (first | refine blk_drewN ?_ _ | refine blk_drew ?_ | refine blk_alloc ?_ _)); refine blk_put (cs := #[.string t256, .string t257, .string (⟨#[]⟩ : ByteArray), .string (⟨#[]⟩ : ByteArray), .string (⟨#[]⟩ : ByteArray), .string (⟨#[]⟩ : ByteArray)]) ?_ 2 _ rfl; (with_reducible repeat (first | refine blk_drewN ?_ _ | refine blk_drew ?_ | refine blk_alloc ?_ _)); refine blk_put (cs := #[.string t256, .string (⟨#[]⟩ : ByteArray), .string (⟨#[]⟩ : ByteArray), .string (⟨#[]⟩ : ByteArray), .string (⟨#[]⟩ : ByteArray), .string (⟨#[]⟩ : ByteArray)]) ?_ 1 _ rfl; (with_reducible repeat (first | refine blk_drewN ?_ _ | refine blk_drew ?_ | refine blk_alloc ?_ _)); refine blk_put (cs := #[.string (⟨#[]⟩ : ByteArray), .string (⟨#[]⟩ : ByteArray), .string (⟨#[]⟩ : ByteArray), .string (⟨#[]⟩ : ByteArray), .string (⟨#[]⟩ : ByteArray), .string (⟨#[]⟩ : ByteArray)]) ?_ 0 _ rfl; (with_reducible repeat (first | refine blk_drewN ?_ _ | refine blk_drew ?_ | refine blk_alloc ?_ _)); exact BK263.out) hb); have n2_ := Aside0.mk (below_step (by repeat (first | (with_reducible first | exact HB.out | apply below_alloc | apply pw_below_drewN | apply below_drew1 | refine below_set ?_ GE255.out | refine below_set ?_ GE263.out) | exact HB.out)) hb); clear BK255; clear BK263; clear HB; have BK255 := n0_; have BK263 := n1_; have HB := n2_; clear n0_ n1_ n2_; (try clear hb); (try clear hb2); (try clear hk); (try clear hi); have hcz22_0 : w21.cell? ⟨gb255, 0, none⟩ = some (.string t248) := (blk_cell BK255.out 0).trans rfl; have hcz22_1 : w21.cell? ⟨gb255, 1, none⟩ = some (.string t249) := (blk_cell BK255.out 1).trans rfl; have hcz22_2 : w21.cell? ⟨gb255, 2, none⟩ = some (.string t250) := (blk_cell BK255.out 2).trans rfl; have hcz22_3 : w21.cell? ⟨gb255, 3, none⟩ = some (.string t251) := (blk_cell BK255.out 3).trans rfl; have hcz22_4 : w21.cell? ⟨gb255, 4, none⟩ = some (.string t252) := (blk_cell BK255.out 4).trans rfl; have hcz22_5 : w21.cell? ⟨gb255, 5, none⟩ = some (.string t253) := (blk_cell BK255.out 5).trans rfl; have hfz22_0 := blk_frozen BK255.out 0; have hfz22_1 := blk_frozen BK255.out 1; have hfz22_2 := blk_frozen BK255.out 2; have hfz22_3 := blk_frozen BK255.out 3; have hfz22_4 := blk_frozen BK255.out 4; have hfz22_5 := blk_frozen BK255.out 5) | (go_at_call 19; (with_reducible refine (tupl_Ok.calls k t248 t249 t250 t251 t252 t253 true _ A8.out).mono ?_); rintro e w23 ⟨rfl, hb⟩; have n0_ := Aside0.mk (blk_below (g := gb255) (o := .cells #[.string t248, .string t249, .string t250, .string t251, .string t252, .string t253] 29 (0, 0)) (by (with_reducible repeat (first | refine blk_drewN ?_ _ | refine blk_drew ?_ | refine blk_alloc ?_ _)); exact BK255.out) hb); have n1_ := Aside0.mk (blk_below (g := gb263) (o := .cells #[.string t256, .string t257, .string t258, .string t259, .string t260, .string t261] 29 (0, 0)) (by (with_reducible repeat (first | refine blk_drewN ?_ _ | refine blk_drew ?_ | refine blk_alloc ?_ _)); exact BK263.out) hb); have n2_ := Aside0.mk (below_step (by repeat (first | (with_reducible first | exact HB.out | apply below_alloc | apply pw_below_drewN | apply below_drew1 | refine below_set ?_ GE255.out | refine below_set ?_ GE263.out) | exact HB.out)) hb); clear BK255; clear BK263; clear HB; have BK255 := n0_; have BK263 := n1_; have HB := n2_; clear n0_ n1_ n2_; (try clear hb); (try clear hb2); (try clear hk); (try clear hi)) | (go_at_call 19; (with_reducible refine (tupl_Ok.calls k (⟨#[]⟩ : ByteArray) (⟨#[]⟩ : ByteArray) (⟨#[]⟩ : ByteArray) (⟨#[]⟩ : ByteArray) (⟨#[]⟩ : ByteArray) (⟨#[]⟩ : ByteArray) false _ A10.out).mono ?_); rintro e w24 ⟨rfl, hb⟩; have n0_ := Aside0.mk (blk_below (g := gb255) (o := .cells #[.string t248, .string t249, .string t250, .string t251, .string t252, .string t253] 29 (0, 0)) (by (with_reducible repeat (first | refine blk_drewN ?_ _ | refine blk_drew ?_ | refine blk_alloc ?_ _)); exact BK255.out) hb); have n1_ := Aside0.mk (blk_below (g := gb263) (o := .cells #[.string t256, .string t257, .string t258, .string t259, .string t260, .string t261] 29 (0, 0)) (by (with_reducible repeat (first | refine blk_drewN ?_ _ | refine blk_drew ?_ | refine blk_alloc ?_ _)); exact BK263.out) hb); have n2_ := Aside0.mk (below_step (by repeat (first | (with_reducible first | exact HB.out | apply below_alloc | apply pw_below_drewN | apply below_drew1 | refine below_set ?_ GE255.out | refine below_set ?_ GE263.out) | exact HB.out)) hb); clear BK255; clear BK263; clear HB; have BK255 := n0_; have BK263 := n1_; have HB := n2_; clear n0_ n1_ n2_; (try clear hb); (try clear hb2); (try clear hk); (try clear hi); have hcz25_0 : w24.cell? ⟨gb255, 0, none⟩ = some (.string t248) := (blk_cell BK255.out 0).trans rfl; have hcz25_1 : w24.cell? ⟨gb255, 1, none⟩ = some (.string t249) := (blk_cell BK255.out 1).trans rfl; have hcz25_2 : w24.cell? ⟨gb255, 2, none⟩ = some (.string t250) := (blk_cell BK255.out 2).trans rfl; have hcz25_3 : w24.cell? ⟨gb255, 3, none⟩ = some (.string t251) := (blk_cell BK255.out 3).trans rfl; have hcz25_4 : w24.cell? ⟨gb255, 4, none⟩ = some (.string t252) := (blk_cell BK255.out 4).trans rfl; have hcz25_5 : w24.cell? ⟨gb255, 5, none⟩ = some (.string t253) := (blk_cell BK255.out 5).trans rfl; have hfz25_0 := blk_frozen BK255.out 0; have hfz25_1 := blk_frozen BK255.out 1; have hfz25_2 := blk_frozen BK255.out 2; have hfz25_3 := blk_frozen BK255.out 3; have hfz25_4 := blk_frozen BK255.out 4; have hfz25_5 := blk_frozen BK255.out 5) | (go_at_call 16; (with_reducible refine (tupl_Less.calls k (⟨#[]⟩ : ByteArray) (⟨#[]⟩ : ByteArray) (⟨#[]⟩ : ByteArray) (⟨#[]⟩ : ByteArray) (⟨#[]⟩ : ByteArray) (⟨#[]⟩ : ByteArray) t248 t249 t250 t251 t252 t253 t267 _ A12.out).mono ?_); rintro e w26 ⟨rfl, hb⟩; have n0_ := Aside0.mk (blk_below (g := gb255) (o := .cells #[.string t248, .string t249, .string t250, .string t251, .string t252, .string t253] 29 (0, 0)) (by (with_reducible repeat (first | refine blk_drewN ?_ _ | refine blk_drew ?_ | refine blk_alloc ?_ _)); exact BK255.out) hb); have n1_ := Aside0.mk (blk_below (g := gb263) (o := .cells #[.string t256, .string t257, .string t258, .string t259, .string t260, .string t261] 29 (0, 0)) (by (with_reducible repeat (first | refine blk_drewN ?_ _ | refine blk_drew ?_ | refine blk_alloc ?_ _)); exact BK263.out) hb); have n2_ := Aside0.mk (below_step (by repeat (first | (with_reducible first | exact HB.out | apply below_alloc | apply pw_below_drewN | apply below_drew1 | refine below_set ?_ GE255.out | refine below_set ?_ GE263.out) | exact HB.out)) hb); clear BK255; clear BK263; clear HB; have BK255 := n0_; have BK263 := n1_; have HB := n2_; clear n0_ n1_ n2_; (try clear hb); (try clear hb2); (try clear hk); (try clear hi)))
       go_ret
       exact ⟨by first | rfl | (simp [errW_none, errW_some] <;> rfl) | (simp [*, errW_none, errW_some] <;> rfl), by repeat (first | (with_reducible first | exact HB.out | apply below_alloc | apply pw_below_drewN | apply below_drew1 | refine below_set ?_ GE255.out | refine below_set ?_ GE263.out) | exact HB.out)⟩
     ·replace c9 := Bool.eq_false_iff.mpr c9
      subst c9
      have H1 : (none) = some r := by rw [if_neg (show ¬ (false = true) by decide)] at H; exact H
      clear H
      have H := H1
      clear H1
      exact absurd H (by simp)
   ·rw [if_neg c6] at H
    exact absurd H (by simp)
  ·rw [if_neg c4] at H
   exact absurd H (by simp)
 ·replace c3 := Bool.eq_false_iff.mpr c3
  subst c3
  have H1 : (none) = some r := by rw [if_neg (show ¬ (false = true) by decide)] at H; exact H
  clear H
  have H := H1
  clear H1
  exact absurd H (by simp)
end Go.Proofs.Ytjmlloiolppoiaa.P
end
section
namespace Go.Proofs.Ytjmlloiolppoiaa.Tupl
open Go.RowKit Go.Proofs.Ytjmlloiolppoiaa.P Go.Proofs.YtjmlloiolppoiaaW.PrintWords Go.Proofs.YtjmlloiolppoiaaW.PrintLast Go.Proofs.Ytjmlloiolppoiaa.Base Go.Proofs.Ytjmlloiolppoiaa.Atom
def okL (a b c d e f : List UInt8) : Bool := nameL a && (idL b && (nameL c && (nameL d && (idL e && (decide (f = []) || nameL f)))))
def textL (a b c d e f : List UInt8) : List UInt8 := a ++ 58 :: (b ++ 35 :: (c ++ 64 :: (d ++ 58 :: (e ++ (if f = [] then [] else 35 :: f)))))
def textR (a b c d e f : List UInt8) : List UInt8 := if okL a b c d e f = true then textL a b c d e f else []
theorem name_le {l : List UInt8} (h : nameL l = true) : l.length ≤ 30 ∧ 1 ≤ l.length := by
  unfold nameL at h
  rw [Bool.and_eq_true, Bool.and_eq_true] at h
  refine ⟨of_decide_eq_true h.1.1, ?_⟩
  cases l with
  | nil => exact absurd h.1.2 (by decide)
  | cons a r => rw [List.length_cons]; omega
theorem id_le {l : List UInt8} (h : idL l = true) : l.length ≤ 250 ∧ 1 ≤ l.length := by
  unfold idL at h
  rw [Bool.and_eq_true, Bool.and_eq_true] at h
  refine ⟨of_decide_eq_true h.1.2, ?_⟩
  cases l with
  | nil => exact absurd h.1.1 (by decide)
  | cons a r => rw [List.length_cons]; omega
theorem name_no {l : List UInt8} (h : nameL l = true) {c : UInt8} (hc : plainB c = false) : c ∉ l := by
  intro m
  unfold nameL at h
  rw [Bool.and_eq_true, List.all_eq_true] at h
  have := h.2 c m
  rw [hc] at this; exact absurd this (by decide)
theorem id_no {l : List UInt8} (h : idL l = true) {c : UInt8} (hc : idB c = false) : c ∉ l := by
  intro m
  unfold idL at h
  rw [Bool.and_eq_true, List.all_eq_true] at h
  have := h.2 c m
  rw [hc] at this; exact absurd this (by decide)
theorem name_id {l : List UInt8} (h : nameL l = true) : idL l = true := by
  have h2 := name_le h
  unfold nameL at h
  rw [Bool.and_eq_true, Bool.and_eq_true, List.all_eq_true] at h
  unfold idL
  rw [Bool.and_eq_true, Bool.and_eq_true, List.all_eq_true]
  refine ⟨⟨decide_eq_true (fun e => ?_), decide_eq_true (by omega)⟩, fun x m => plain_id (h.2 x m)⟩
  rw [e] at h2; exact absurd h2.2 (by decide)
structure Okd (a b c d e f : List UInt8) : Prop where
  a : nameL a = true
  b : idL b = true
  c : nameL c = true
  d : nameL d = true
  e : idL e = true
  f : f = [] ∨ nameL f = true
theorem okd {a b c d e f : List UInt8} : okL a b c d e f = true ↔ Okd a b c d e f := by
  unfold okL
  simp only [Bool.and_eq_true, Bool.or_eq_true, decide_eq_true_eq]
  exact ⟨fun ⟨h1, h2, h3, h4, h5, h6⟩ => ⟨h1, h2, h3, h4, h5, h6⟩, fun ⟨h1, h2, h3, h4, h5, h6⟩ => ⟨h1, h2, h3, h4, h5, h6⟩⟩
theorem ok_ev (a b c d e f : ByteArray) (hb : b.size ≤ 1000000000000) (he : e.size ≤ 1000000000000) :
    Ev (fun k => tupl_Ok.f k a b c d e f) (okL (A a) (A b) (A c) (A d) (A e) (A f)) := by
  obtain ⟨K1, h1⟩ := name_ev a; obtain ⟨K2, h2⟩ := id_ev b hb; obtain ⟨K3, h3⟩ := name_ev c
  obtain ⟨K4, h4⟩ := name_ev d; obtain ⟨K5, h5⟩ := id_ev e he; obtain ⟨K6, h6⟩ := name_ev f
  refine ⟨K1 + K2 + K3 + K4 + K5 + K6, fun k hk => ?_⟩
  have q1 : atom_Name.f k a = some (nameL (A a)) := h1 k (by omega)
  have q2 : atom_ID.f k b = some (idL (A b)) := h2 k (by omega)
  have q3 : atom_Name.f k c = some (nameL (A c)) := h3 k (by omega)
  have q4 : atom_Name.f k d = some (nameL (A d)) := h4 k (by omega)
  have q5 : atom_ID.f k e = some (idL (A e)) := h5 k (by omega)
  have q6 : atom_Name.f k f = some (nameL (A f)) := h6 k (by omega)
  show tupl_Ok.f k a b c d e f = _
  unfold tupl_Ok.f okL
  rw [q1, q2, q3, q4, q5, q6, A_toList]
  simp only [Option.bind_some]
  cases nameL (A a) <;> cases idL (A b) <;> cases nameL (A c) <;> cases nameL (A d) <;> cases idL (A e) <;> by_cases g : A f = [] <;> simp [g]
theorem lit1 (c : UInt8) : A (⟨#[c]⟩ : ByteArray) = [c] := rfl
theorem siz1 (c : UInt8) : (⟨#[c]⟩ : ByteArray).size = 1 := rfl
theorem text_ev (a b c d e f : ByteArray) (hb : b.size ≤ 1000000000000) (he : e.size ≤ 1000000000000) :
    Ev (fun k => tupl_Text.f k a b c d e f) (toB (textR (A a) (A b) (A c) (A d) (A e) (A f))) := by
  obtain ⟨K, h⟩ := ok_ev a b c d e f hb he
  refine ⟨K, fun k hk => ?_⟩
  have q : tupl_Ok.f k a b c d e f = some (okL (A a) (A b) (A c) (A d) (A e) (A f)) := h k hk
  show tupl_Text.f k a b c d e f = _
  unfold tupl_Text.f textR
  rw [q, Option.bind_some]
  by_cases g : okL (A a) (A b) (A c) (A d) (A e) (A f) = true
  · have g' := okd.1 g
    have z1 := (name_le g'.a).1; have z2 := (id_le g'.b).1; have z3 := (name_le g'.c).1; have z4 := (name_le g'.d).1; have z5 := (id_le g'.e).1
    have z6 : (A f).length ≤ 30 := by rcases g'.f with h | h; (rw [h]; exact Nat.zero_le _); exact (name_le h).1
    rw [A_len] at z1 z2 z3 z4 z5 z6
    rw [if_pos g, if_pos g, A_toList]
    iterate 8 rw [if_pos (by (try simp only [ByteArray.size_append, siz1]); omega)]
    by_cases n : A f = []
    · rw [if_pos n]
      refine congrArg some (A_inj ?_)
      unfold textL
      rw [if_pos n]
      simp only [A_append, A_toB, lit1, List.append_assoc, List.nil_append, List.cons_append, List.append_nil]
    · rw [if_neg n]
      iterate 2 rw [if_pos (by (try simp only [ByteArray.size_append, siz1]); omega)]
      refine congrArg some (A_inj ?_)
      unfold textL
      rw [if_neg n]
      simp only [A_append, A_toB, lit1, List.append_assoc, List.nil_append, List.cons_append]
  · rw [if_neg g, if_neg g]; rfl
theorem cut_none {c : UInt8} {l : List UInt8} (h : c ∉ l) : cutA c l = l ∧ cutB c l = [] := by
  have := ((index_ahead c l).2 h).2
  refine ⟨this, ?_⟩
  unfold cutB; rw [this]; exact List.drop_of_length_le (by omega)
theorem cut_some {c : UInt8} {l r : List UInt8} (h : c ∉ l) : cutA c (l ++ c :: r) = l ∧ cutB c (l ++ c :: r) = r := by
  have e : cutA c (l ++ c :: r) = l := by
    unfold cutA
    rw [List.takeWhile_append_of_pos]
    · rw [List.takeWhile_cons]; simp
    · intro x hx
      have : x ≠ c := fun e => h (e ▸ hx)
      simp [this]
  refine ⟨e, ?_⟩
  unfold cutB; rw [e]
  have : (l ++ c :: r) = (l ++ [c]) ++ r := by simp
  rw [this]
  have hl : l.length + 1 = (l ++ [c]).length := by simp
  rw [hl]; exact List.drop_left
theorem cut_eq2 (a : ByteArray) (ha : a.size ≤ 1000000000000000) (c : UInt8) : strings_Cut.f a ⟨⟨[c]⟩⟩ = some (toB (cutA c (A a)), toB (cutB c (A a)), decide (c ∈ A a)) := by
  rw [cut_eq a ha c]
  by_cases g : c ∈ A a
  · rw [if_pos g, decide_eq_true g]
    refine congrArg some (Prod.ext (A_inj ?_) (Prod.ext (A_inj ?_) rfl))
    · exact A_ahead a c
    · exact A_behind a c
  · rw [if_neg g, decide_eq_false g]
    obtain ⟨h1, h2⟩ := cut_none g
    rw [h1, h2, toB_A]; rfl
theorem toB_size (l : List UInt8) : (toB l).size = l.length := by rw [← A_len, A_toB]
theorem cutA_le (c : UInt8) (l : List UInt8) : (cutA c l).length ≤ l.length := (List.takeWhile_prefix _).length_le
theorem cutB_le (c : UInt8) (l : List UInt8) : (cutB c l).length ≤ l.length := by unfold cutB; rw [List.length_drop]; omega
def pa (s : List UInt8) := cutA 58 (cutA 35 (cutA 64 s))
def pb (s : List UInt8) := cutB 58 (cutA 35 (cutA 64 s))
def pc (s : List UInt8) := cutB 35 (cutA 64 s)
def pd (s : List UInt8) := cutA 58 (cutA 35 (cutB 64 s))
def pe (s : List UInt8) := cutB 58 (cutA 35 (cutB 64 s))
def pf (s : List UInt8) := cutB 35 (cutB 64 s)
def fitL (s : List UInt8) : Bool := okL (pa s) (pb s) (pc s) (pd s) (pe s) (pf s) && decide (textL (pa s) (pb s) (pc s) (pd s) (pe s) (pf s) = s)
theorem parse_ev (s : ByteArray) (hs : s.size ≤ 1000000000000) : Ev (fun k => tupl_Parse.f k s)
    (if fitL (A s) = true then (toB (pa (A s)), toB (pb (A s)), toB (pc (A s)), toB (pd (A s)), toB (pe (A s)), toB (pf (A s)), true) else (⟨#[]⟩, ⟨#[]⟩, ⟨#[]⟩, ⟨#[]⟩, ⟨#[]⟩, ⟨#[]⟩, false)) := by
  have L1 := cutA_le 64 (A s); have L2 := cutB_le 64 (A s)
  have L3 := cutA_le 35 (cutA 64 (A s)); have L4 := cutA_le 35 (cutB 64 (A s))
  have L5 := cutB_le 58 (cutA 35 (cutA 64 (A s))); have L6 := cutB_le 58 (cutA 35 (cutB 64 (A s)))
  have L := A_len s
  have c1 : strings_Cut.f s (⟨#[64]⟩ : ByteArray) = some (toB (cutA 64 (A s)), toB (cutB 64 (A s)), decide (64 ∈ A s)) := cut_eq2 s (by omega) 64
  have c2 : strings_Cut.f (toB (cutA 64 (A s))) (⟨#[35]⟩ : ByteArray) = some (toB (cutA 35 (cutA 64 (A s))), toB (cutB 35 (cutA 64 (A s))), decide (35 ∈ cutA 64 (A s))) := cut_eq2 _ (by rw [toB_size]; omega) 35
  have c3 : strings_Cut.f (toB (cutB 64 (A s))) (⟨#[35]⟩ : ByteArray) = some (toB (cutA 35 (cutB 64 (A s))), toB (cutB 35 (cutB 64 (A s))), decide (35 ∈ cutB 64 (A s))) := cut_eq2 _ (by rw [toB_size]; omega) 35
  have c4 : strings_Cut.f (toB (cutA 35 (cutA 64 (A s)))) (⟨#[58]⟩ : ByteArray) = some (toB (pa (A s)), toB (pb (A s)), decide (58 ∈ cutA 35 (cutA 64 (A s)))) := cut_eq2 _ (by rw [toB_size]; omega) 58
  have c5 : strings_Cut.f (toB (cutA 35 (cutB 64 (A s)))) (⟨#[58]⟩ : ByteArray) = some (toB (pd (A s)), toB (pe (A s)), decide (58 ∈ cutA 35 (cutB 64 (A s)))) := cut_eq2 _ (by rw [toB_size]; omega) 58
  have hb : (toB (pb (A s))).size ≤ 1000000000000 := by rw [toB_size]; unfold pb; omega
  have he : (toB (pe (A s))).size ≤ 1000000000000 := by rw [toB_size]; unfold pe; omega
  obtain ⟨K1, h1⟩ := ok_ev (toB (pa (A s))) (toB (pb (A s))) (toB (pc (A s))) (toB (pd (A s))) (toB (pe (A s))) (toB (pf (A s))) hb he
  obtain ⟨K2, h2⟩ := text_ev (toB (pa (A s))) (toB (pb (A s))) (toB (pc (A s))) (toB (pd (A s))) (toB (pe (A s))) (toB (pf (A s))) hb he
  simp only [A_toB] at h1 h2
  refine ⟨K1 + K2, fun k hk => ?_⟩
  have q1 := h1 k (by omega)
  have q2 := h2 k (by omega)
  show tupl_Parse.f k s = _
  unfold tupl_Parse.f
  simp only [c1, Option.bind_some, c2, c3, c4, c5]
  change ((tupl_Ok.f k (toB (pa (A s))) (toB (pb (A s))) (toB (pc (A s))) (toB (pd (A s))) (toB (pe (A s))) (toB (pf (A s)))).bind _) = _
  rw [q1, Option.bind_some]
  by_cases g : okL (pa (A s)) (pb (A s)) (pc (A s)) (pd (A s)) (pe (A s)) (pf (A s)) = true
  · rw [if_pos g]
    change ((tupl_Text.f k (toB (pa (A s))) (toB (pb (A s))) (toB (pc (A s))) (toB (pd (A s))) (toB (pe (A s))) (toB (pf (A s)))).bind _) = _
    rw [q2, Option.bind_some, A_toList, A_toList, A_toB]
    unfold fitL textR
    rw [if_pos g]
    rw [g, Bool.true_and]
    by_cases t : textL (pa (A s)) (pb (A s)) (pc (A s)) (pd (A s)) (pe (A s)) (pf (A s)) = A s
    · rw [if_pos t, if_pos (decide_eq_true t)]; rfl
    · rw [if_neg t, if_neg (by simp [t])]
  · rw [if_neg g]
    unfold fitL
    rw [if_neg (by simp [g])]
theorem plain58 : plainB 58 = false := by decide
theorem plain35 : plainB 35 = false := by decide
theorem plain64 : plainB 64 = false := by decide
theorem id35 : idB 35 = false := by decide
theorem id64 : idB 64 = false := by decide
theorem no_left {a b c : List UInt8} (ha : nameL a = true) (hb : idL b = true) (hc : nameL c = true) : (64 : UInt8) ∉ a ++ 58 :: (b ++ 35 :: c) := by
  intro m
  simp only [List.mem_append, List.mem_cons] at m
  rcases m with m | m | m | m | m
  · exact name_no ha plain64 m
  · exact absurd m (by decide)
  · exact id_no hb id64 m
  · exact absurd m (by decide)
  · exact name_no hc plain64 m
theorem parts_text {a b c d e f : List UInt8} (h : okL a b c d e f = true) :
    pa (textL a b c d e f) = a ∧ pb (textL a b c d e f) = b ∧ pc (textL a b c d e f) = c ∧ pd (textL a b c d e f) = d ∧ pe (textL a b c d e f) = e ∧ pf (textL a b c d e f) = f := by
  obtain ⟨ha, hb, hc, hd, he, hf⟩ := okd.1 h
  have e0 : textL a b c d e f = (a ++ 58 :: (b ++ 35 :: c)) ++ 64 :: (d ++ 58 :: (e ++ (if f = [] then [] else 35 :: f))) := by
    unfold textL; simp
  obtain ⟨c1, c2⟩ := cut_some (r := d ++ 58 :: (e ++ (if f = [] then [] else 35 :: f))) (no_left ha hb hc)
  rw [← e0] at c1 c2
  have e1 : a ++ 58 :: (b ++ 35 :: c) = (a ++ 58 :: b) ++ 35 :: c := by simp
  have n1 : (35 : UInt8) ∉ a ++ 58 :: b := by
    intro m
    simp only [List.mem_append, List.mem_cons] at m
    rcases m with m | m | m
    · exact name_no ha plain35 m
    · exact absurd m (by decide)
    · exact id_no hb id35 m
  have n2 : (35 : UInt8) ∉ d ++ 58 :: e := by
    intro m
    simp only [List.mem_append, List.mem_cons] at m
    rcases m with m | m | m
    · exact name_no hd plain35 m
    · exact absurd m (by decide)
    · exact id_no he id35 m
  obtain ⟨c3, c4⟩ := cut_some (r := c) n1
  rw [← e1] at c3 c4
  have hr : cutA 35 (d ++ 58 :: (e ++ (if f = [] then [] else 35 :: f))) = d ++ 58 :: e ∧ cutB 35 (d ++ 58 :: (e ++ (if f = [] then [] else 35 :: f))) = f := by
    by_cases n : f = []
    · rw [if_pos n, List.append_nil, n]; exact cut_none n2
    · rw [if_neg n]
      have e2 : d ++ 58 :: (e ++ 35 :: f) = (d ++ 58 :: e) ++ 35 :: f := by simp
      rw [e2]; exact cut_some n2
  obtain ⟨c5, c6⟩ := hr
  obtain ⟨c7, c8⟩ := cut_some (r := b) (name_no ha plain58)
  obtain ⟨c9, c10⟩ := cut_some (r := e) (name_no hd plain58)
  unfold pa pb pc pd pe pf
  rw [c1, c2, c3, c4, c5, c6, c7, c8, c9, c10]
  exact ⟨rfl, rfl, rfl, rfl, rfl, rfl⟩
theorem fit_text {a b c d e f : List UInt8} (h : okL a b c d e f = true) : fitL (textL a b c d e f) = true := by
  obtain ⟨h1, h2, h3, h4, h5, h6⟩ := parts_text h
  unfold fitL
  rw [h1, h2, h3, h4, h5, h6, h, Bool.true_and]
  exact decide_eq_true rfl
theorem fit_is {s : List UInt8} (h : fitL s = true) : okL (pa s) (pb s) (pc s) (pd s) (pe s) (pf s) = true ∧ textL (pa s) (pb s) (pc s) (pd s) (pe s) (pf s) = s := by
  unfold fitL at h
  rw [Bool.and_eq_true] at h
  exact ⟨h.1, of_decide_eq_true h.2⟩
theorem text_len {a b c d e f : List UInt8} (h : okL a b c d e f = true) : 9 ≤ (textL a b c d e f).length := by
  obtain ⟨ha, hb, hc, hd, he, hf⟩ := okd.1 h
  have z1 := (name_le ha).2; have z2 := (id_le hb).2; have z3 := (name_le hc).2; have z4 := (name_le hd).2; have z5 := (id_le he).2
  unfold textL
  simp only [List.length_append, List.length_cons]
  omega
theorem awake2_ev : Ev (fun k => entaillaw2_awake.f k) true :=
  Ev.of (fun k => entaillaw2_awake.mono k) (k := 60) (by decide +kernel)
end Go.Proofs.Ytjmlloiolppoiaa.Tupl
end
section
namespace Go.Proofs.Ytjmlloiolppoiaa.TuplLess
open Go.RowKit Go.Proofs.Ytjmlloiolppoiaa.P Go.Proofs.YtjmlloiolppoiaaW.PrintWords Go.Proofs.YtjmlloiolppoiaaW.PrintLast Go.Proofs.Ytjmlloiolppoiaa.Base
theorem cb_self : ∀ x : List UInt8, Lib.compareBytes x x = 0
  | [] => rfl
  | a :: x => by
    unfold Lib.compareBytes
    rw [if_neg (by simp), if_neg (by simp)]; exact cb_self x
theorem cb_zero : ∀ x y : List UInt8, Lib.compareBytes x y = 0 → x = y
  | [], [], _ => rfl
  | [], _ :: _, h => absurd h (by simp [Lib.compareBytes])
  | _ :: _, [], h => absurd h (by simp [Lib.compareBytes])
  | a :: x, b :: y, h => by
    unfold Lib.compareBytes at h
    by_cases h1 : a < b
    · rw [if_pos h1] at h; exact absurd h (by decide)
    · by_cases g : b < a
      · rw [if_neg h1, if_pos g] at h; exact absurd h (by decide)
      · rw [if_neg h1, if_neg g] at h
        have e : a = b := by
          rw [UInt8.lt_iff_toNat_lt] at h1 g
          exact UInt8.toNat_inj.1 (by omega)
        rw [e, cb_zero x y h]
def cmps : List (List UInt8) → List (List UInt8) → Int
  | x :: xs, y :: ys => if Lib.compareBytes x y = 0 then cmps xs ys else Lib.compareBytes x y
  | _, _ => 0
def ors : List Int → Int
  | [] => 0
  | x :: r => if x = 0 then ors r else x
theorem or_l0 (l : List Int) (hl : l.length ≤ 1000000) : ∀ (r : List Int) (n : Nat), l.drop n = r → n ≤ l.length → Ev (fun k => cmp_Or_int.l0 k 0 l (l.length : Int) (n : Int)) (ors r)
  | [], n, h, hn => by
    have : l.length ≤ n := List.drop_eq_nil_iff.1 h
    refine Ev.step (f := fun _ => some 0) (fun k => ?_) (Ev.now _)
    simp only [cmp_Or_int.l0]; rw [if_neg (by omega)]
  | x :: r, n, h, hn => by
    have hlt : n < l.length := by
      have := congrArg List.length h
      rw [List.length_drop, List.length_cons] at this; omega
    have hx : rd l (n : Int) = x := by
      have h0 : l[n]? = some x := by rw [← List.head?_drop, h]; rfl
      unfold rd
      simp [h0]
    have ih := or_l0 l hl r (n + 1) (drop_succ h) (by omega)
    by_cases g : x = 0
    · refine Ev.step (f := fun k => cmp_Or_int.l0 k 0 l (l.length : Int) ((n + 1 : Nat) : Int)) (fun k => ?_) ?_
      · simp only [cmp_Or_int.l0]
        rw [if_pos (by omega), if_pos (by omega), if_pos (by omega), hx, if_pos g, wrap_id (by omega) (by omega)]; rfl
      · unfold ors; rw [if_pos g]; exact ih
    · refine Ev.step (f := fun _ => some x) (fun k => ?_) ?_
      · simp only [cmp_Or_int.l0]
        rw [if_pos (by omega), if_pos (by omega), if_pos (by omega), hx, if_neg g]
      · unfold ors; rw [if_neg g]; exact Ev.now _
theorem ors_cmps (a0 a1 a2 a3 a4 a5 b0 b1 b2 b3 b4 b5 : List UInt8) :
    ors [Lib.compareBytes a0 b0, Lib.compareBytes a1 b1, Lib.compareBytes a2 b2, Lib.compareBytes a3 b3, Lib.compareBytes a4 b4, Lib.compareBytes a5 b5] = cmps [a0, a1, a2, a3, a4, a5] [b0, b1, b2, b3, b4, b5] := by
  simp only [ors, cmps]
theorem scmp (a b : ByteArray) : strings_Compare.f a b = some (Lib.compareBytes (A a) (A b)) := rfl
theorem less_ev (a0 a1 a2 a3 a4 a5 b0 b1 b2 b3 b4 b5 : ByteArray) :
    Ev (fun k => tupl_Less.f k a0 a1 a2 a3 a4 a5 b0 b1 b2 b3 b4 b5) (decide (cmps [A a0, A a1, A a2, A a3, A a4, A a5] [A b0, A b1, A b2, A b3, A b4, A b5] < 0)) := by
  obtain ⟨K, h⟩ := or_l0 [Lib.compareBytes (A a0) (A b0), Lib.compareBytes (A a1) (A b1), Lib.compareBytes (A a2) (A b2), Lib.compareBytes (A a3) (A b3), Lib.compareBytes (A a4) (A b4), Lib.compareBytes (A a5) (A b5)] (by simp) _ 0 rfl (Nat.zero_le _)
  rw [List.drop_zero, ors_cmps] at h
  refine ⟨K, fun k hk => ?_⟩
  have q : cmp_Or_int.l0 k 0 [Lib.compareBytes (A a0) (A b0), Lib.compareBytes (A a1) (A b1), Lib.compareBytes (A a2) (A b2), Lib.compareBytes (A a3) (A b3), Lib.compareBytes (A a4) (A b4), Lib.compareBytes (A a5) (A b5)] ((6 : Nat) : Int) ((0 : Nat) : Int) = _ := h k hk
  show tupl_Less.f k a0 a1 a2 a3 a4 a5 b0 b1 b2 b3 b4 b5 = _
  unfold tupl_Less.f tupl_Compare.f
  simp only [scmp, Option.bind_some]
  change ((Option.bind (cmp_Or_int.l0 k 0 _ ((6 : Nat) : Int) ((0 : Nat) : Int)) _).bind _) = _
  rw [q]; rfl
end Go.Proofs.Ytjmlloiolppoiaa.TuplLess
end
section
namespace Go.Proofs.Ytjmlloiolppoiaa.P
open Go.RowKit Go.Proofs.YtjmlloiolppoiaaW.PrintWords Go.Proofs.YtjmlloiolppoiaaW.PrintLast Go.Proofs.YtjmlloiolppoiaaW.PrintMore
set_option linter.unusedVariables false
set_option linter.unusedSimpArgs false
def entailref1_Find.l0 : Nat → ByteArray → Int → Int → Option (Int)
 | 0, _, _, _ => none
 | k + 1, x0, x1, x7 => if x7 < (x0.size : Int) then (if 0 ≤ x7 then (if (bt x0 x7) = x1 then (some x7) else (entailref1_Find.l0 k x0 x1 (wrap64 (x7 + 1)))) else (none)) else (some (-1))
def entailref1_Find.f (k : Nat) (a0 : ByteArray) (a1 : Int) (a2 : Int) : Option (Int) := entailref1_Find.l0 k a0 a1 a2
set_option maxHeartbeats 8000000 in
set_option maxRecDepth 100000 in
theorem entailref1_Find.calls (k : Nat) (a0 : ByteArray) (a1 : Int) (a2 : Int) (r : Int) (w : World) (h : entailref1_Find.f k a0 a1 a2 = some r) :
  Calls Try.prog 37 #[.string a0, .int .u8 a1, .int .i64 a2] w fun e w' => e = .returned (.int .i64 r) ∧ Drawn0 w w' := by
 have H : (entailref1_Find.l0 k a0 a1 a2) = some r := h
 clear h
 have H' := Aside0.mk H
 clear H
 go_enter Try.func37, Try.ntmps37
 go_wp2
 go_loopg [7] k (fun kq v7 w' => ∃ (x7_1 : Int), v7 = .int .i64 x7_1 ∧ Aside0 (entailref1_Find.l0 kq a0 a1 x7_1 = some r) ∧ Aside0 (kq ≤ k) ∧ Drawn0 w w')
 case atStart => exact ⟨(a2), (by first | rfl | (simp; done) | (simp [*]; done)), H', ⟨Nat.le_refl _⟩, by repeat (first | exact Drawn0.refl _ | apply Drawn0.step)⟩
 case round =>
  clear H'
  try clear p2
  try clear c3
  obtain ⟨x7_1, rfl, HA, HK1, ⟨m1, rfl⟩⟩ := hrel
  cases gk with
  | zero => exact absurd HA.out (by simp [entailref1_Find.l0])
  | succ k1 =>
   have H := HA.out
   clear HA
   simp only [entailref1_Find.l0] at H
   by_cases c4 : x7_1 < (a0.size : Int)
   ·rw [if_pos c4] at H
    have c4b0 : decide (x7_1 < (a0.size : Int)) = true := decide_eq_true c4
    clear c4
    by_cases c5 : 0 ≤ x7_1
    ·rw [if_pos c5] at H
     have c5b0 : decide (0 ≤ x7_1) = true := decide_eq_true c5
     clear c5
     by_cases c7 : (bt a0 x7_1) = a1
     ·rw [if_pos c7] at H
      have c7b0 : ((bt a0 x7_1) == a1) = true := beq_iff_eq.mpr c7
      have c7b1 : ((bt a0 x7_1) != a1) = false := bne_eq_false_iff_eq.mpr c7
      clear c7
      obtain rfl := Option.some.inj H
      have p6 : 0 ≤ (x7_1 : Int) := of_decide_eq_true (by first | (with_reducible assumption) | assumption)
      have q6 : x7_1 < (a0.size : Int) := of_decide_eq_true (by first | (with_reducible assumption) | assumption)
      have hx6 := bt_at a0 x7_1
      replace p6 := eq_true p6
      replace q6 := eq_true q6
      go_wp2
      go_ret
      exact ⟨by first | rfl | (simp; done) | (simp [*]; done), by repeat (first | exact Drawn0.refl _ | apply Drawn0.step)⟩
     ·rw [if_neg c7] at H
      have c7b0 : ((bt a0 x7_1) == a1) = false := beq_eq_false_iff_ne.mpr c7
      have c7b1 : ((bt a0 x7_1) != a1) = true := bne_iff_ne.mpr c7
      have H' := Aside0.mk H
      clear H
      have p6 : 0 ≤ (x7_1 : Int) := of_decide_eq_true (by first | (with_reducible assumption) | assumption)
      have q6 : x7_1 < (a0.size : Int) := of_decide_eq_true (by first | (with_reducible assumption) | assumption)
      have hx6 := bt_at a0 x7_1
      replace p6 := eq_true p6
      replace q6 := eq_true q6
      go_wp2
      go_roundg k1
      case measure => have := HK1.out; omega
      case rel => exact ⟨(wrap64 (x7_1 + 1)), (by first | rfl | (simp; done) | (simp [*]; done)), H', ⟨by have := HK1.out; omega⟩, by repeat (first | exact Drawn0.refl _ | apply Drawn0.step)⟩
    ·rw [if_neg c5] at H
     exact absurd H (by simp)
   ·rw [if_neg c4] at H
    have c4b0 : decide (x7_1 < (a0.size : Int)) = false := decide_eq_false c4
    clear c4
    obtain rfl := Option.some.inj H
    go_wp2
    go_ret
    exact ⟨by first | rfl | (simp; done) | (simp [*]; done), by repeat (first | exact Drawn0.refl _ | apply Drawn0.step)⟩
end Go.Proofs.Ytjmlloiolppoiaa.P
end
section
namespace Go.Proofs.Ytjmlloiolppoiaa.P
open Go.RowKit Go.Proofs.YtjmlloiolppoiaaW.PrintWords Go.Proofs.YtjmlloiolppoiaaW.PrintLast Go.Proofs.YtjmlloiolppoiaaW.PrintMore
set_option linter.unusedVariables false
set_option linter.unusedSimpArgs false
def entailref1_alnum.f (a0 : Int) : Option (Bool) := if a0 ≥ 97 then (if a0 ≤ 122 then (some true) else (if a0 ≥ 48 then (some (decide (a0 ≤ 57))) else (some false))) else (if a0 ≥ 48 then (some (decide (a0 ≤ 57))) else (some false))
set_option maxHeartbeats 8000000 in
set_option maxRecDepth 100000 in
theorem entailref1_alnum.calls (a0 : Int) (r : Bool) (w : World) (h : entailref1_alnum.f a0 = some r) :
  Calls Try.prog 41 #[.int .u8 a0] w fun e w' => e = .returned (.bool r) ∧ Drawn0 w w' := by
 have H : (if a0 ≥ 97 then (if a0 ≤ 122 then (some true) else (if a0 ≥ 48 then (some (decide (a0 ≤ 57))) else (some false))) else (if a0 ≥ 48 then (some (decide (a0 ≤ 57))) else (some false))) = some r := h
 clear h
 by_cases c2 : a0 ≥ 97
 ·rw [if_pos c2] at H
  have c2b0 : decide (97 ≤ a0) = true := decide_eq_true c2
  clear c2
  by_cases c3 : a0 ≤ 122
  ·rw [if_pos c3] at H
   have c3b0 : decide (a0 ≤ 122) = true := decide_eq_true c3
   clear c3
   obtain rfl := Option.some.inj H
   go_enter Try.func41, Try.ntmps41
   go_wp2
   go_ret
   exact ⟨by first | rfl | (simp; done) | (simp [*]; done), by repeat (first | exact Drawn0.refl _ | apply Drawn0.step)⟩
  ·rw [if_neg c3] at H
   have c3b0 : decide (a0 ≤ 122) = false := decide_eq_false c3
   clear c3
   by_cases c4 : a0 ≥ 48
   ·rw [if_pos c4] at H
    have c4b0 : decide (48 ≤ a0) = true := decide_eq_true c4
    clear c4
    obtain rfl := Option.some.inj H
    go_enter Try.func41, Try.ntmps41
    go_wp2
    go_ret
    exact ⟨by first | rfl | (simp; done) | (simp [*]; done), by repeat (first | exact Drawn0.refl _ | apply Drawn0.step)⟩
   ·rw [if_neg c4] at H
    have c4b0 : decide (48 ≤ a0) = false := decide_eq_false c4
    clear c4
    obtain rfl := Option.some.inj H
    go_enter Try.func41, Try.ntmps41
    go_wp2
    go_ret
    exact ⟨by first | rfl | (simp; done) | (simp [*]; done), by repeat (first | exact Drawn0.refl _ | apply Drawn0.step)⟩
 ·rw [if_neg c2] at H
  have c2b0 : decide (97 ≤ a0) = false := decide_eq_false c2
  clear c2
  by_cases c5 : a0 ≥ 48
  ·rw [if_pos c5] at H
   have c5b0 : decide (48 ≤ a0) = true := decide_eq_true c5
   clear c5
   obtain rfl := Option.some.inj H
   go_enter Try.func41, Try.ntmps41
   go_wp2
   go_ret
   exact ⟨by first | rfl | (simp; done) | (simp [*]; done), by repeat (first | exact Drawn0.refl _ | apply Drawn0.step)⟩
  ·rw [if_neg c5] at H
   have c5b0 : decide (48 ≤ a0) = false := decide_eq_false c5
   clear c5
   obtain rfl := Option.some.inj H
   go_enter Try.func41, Try.ntmps41
   go_wp2
   go_ret
   exact ⟨by first | rfl | (simp; done) | (simp [*]; done), by repeat (first | exact Drawn0.refl _ | apply Drawn0.step)⟩
end Go.Proofs.Ytjmlloiolppoiaa.P
end
section
namespace Go.Proofs.Ytjmlloiolppoiaa.P
open Go.RowKit Go.Proofs.YtjmlloiolppoiaaW.PrintWords Go.Proofs.YtjmlloiolppoiaaW.PrintLast Go.Proofs.YtjmlloiolppoiaaW.PrintMore
set_option linter.unusedVariables false
set_option linter.unusedSimpArgs false
mutual
def entailref1_Name.j0 : Nat → ByteArray → Bool → Option (Bool)
 | 0, _, _ => none
 | k + 1, x0, x17 => if x17 = true then (some false) else (entailref1_Name.l0 k x0 0)
def entailref1_Name.l0 : Nat → ByteArray → Int → Option (Bool)
 | 0, _, _ => none
 | k + 1, x0, x3 => if x3 < (x0.size : Int) then (if 0 ≤ x3 then ((entailref1_alnum.f (bt x0 x3)).bind fun t153 => (if t153 = true then (entailref1_Name.l0 k x0 (wrap64 (x3 + 1))) else (if (bt x0 x3) = 95 then (entailref1_Name.l0 k x0 (wrap64 (x3 + 1))) else (if (bt x0 x3) = 45 then (entailref1_Name.l0 k x0 (wrap64 (x3 + 1))) else (if (bt x0 x3) = 46 then (entailref1_Name.l0 k x0 (wrap64 (x3 + 1))) else (some false)))))) else (none)) else (some true)
end
def entailref1_Name.f (k : Nat) (a0 : ByteArray) : Option (Bool) := if (a0.size : Int) < 1 then (entailref1_Name.j0 k a0 true) else (if (a0.size : Int) > 30 then (entailref1_Name.j0 k a0 true) else (if 0 < (a0.size : Int) then ((entailref1_alnum.f (bt a0 0)).bind fun t152 => (entailref1_Name.j0 k a0 (!t152))) else (none)))
set_option maxHeartbeats 8000000 in
set_option maxRecDepth 100000 in
theorem entailref1_Name.calls (k : Nat) (a0 : ByteArray) (r : Bool) (w : World) (h : entailref1_Name.f k a0 = some r) :
  Calls Try.prog 28 #[.string a0] w fun e w' => e = .returned (.bool r) ∧ Drawn0 w w' := by
 have H : (if (a0.size : Int) < 1 then (entailref1_Name.j0 k a0 true) else (if (a0.size : Int) > 30 then (entailref1_Name.j0 k a0 true) else (if 0 < (a0.size : Int) then ((entailref1_alnum.f (bt a0 0)).bind fun t152 => (entailref1_Name.j0 k a0 (!t152))) else (none)))) = some r := h
 clear h
 have HC2 := Aside0.mk H
 clear H
 go_enter Try.func28, Try.ntmps28
 go_upto_region 1 with (fail)
 go_cut [17] (fun v17 wc => ∃ (kq : Nat) (x17_1 : Bool), v17 = .bool x17_1 ∧ Aside0 (entailref1_Name.j0 kq a0 x17_1 = some r) ∧ Aside0 (kq ≤ k) ∧ Drawn0 w wc)
 case first =>
  have H := HC2.out
  clear HC2
  by_cases c3 : (a0.size : Int) < 1
  ·rw [if_pos c3] at H
   have c3b0 : decide ((a0.size : Int) < 1) = true := decide_eq_true c3
   have c3b1 : decide (a0.size < 1) = true := decide_eq_true (by omega)
   clear c3
   (first | rw [c3b0] | (simp only [i64_w, i32_w]; rw [c3b0]) | skip)
   have H' := Aside0.mk H
   clear H
   go_wp2
   go_meet
   case rel => exact ⟨_, (true), (by first | rfl | (simp; done) | (simp [*]; done)), H', ⟨by first | omega | exact Nat.le_refl _⟩, by repeat (first | exact Drawn0.refl _ | apply Drawn0.step)⟩
  ·rw [if_neg c3] at H
   have c3b0 : decide ((a0.size : Int) < 1) = false := decide_eq_false c3
   have c3b1 : decide (a0.size < 1) = false := decide_eq_false (by omega)
   clear c3
   (first | rw [c3b0] | (simp only [i64_w, i32_w]; rw [c3b0]) | skip)
   by_cases c4 : (a0.size : Int) > 30
   ·rw [if_pos c4] at H
    have c4b0 : decide (30 < (a0.size : Int)) = true := decide_eq_true c4
    have c4b1 : decide (30 < a0.size) = true := decide_eq_true (by omega)
    clear c4
    have H' := Aside0.mk H
    clear H
    go_wp2
    go_meet
    case rel => exact ⟨_, (true), (by first | rfl | (simp; done) | (simp [*]; done)), H', ⟨by first | omega | exact Nat.le_refl _⟩, by repeat (first | exact Drawn0.refl _ | apply Drawn0.step)⟩
   ·rw [if_neg c4] at H
    have c4b0 : decide (30 < (a0.size : Int)) = false := decide_eq_false c4
    have c4b1 : decide (30 < a0.size) = false := decide_eq_false (by omega)
    clear c4
    by_cases c5 : 0 < (a0.size : Int)
    ·rw [if_pos c5] at H
     have c5b0 : decide (0 < (a0.size : Int)) = true := decide_eq_true c5
     have c5b1 : decide (0 < a0.size) = true := decide_eq_true (by omega)
     clear c5
     replace H := Option.bind_eq_some_iff.mp H
     obtain ⟨t152, A70, H⟩ := H
     replace H : (entailref1_Name.j0 k a0 (!t152)) = some r := H
     have A7 := Aside0.mk A70
     clear A70
     have H' := Aside0.mk H
     clear H
     have p6 : 0 ≤ (0 : Int) := (by omega)
     have q6 : 0 < a0.size := (by have : (0 : Int) < (a0.size : Int) := of_decide_eq_true (by first | (with_reducible assumption) | assumption); omega)
     have hx6 : ∀ h : 0 < a0.size, ((a0[0]'h).toNat : Int) = bt a0 0 := bt_at a0 0
     clear p6
     have qi6 : (0 < (a0.size : Int)) = True := eq_true (of_decide_eq_true (by first | (with_reducible assumption) | assumption))
     replace q6 := eq_true q6
     go_wp2_with (first | (go_at_call 41; (with_reducible refine (entailref1_alnum.calls (bt a0 0) t152 _ A7.out).mono ?_); rintro e w' ⟨rfl, ⟨nd, rfl⟩⟩))
     go_meet
     case rel => exact ⟨_, (!t152), (by first | rfl | (simp; done) | (simp [*]; done)), H', ⟨by first | omega | exact Nat.le_refl _⟩, by repeat (first | exact Drawn0.refl _ | apply Drawn0.step)⟩
    ·rw [if_neg c5] at H
     exact absurd H (by simp)
 case rest =>
  clear HC2
  try clear c2
  try clear p2
  try clear c3
  try clear c3b0
  try clear c3b1
  try clear c4
  try clear c4b0
  try clear c4b1
  try clear c5
  try clear c5b0
  try clear c5b1
  try clear p6
  try clear q6
  try clear hx6
  try clear qi6
  try clear p6
  try clear q6
  obtain ⟨kq, x17_1, rfl, HA, HJ1, ⟨mc1, rfl⟩⟩ := hcut
  cases kq with
  | zero => exact absurd HA.out (by simp [entailref1_Name.j0])
  | succ kj1 =>
   have H := HA.out
   clear HA
   simp only [entailref1_Name.j0] at H
   by_cases c8 : x17_1 = true
   ·subst c8
    have H1 : (some false) = some r := by rw [if_pos rfl] at H; exact H
    clear H
    have H := H1
    clear H1
    obtain rfl := Option.some.inj H
    go_wp2
    go_ret
    exact ⟨by first | rfl | (simp; done) | (simp [*]; done), by repeat (first | exact Drawn0.refl _ | apply Drawn0.step)⟩
   ·replace c8 := Bool.eq_false_iff.mpr c8
    subst c8
    have H1 : (entailref1_Name.l0 kj1 a0 0) = some r := by rw [if_neg (show ¬ (false = true) by decide)] at H; exact H
    clear H
    have H := H1
    clear H1
    have H' := Aside0.mk H
    clear H
    go_wp2
    go_loopg [3] kj1 (fun kq v3 w' => ∃ (x3_2 : Int), v3 = .int .i64 x3_2 ∧ Aside0 (entailref1_Name.l0 kq a0 x3_2 = some r) ∧ Aside0 (kq ≤ kj1) ∧ Drawn0 w w')
    case atStart => exact ⟨(0), (by first | rfl | (simp; done) | (simp [*]; done)), H', ⟨Nat.le_refl _⟩, by repeat (first | exact Drawn0.refl _ | apply Drawn0.step)⟩
    case round =>
     clear H'
     try clear c1
     try clear c2
     try clear p2
     try clear c3
     try clear c3b0
     try clear c3b1
     try clear c4
     try clear c4b0
     try clear c4b1
     try clear c5
     try clear c5b0
     try clear c5b1
     try clear p6
     try clear q6
     try clear hx6
     try clear qi6
     try clear c8
     try clear p2
     try clear p6
     try clear q6
     obtain ⟨x3_2, rfl, HA, HK2, ⟨m2, rfl⟩⟩ := hrel
     cases gk with
     | zero => exact absurd HA.out (by simp [entailref1_Name.l0])
     | succ k2 =>
      have H := HA.out
      clear HA
      simp only [entailref1_Name.l0] at H
      by_cases c9 : x3_2 < (a0.size : Int)
      ·rw [if_pos c9] at H
       have c9b0 : decide (x3_2 < (a0.size : Int)) = true := decide_eq_true c9
       clear c9
       by_cases c10 : 0 ≤ x3_2
       ·rw [if_pos c10] at H
        have c10b0 : decide (0 ≤ x3_2) = true := decide_eq_true c10
        clear c10
        replace H := Option.bind_eq_some_iff.mp H
        obtain ⟨t153, A120, H⟩ := H
        replace H : (if t153 = true then (entailref1_Name.l0 k2 a0 (wrap64 (x3_2 + 1))) else (if (bt a0 x3_2) = 95 then (entailref1_Name.l0 k2 a0 (wrap64 (x3_2 + 1))) else (if (bt a0 x3_2) = 45 then (entailref1_Name.l0 k2 a0 (wrap64 (x3_2 + 1))) else (if (bt a0 x3_2) = 46 then (entailref1_Name.l0 k2 a0 (wrap64 (x3_2 + 1))) else (some false))))) = some r := H
        have A12 := Aside0.mk A120
        clear A120
        by_cases c13 : t153 = true
        ·subst c13
         have H1 : (entailref1_Name.l0 k2 a0 (wrap64 (x3_2 + 1))) = some r := by rw [if_pos rfl] at H; exact H
         clear H
         have H := H1
         clear H1
         have H' := Aside0.mk H
         clear H
         have p11 : 0 ≤ (x3_2 : Int) := of_decide_eq_true (by first | (with_reducible assumption) | assumption)
         have q11 : x3_2 < (a0.size : Int) := of_decide_eq_true (by first | (with_reducible assumption) | assumption)
         have hx11 := bt_at a0 x3_2
         replace p11 := eq_true p11
         replace q11 := eq_true q11
         go_wp2_with (first | ((with_reducible refine gate_callee (f := 41) rfl ?_); refine goesL_ (some 27) rfl rfl Try.func41 (by kernel_rfl) rfl #[.int .u8 (bt a0 x3_2)] rfl (by (try simp only [List.map_toArray, List.map_cons, List.map_nil]); first | done | rfl | (simp only [List.length_drop, List.length_take]; rfl)) ?_; (with_reducible refine (entailref1_alnum.calls (bt a0 x3_2) true _ A12.out).mono ?_); rintro e w' ⟨rfl, ⟨nd, rfl⟩⟩; refine ⟨_, rfl, ?_⟩))
         go_roundg k2
         case measure => have := HJ1.out; have := HK2.out; omega
         case rel => exact ⟨(wrap64 (x3_2 + 1)), (by first | rfl | (simp; done) | (simp [*]; done)), H', ⟨by have := HJ1.out; have := HK2.out; omega⟩, by repeat (first | exact Drawn0.refl _ | apply Drawn0.step)⟩
        ·replace c13 := Bool.eq_false_iff.mpr c13
         subst c13
         have H1 : (if (bt a0 x3_2) = 95 then (entailref1_Name.l0 k2 a0 (wrap64 (x3_2 + 1))) else (if (bt a0 x3_2) = 45 then (entailref1_Name.l0 k2 a0 (wrap64 (x3_2 + 1))) else (if (bt a0 x3_2) = 46 then (entailref1_Name.l0 k2 a0 (wrap64 (x3_2 + 1))) else (some false)))) = some r := by rw [if_neg (show ¬ (false = true) by decide)] at H; exact H
         clear H
         have H := H1
         clear H1
         by_cases c15 : (bt a0 x3_2) = 95
         ·rw [if_pos c15] at H
          have c15b0 : ((bt a0 x3_2) == 95) = true := beq_iff_eq.mpr c15
          have c15b1 : ((bt a0 x3_2) != 95) = false := bne_eq_false_iff_eq.mpr c15
          clear c15
          have H' := Aside0.mk H
          clear H
          have p11 : 0 ≤ (x3_2 : Int) := of_decide_eq_true (by first | (with_reducible assumption) | assumption)
          have q11 : x3_2 < (a0.size : Int) := of_decide_eq_true (by first | (with_reducible assumption) | assumption)
          have hx11 := bt_at a0 x3_2
          replace p11 := eq_true p11
          replace q11 := eq_true q11
          go_wp2_with (first | ((with_reducible refine gate_callee (f := 41) rfl ?_); refine goesL_ (some 27) rfl rfl Try.func41 (by kernel_rfl) rfl #[.int .u8 (bt a0 x3_2)] rfl (by (try simp only [List.map_toArray, List.map_cons, List.map_nil]); first | done | rfl | (simp only [List.length_drop, List.length_take]; rfl)) ?_; (with_reducible refine (entailref1_alnum.calls (bt a0 x3_2) false _ A12.out).mono ?_); rintro e w' ⟨rfl, ⟨nd, rfl⟩⟩; refine ⟨_, rfl, ?_⟩; have p14 : 0 ≤ (x3_2 : Int) := of_decide_eq_true (by first | (with_reducible assumption) | assumption); have q14 : x3_2 < (a0.size : Int) := of_decide_eq_true (by first | (with_reducible assumption) | assumption); have hx14 := bt_at a0 x3_2; replace p14 := eq_true p14; replace q14 := eq_true q14))
          go_roundg k2
          case measure => have := HJ1.out; have := HK2.out; omega
          case rel => exact ⟨(wrap64 (x3_2 + 1)), (by first | rfl | (simp; done) | (simp [*]; done)), H', ⟨by have := HJ1.out; have := HK2.out; omega⟩, by repeat (first | exact Drawn0.refl _ | apply Drawn0.step)⟩
         ·rw [if_neg c15] at H
          have c15b0 : ((bt a0 x3_2) == 95) = false := beq_eq_false_iff_ne.mpr c15
          have c15b1 : ((bt a0 x3_2) != 95) = true := bne_iff_ne.mpr c15
          by_cases c17 : (bt a0 x3_2) = 45
          ·rw [if_pos c17] at H
           have c17b0 : ((bt a0 x3_2) == 45) = true := beq_iff_eq.mpr c17
           have c17b1 : ((bt a0 x3_2) != 45) = false := bne_eq_false_iff_eq.mpr c17
           clear c17
           have H' := Aside0.mk H
           clear H
           have p11 : 0 ≤ (x3_2 : Int) := of_decide_eq_true (by first | (with_reducible assumption) | assumption)
           have q11 : x3_2 < (a0.size : Int) := of_decide_eq_true (by first | (with_reducible assumption) | assumption)
           have hx11 := bt_at a0 x3_2
           replace p11 := eq_true p11
           replace q11 := eq_true q11
           go_wp2_with (first | ((with_reducible refine gate_callee (f := 41) rfl ?_); refine goesL_ (some 27) rfl rfl Try.func41 (by kernel_rfl) rfl #[.int .u8 (bt a0 x3_2)] rfl (by (try simp only [List.map_toArray, List.map_cons, List.map_nil]); first | done | rfl | (simp only [List.length_drop, List.length_take]; rfl)) ?_; (with_reducible refine (entailref1_alnum.calls (bt a0 x3_2) false _ A12.out).mono ?_); rintro e w' ⟨rfl, ⟨nd, rfl⟩⟩; refine ⟨_, rfl, ?_⟩; have p14 : 0 ≤ (x3_2 : Int) := of_decide_eq_true (by first | (with_reducible assumption) | assumption); have q14 : x3_2 < (a0.size : Int) := of_decide_eq_true (by first | (with_reducible assumption) | assumption); have hx14 := bt_at a0 x3_2; replace p14 := eq_true p14; replace q14 := eq_true q14; have p16 : 0 ≤ (x3_2 : Int) := of_decide_eq_true (by first | (with_reducible assumption) | assumption); have q16 : x3_2 < (a0.size : Int) := of_decide_eq_true (by first | (with_reducible assumption) | assumption); have hx16 := bt_at a0 x3_2; replace p16 := eq_true p16; replace q16 := eq_true q16))
           go_roundg k2
           case measure => have := HJ1.out; have := HK2.out; omega
           case rel => exact ⟨(wrap64 (x3_2 + 1)), (by first | rfl | (simp; done) | (simp [*]; done)), H', ⟨by have := HJ1.out; have := HK2.out; omega⟩, by repeat (first | exact Drawn0.refl _ | apply Drawn0.step)⟩
          ·rw [if_neg c17] at H
           have c17b0 : ((bt a0 x3_2) == 45) = false := beq_eq_false_iff_ne.mpr c17
           have c17b1 : ((bt a0 x3_2) != 45) = true := bne_iff_ne.mpr c17
           by_cases c19 : (bt a0 x3_2) = 46
           ·rw [if_pos c19] at H
            have c19b0 : ((bt a0 x3_2) == 46) = true := beq_iff_eq.mpr c19
            have c19b1 : ((bt a0 x3_2) != 46) = false := bne_eq_false_iff_eq.mpr c19
            clear c19
            have H' := Aside0.mk H
            clear H
            have p11 : 0 ≤ (x3_2 : Int) := of_decide_eq_true (by first | (with_reducible assumption) | assumption)
            have q11 : x3_2 < (a0.size : Int) := of_decide_eq_true (by first | (with_reducible assumption) | assumption)
            have hx11 := bt_at a0 x3_2
            replace p11 := eq_true p11
            replace q11 := eq_true q11
            go_wp2_with (first | ((with_reducible refine gate_callee (f := 41) rfl ?_); refine goesL_ (some 27) rfl rfl Try.func41 (by kernel_rfl) rfl #[.int .u8 (bt a0 x3_2)] rfl (by (try simp only [List.map_toArray, List.map_cons, List.map_nil]); first | done | rfl | (simp only [List.length_drop, List.length_take]; rfl)) ?_; (with_reducible refine (entailref1_alnum.calls (bt a0 x3_2) false _ A12.out).mono ?_); rintro e w' ⟨rfl, ⟨nd, rfl⟩⟩; refine ⟨_, rfl, ?_⟩; have p14 : 0 ≤ (x3_2 : Int) := of_decide_eq_true (by first | (with_reducible assumption) | assumption); have q14 : x3_2 < (a0.size : Int) := of_decide_eq_true (by first | (with_reducible assumption) | assumption); have hx14 := bt_at a0 x3_2; replace p14 := eq_true p14; replace q14 := eq_true q14; have p16 : 0 ≤ (x3_2 : Int) := of_decide_eq_true (by first | (with_reducible assumption) | assumption); have q16 : x3_2 < (a0.size : Int) := of_decide_eq_true (by first | (with_reducible assumption) | assumption); have hx16 := bt_at a0 x3_2; replace p16 := eq_true p16; replace q16 := eq_true q16; have p18 : 0 ≤ (x3_2 : Int) := of_decide_eq_true (by first | (with_reducible assumption) | assumption); have q18 : x3_2 < (a0.size : Int) := of_decide_eq_true (by first | (with_reducible assumption) | assumption); have hx18 := bt_at a0 x3_2; replace p18 := eq_true p18; replace q18 := eq_true q18))
            go_roundg k2
            case measure => have := HJ1.out; have := HK2.out; omega
            case rel => exact ⟨(wrap64 (x3_2 + 1)), (by first | rfl | (simp; done) | (simp [*]; done)), H', ⟨by have := HJ1.out; have := HK2.out; omega⟩, by repeat (first | exact Drawn0.refl _ | apply Drawn0.step)⟩
           ·rw [if_neg c19] at H
            have c19b0 : ((bt a0 x3_2) == 46) = false := beq_eq_false_iff_ne.mpr c19
            have c19b1 : ((bt a0 x3_2) != 46) = true := bne_iff_ne.mpr c19
            obtain rfl := Option.some.inj H
            have p11 : 0 ≤ (x3_2 : Int) := of_decide_eq_true (by first | (with_reducible assumption) | assumption)
            have q11 : x3_2 < (a0.size : Int) := of_decide_eq_true (by first | (with_reducible assumption) | assumption)
            have hx11 := bt_at a0 x3_2
            replace p11 := eq_true p11
            replace q11 := eq_true q11
            go_wp2_with (first | ((with_reducible refine gate_callee (f := 41) rfl ?_); refine goesL_ (some 27) rfl rfl Try.func41 (by kernel_rfl) rfl #[.int .u8 (bt a0 x3_2)] rfl (by (try simp only [List.map_toArray, List.map_cons, List.map_nil]); first | done | rfl | (simp only [List.length_drop, List.length_take]; rfl)) ?_; (with_reducible refine (entailref1_alnum.calls (bt a0 x3_2) false _ A12.out).mono ?_); rintro e w' ⟨rfl, ⟨nd, rfl⟩⟩; refine ⟨_, rfl, ?_⟩; have p14 : 0 ≤ (x3_2 : Int) := of_decide_eq_true (by first | (with_reducible assumption) | assumption); have q14 : x3_2 < (a0.size : Int) := of_decide_eq_true (by first | (with_reducible assumption) | assumption); have hx14 := bt_at a0 x3_2; replace p14 := eq_true p14; replace q14 := eq_true q14; have p16 : 0 ≤ (x3_2 : Int) := of_decide_eq_true (by first | (with_reducible assumption) | assumption); have q16 : x3_2 < (a0.size : Int) := of_decide_eq_true (by first | (with_reducible assumption) | assumption); have hx16 := bt_at a0 x3_2; replace p16 := eq_true p16; replace q16 := eq_true q16; have p18 : 0 ≤ (x3_2 : Int) := of_decide_eq_true (by first | (with_reducible assumption) | assumption); have q18 : x3_2 < (a0.size : Int) := of_decide_eq_true (by first | (with_reducible assumption) | assumption); have hx18 := bt_at a0 x3_2; replace p18 := eq_true p18; replace q18 := eq_true q18))
            go_ret
            exact ⟨by first | rfl | (simp; done) | (simp [*]; done), by repeat (first | exact Drawn0.refl _ | apply Drawn0.step)⟩
       ·rw [if_neg c10] at H
        exact absurd H (by simp)
      ·rw [if_neg c9] at H
       have c9b0 : decide (x3_2 < (a0.size : Int)) = false := decide_eq_false c9
       clear c9
       obtain rfl := Option.some.inj H
       go_wp2
       go_ret
       exact ⟨by first | rfl | (simp; done) | (simp [*]; done), by repeat (first | exact Drawn0.refl _ | apply Drawn0.step)⟩
end Go.Proofs.Ytjmlloiolppoiaa.P
end
section
namespace Go.Proofs.Ytjmlloiolppoiaa.P
open Go.RowKit Go.Proofs.YtjmlloiolppoiaaW.PrintWords Go.Proofs.YtjmlloiolppoiaaW.PrintLast Go.Proofs.YtjmlloiolppoiaaW.PrintMore
set_option linter.unusedVariables false
set_option linter.unusedSimpArgs false
def entailref1_ID.l0 : Nat → ByteArray → Int → Option (Bool)
 | 0, _, _ => none
 | k + 1, x0, x3 => if x3 < (x0.size : Int) then (if 0 ≤ x3 then ((entailref1_alnum.f (bt x0 x3)).bind fun t156 => (if t156 = true then (entailref1_ID.l0 k x0 (wrap64 (x3 + 1))) else (if (bt x0 x3) = 95 then (entailref1_ID.l0 k x0 (wrap64 (x3 + 1))) else (if (bt x0 x3) = 45 then (entailref1_ID.l0 k x0 (wrap64 (x3 + 1))) else (if (bt x0 x3) = 46 then (entailref1_ID.l0 k x0 (wrap64 (x3 + 1))) else (if (bt x0 x3) = 47 then (entailref1_ID.l0 k x0 (wrap64 (x3 + 1))) else (if (bt x0 x3) = 124 then (entailref1_ID.l0 k x0 (wrap64 (x3 + 1))) else (if (bt x0 x3) = 42 then (entailref1_ID.l0 k x0 (wrap64 (x3 + 1))) else (some false))))))))) else (none)) else (if (x0.size : Int) ≥ 1 then (some (decide ((x0.size : Int) ≤ 250))) else (some false))
def entailref1_ID.f (k : Nat) (a0 : ByteArray) : Option (Bool) := entailref1_ID.l0 k a0 0
set_option maxHeartbeats 8000000 in
set_option maxRecDepth 100000 in
theorem entailref1_ID.calls (k : Nat) (a0 : ByteArray) (r : Bool) (w : World) (h : entailref1_ID.f k a0 = some r) :
  Calls Try.prog 30 #[.string a0] w fun e w' => e = .returned (.bool r) ∧ Drawn0 w w' := by
 have H : (entailref1_ID.l0 k a0 0) = some r := h
 clear h
 have H' := Aside0.mk H
 clear H
 go_enter Try.func30, Try.ntmps30
 go_wp2
 go_loopg [3] k (fun kq v3 w' => ∃ (x3_1 : Int), v3 = .int .i64 x3_1 ∧ Aside0 (entailref1_ID.l0 kq a0 x3_1 = some r) ∧ Aside0 (kq ≤ k) ∧ Drawn0 w w')
 case atStart => exact ⟨(0), (by first | rfl | (simp; done) | (simp [*]; done)), H', ⟨Nat.le_refl _⟩, by repeat (first | exact Drawn0.refl _ | apply Drawn0.step)⟩
 case round =>
  clear H'
  obtain ⟨x3_1, rfl, HA, HK1, ⟨m1, rfl⟩⟩ := hrel
  cases gk with
  | zero => exact absurd HA.out (by simp [entailref1_ID.l0])
  | succ k1 =>
   have H := HA.out
   clear HA
   simp only [entailref1_ID.l0] at H
   by_cases c2 : x3_1 < (a0.size : Int)
   ·rw [if_pos c2] at H
    have c2b0 : decide (x3_1 < (a0.size : Int)) = true := decide_eq_true c2
    clear c2
    by_cases c3 : 0 ≤ x3_1
    ·rw [if_pos c3] at H
     have c3b0 : decide (0 ≤ x3_1) = true := decide_eq_true c3
     clear c3
     replace H := Option.bind_eq_some_iff.mp H
     obtain ⟨t156, A50, H⟩ := H
     replace H : (if t156 = true then (entailref1_ID.l0 k1 a0 (wrap64 (x3_1 + 1))) else (if (bt a0 x3_1) = 95 then (entailref1_ID.l0 k1 a0 (wrap64 (x3_1 + 1))) else (if (bt a0 x3_1) = 45 then (entailref1_ID.l0 k1 a0 (wrap64 (x3_1 + 1))) else (if (bt a0 x3_1) = 46 then (entailref1_ID.l0 k1 a0 (wrap64 (x3_1 + 1))) else (if (bt a0 x3_1) = 47 then (entailref1_ID.l0 k1 a0 (wrap64 (x3_1 + 1))) else (if (bt a0 x3_1) = 124 then (entailref1_ID.l0 k1 a0 (wrap64 (x3_1 + 1))) else (if (bt a0 x3_1) = 42 then (entailref1_ID.l0 k1 a0 (wrap64 (x3_1 + 1))) else (some false)))))))) = some r := H
     have A5 := Aside0.mk A50
     clear A50
     by_cases c6 : t156 = true
     ·subst c6
      have H1 : (entailref1_ID.l0 k1 a0 (wrap64 (x3_1 + 1))) = some r := by rw [if_pos rfl] at H; exact H
      clear H
      have H := H1
      clear H1
      have H' := Aside0.mk H
      clear H
      have p4 : 0 ≤ (x3_1 : Int) := of_decide_eq_true (by first | (with_reducible assumption) | assumption)
      have q4 : x3_1 < (a0.size : Int) := of_decide_eq_true (by first | (with_reducible assumption) | assumption)
      have hx4 := bt_at a0 x3_1
      replace p4 := eq_true p4
      replace q4 := eq_true q4
      go_wp2_with (first | ((with_reducible refine gate_callee (f := 41) rfl ?_); refine goesL_ (some 15) rfl rfl Try.func41 (by kernel_rfl) rfl #[.int .u8 (bt a0 x3_1)] rfl (by (try simp only [List.map_toArray, List.map_cons, List.map_nil]); first | done | rfl | (simp only [List.length_drop, List.length_take]; rfl)) ?_; (with_reducible refine (entailref1_alnum.calls (bt a0 x3_1) true _ A5.out).mono ?_); rintro e w' ⟨rfl, ⟨nd, rfl⟩⟩; refine ⟨_, rfl, ?_⟩))
      go_roundg k1
      case measure => have := HK1.out; omega
      case rel => exact ⟨(wrap64 (x3_1 + 1)), (by first | rfl | (simp; done) | (simp [*]; done)), H', ⟨by have := HK1.out; omega⟩, by repeat (first | exact Drawn0.refl _ | apply Drawn0.step)⟩
     ·replace c6 := Bool.eq_false_iff.mpr c6
      subst c6
      have H1 : (if (bt a0 x3_1) = 95 then (entailref1_ID.l0 k1 a0 (wrap64 (x3_1 + 1))) else (if (bt a0 x3_1) = 45 then (entailref1_ID.l0 k1 a0 (wrap64 (x3_1 + 1))) else (if (bt a0 x3_1) = 46 then (entailref1_ID.l0 k1 a0 (wrap64 (x3_1 + 1))) else (if (bt a0 x3_1) = 47 then (entailref1_ID.l0 k1 a0 (wrap64 (x3_1 + 1))) else (if (bt a0 x3_1) = 124 then (entailref1_ID.l0 k1 a0 (wrap64 (x3_1 + 1))) else (if (bt a0 x3_1) = 42 then (entailref1_ID.l0 k1 a0 (wrap64 (x3_1 + 1))) else (some false))))))) = some r := by rw [if_neg (show ¬ (false = true) by decide)] at H; exact H
      clear H
      have H := H1
      clear H1
      by_cases c7 : (bt a0 x3_1) = 95
      ·rw [if_pos c7] at H
       have c7b0 : ((bt a0 x3_1) == 95) = true := beq_iff_eq.mpr c7
       have c7b1 : ((bt a0 x3_1) != 95) = false := bne_eq_false_iff_eq.mpr c7
       clear c7
       have H' := Aside0.mk H
       clear H
       have p4 : 0 ≤ (x3_1 : Int) := of_decide_eq_true (by first | (with_reducible assumption) | assumption)
       have q4 : x3_1 < (a0.size : Int) := of_decide_eq_true (by first | (with_reducible assumption) | assumption)
       have hx4 := bt_at a0 x3_1
       replace p4 := eq_true p4
       replace q4 := eq_true q4
       go_wp2_with (first | ((with_reducible refine gate_callee (f := 41) rfl ?_); refine goesL_ (some 15) rfl rfl Try.func41 (by kernel_rfl) rfl #[.int .u8 (bt a0 x3_1)] rfl (by (try simp only [List.map_toArray, List.map_cons, List.map_nil]); first | done | rfl | (simp only [List.length_drop, List.length_take]; rfl)) ?_; (with_reducible refine (entailref1_alnum.calls (bt a0 x3_1) false _ A5.out).mono ?_); rintro e w' ⟨rfl, ⟨nd, rfl⟩⟩; refine ⟨_, rfl, ?_⟩))
       go_roundg k1
       case measure => have := HK1.out; omega
       case rel => exact ⟨(wrap64 (x3_1 + 1)), (by first | rfl | (simp; done) | (simp [*]; done)), H', ⟨by have := HK1.out; omega⟩, by repeat (first | exact Drawn0.refl _ | apply Drawn0.step)⟩
      ·rw [if_neg c7] at H
       have c7b0 : ((bt a0 x3_1) == 95) = false := beq_eq_false_iff_ne.mpr c7
       have c7b1 : ((bt a0 x3_1) != 95) = true := bne_iff_ne.mpr c7
       by_cases c8 : (bt a0 x3_1) = 45
       ·rw [if_pos c8] at H
        have c8b0 : ((bt a0 x3_1) == 45) = true := beq_iff_eq.mpr c8
        have c8b1 : ((bt a0 x3_1) != 45) = false := bne_eq_false_iff_eq.mpr c8
        clear c8
        have H' := Aside0.mk H
        clear H
        have p4 : 0 ≤ (x3_1 : Int) := of_decide_eq_true (by first | (with_reducible assumption) | assumption)
        have q4 : x3_1 < (a0.size : Int) := of_decide_eq_true (by first | (with_reducible assumption) | assumption)
        have hx4 := bt_at a0 x3_1
        replace p4 := eq_true p4
        replace q4 := eq_true q4
        go_wp2_with (first | ((with_reducible refine gate_callee (f := 41) rfl ?_); refine goesL_ (some 15) rfl rfl Try.func41 (by kernel_rfl) rfl #[.int .u8 (bt a0 x3_1)] rfl (by (try simp only [List.map_toArray, List.map_cons, List.map_nil]); first | done | rfl | (simp only [List.length_drop, List.length_take]; rfl)) ?_; (with_reducible refine (entailref1_alnum.calls (bt a0 x3_1) false _ A5.out).mono ?_); rintro e w' ⟨rfl, ⟨nd, rfl⟩⟩; refine ⟨_, rfl, ?_⟩))
        go_roundg k1
        case measure => have := HK1.out; omega
        case rel => exact ⟨(wrap64 (x3_1 + 1)), (by first | rfl | (simp; done) | (simp [*]; done)), H', ⟨by have := HK1.out; omega⟩, by repeat (first | exact Drawn0.refl _ | apply Drawn0.step)⟩
       ·rw [if_neg c8] at H
        have c8b0 : ((bt a0 x3_1) == 45) = false := beq_eq_false_iff_ne.mpr c8
        have c8b1 : ((bt a0 x3_1) != 45) = true := bne_iff_ne.mpr c8
        by_cases c9 : (bt a0 x3_1) = 46
        ·rw [if_pos c9] at H
         have c9b0 : ((bt a0 x3_1) == 46) = true := beq_iff_eq.mpr c9
         have c9b1 : ((bt a0 x3_1) != 46) = false := bne_eq_false_iff_eq.mpr c9
         clear c9
         have H' := Aside0.mk H
         clear H
         have p4 : 0 ≤ (x3_1 : Int) := of_decide_eq_true (by first | (with_reducible assumption) | assumption)
         have q4 : x3_1 < (a0.size : Int) := of_decide_eq_true (by first | (with_reducible assumption) | assumption)
         have hx4 := bt_at a0 x3_1
         replace p4 := eq_true p4
         replace q4 := eq_true q4
         go_wp2_with (first | ((with_reducible refine gate_callee (f := 41) rfl ?_); refine goesL_ (some 15) rfl rfl Try.func41 (by kernel_rfl) rfl #[.int .u8 (bt a0 x3_1)] rfl (by (try simp only [List.map_toArray, List.map_cons, List.map_nil]); first | done | rfl | (simp only [List.length_drop, List.length_take]; rfl)) ?_; (with_reducible refine (entailref1_alnum.calls (bt a0 x3_1) false _ A5.out).mono ?_); rintro e w' ⟨rfl, ⟨nd, rfl⟩⟩; refine ⟨_, rfl, ?_⟩))
         go_roundg k1
         case measure => have := HK1.out; omega
         case rel => exact ⟨(wrap64 (x3_1 + 1)), (by first | rfl | (simp; done) | (simp [*]; done)), H', ⟨by have := HK1.out; omega⟩, by repeat (first | exact Drawn0.refl _ | apply Drawn0.step)⟩
        ·rw [if_neg c9] at H
         have c9b0 : ((bt a0 x3_1) == 46) = false := beq_eq_false_iff_ne.mpr c9
         have c9b1 : ((bt a0 x3_1) != 46) = true := bne_iff_ne.mpr c9
         by_cases c10 : (bt a0 x3_1) = 47
         ·rw [if_pos c10] at H
          have c10b0 : ((bt a0 x3_1) == 47) = true := beq_iff_eq.mpr c10
          have c10b1 : ((bt a0 x3_1) != 47) = false := bne_eq_false_iff_eq.mpr c10
          clear c10
          have H' := Aside0.mk H
          clear H
          have p4 : 0 ≤ (x3_1 : Int) := of_decide_eq_true (by first | (with_reducible assumption) | assumption)
          have q4 : x3_1 < (a0.size : Int) := of_decide_eq_true (by first | (with_reducible assumption) | assumption)
          have hx4 := bt_at a0 x3_1
          replace p4 := eq_true p4
          replace q4 := eq_true q4
          go_wp2_with (first | ((with_reducible refine gate_callee (f := 41) rfl ?_); refine goesL_ (some 15) rfl rfl Try.func41 (by kernel_rfl) rfl #[.int .u8 (bt a0 x3_1)] rfl (by (try simp only [List.map_toArray, List.map_cons, List.map_nil]); first | done | rfl | (simp only [List.length_drop, List.length_take]; rfl)) ?_; (with_reducible refine (entailref1_alnum.calls (bt a0 x3_1) false _ A5.out).mono ?_); rintro e w' ⟨rfl, ⟨nd, rfl⟩⟩; refine ⟨_, rfl, ?_⟩))
          go_roundg k1
          case measure => have := HK1.out; omega
          case rel => exact ⟨(wrap64 (x3_1 + 1)), (by first | rfl | (simp; done) | (simp [*]; done)), H', ⟨by have := HK1.out; omega⟩, by repeat (first | exact Drawn0.refl _ | apply Drawn0.step)⟩
         ·rw [if_neg c10] at H
          have c10b0 : ((bt a0 x3_1) == 47) = false := beq_eq_false_iff_ne.mpr c10
          have c10b1 : ((bt a0 x3_1) != 47) = true := bne_iff_ne.mpr c10
          by_cases c11 : (bt a0 x3_1) = 124
          ·rw [if_pos c11] at H
           have c11b0 : ((bt a0 x3_1) == 124) = true := beq_iff_eq.mpr c11
           have c11b1 : ((bt a0 x3_1) != 124) = false := bne_eq_false_iff_eq.mpr c11
           clear c11
           have H' := Aside0.mk H
           clear H
           have p4 : 0 ≤ (x3_1 : Int) := of_decide_eq_true (by first | (with_reducible assumption) | assumption)
           have q4 : x3_1 < (a0.size : Int) := of_decide_eq_true (by first | (with_reducible assumption) | assumption)
           have hx4 := bt_at a0 x3_1
           replace p4 := eq_true p4
           replace q4 := eq_true q4
           go_wp2_with (first | ((with_reducible refine gate_callee (f := 41) rfl ?_); refine goesL_ (some 15) rfl rfl Try.func41 (by kernel_rfl) rfl #[.int .u8 (bt a0 x3_1)] rfl (by (try simp only [List.map_toArray, List.map_cons, List.map_nil]); first | done | rfl | (simp only [List.length_drop, List.length_take]; rfl)) ?_; (with_reducible refine (entailref1_alnum.calls (bt a0 x3_1) false _ A5.out).mono ?_); rintro e w' ⟨rfl, ⟨nd, rfl⟩⟩; refine ⟨_, rfl, ?_⟩))
           go_roundg k1
           case measure => have := HK1.out; omega
           case rel => exact ⟨(wrap64 (x3_1 + 1)), (by first | rfl | (simp; done) | (simp [*]; done)), H', ⟨by have := HK1.out; omega⟩, by repeat (first | exact Drawn0.refl _ | apply Drawn0.step)⟩
          ·rw [if_neg c11] at H
           have c11b0 : ((bt a0 x3_1) == 124) = false := beq_eq_false_iff_ne.mpr c11
           have c11b1 : ((bt a0 x3_1) != 124) = true := bne_iff_ne.mpr c11
           by_cases c12 : (bt a0 x3_1) = 42
           ·rw [if_pos c12] at H
            have c12b0 : ((bt a0 x3_1) == 42) = true := beq_iff_eq.mpr c12
            have c12b1 : ((bt a0 x3_1) != 42) = false := bne_eq_false_iff_eq.mpr c12
            clear c12
            have H' := Aside0.mk H
            clear H
            have p4 : 0 ≤ (x3_1 : Int) := of_decide_eq_true (by first | (with_reducible assumption) | assumption)
            have q4 : x3_1 < (a0.size : Int) := of_decide_eq_true (by first | (with_reducible assumption) | assumption)
            have hx4 := bt_at a0 x3_1
            replace p4 := eq_true p4
            replace q4 := eq_true q4
            go_wp2_with (first | ((with_reducible refine gate_callee (f := 41) rfl ?_); refine goesL_ (some 15) rfl rfl Try.func41 (by kernel_rfl) rfl #[.int .u8 (bt a0 x3_1)] rfl (by (try simp only [List.map_toArray, List.map_cons, List.map_nil]); first | done | rfl | (simp only [List.length_drop, List.length_take]; rfl)) ?_; (with_reducible refine (entailref1_alnum.calls (bt a0 x3_1) false _ A5.out).mono ?_); rintro e w' ⟨rfl, ⟨nd, rfl⟩⟩; refine ⟨_, rfl, ?_⟩))
            go_roundg k1
            case measure => have := HK1.out; omega
            case rel => exact ⟨(wrap64 (x3_1 + 1)), (by first | rfl | (simp; done) | (simp [*]; done)), H', ⟨by have := HK1.out; omega⟩, by repeat (first | exact Drawn0.refl _ | apply Drawn0.step)⟩
           ·rw [if_neg c12] at H
            have c12b0 : ((bt a0 x3_1) == 42) = false := beq_eq_false_iff_ne.mpr c12
            have c12b1 : ((bt a0 x3_1) != 42) = true := bne_iff_ne.mpr c12
            obtain rfl := Option.some.inj H
            have p4 : 0 ≤ (x3_1 : Int) := of_decide_eq_true (by first | (with_reducible assumption) | assumption)
            have q4 : x3_1 < (a0.size : Int) := of_decide_eq_true (by first | (with_reducible assumption) | assumption)
            have hx4 := bt_at a0 x3_1
            replace p4 := eq_true p4
            replace q4 := eq_true q4
            go_wp2_with (first | ((with_reducible refine gate_callee (f := 41) rfl ?_); refine goesL_ (some 15) rfl rfl Try.func41 (by kernel_rfl) rfl #[.int .u8 (bt a0 x3_1)] rfl (by (try simp only [List.map_toArray, List.map_cons, List.map_nil]); first | done | rfl | (simp only [List.length_drop, List.length_take]; rfl)) ?_; (with_reducible refine (entailref1_alnum.calls (bt a0 x3_1) false _ A5.out).mono ?_); rintro e w' ⟨rfl, ⟨nd, rfl⟩⟩; refine ⟨_, rfl, ?_⟩))
            go_ret
            exact ⟨by first | rfl | (simp; done) | (simp [*]; done), by repeat (first | exact Drawn0.refl _ | apply Drawn0.step)⟩
    ·rw [if_neg c3] at H
     exact absurd H (by simp)
   ·rw [if_neg c2] at H
    have c2b0 : decide (x3_1 < (a0.size : Int)) = false := decide_eq_false c2
    clear c2
    by_cases c13 : (a0.size : Int) ≥ 1
    ·rw [if_pos c13] at H
     have c13b0 : decide (1 ≤ (a0.size : Int)) = true := decide_eq_true c13
     have c13b1 : decide (1 ≤ a0.size) = true := decide_eq_true (by omega)
     clear c13
     obtain rfl := Option.some.inj H
     go_wp2
     go_ret
     exact ⟨by first | rfl | (simp; done) | (simp [*]; done), by repeat (first | exact Drawn0.refl _ | apply Drawn0.step)⟩
    ·rw [if_neg c13] at H
     have c13b0 : decide (1 ≤ (a0.size : Int)) = false := decide_eq_false c13
     have c13b1 : decide (1 ≤ a0.size) = false := decide_eq_false (by omega)
     clear c13
     obtain rfl := Option.some.inj H
     go_wp2
     go_ret
     exact ⟨by first | rfl | (simp; done) | (simp [*]; done), by repeat (first | exact Drawn0.refl _ | apply Drawn0.step)⟩
end Go.Proofs.Ytjmlloiolppoiaa.P
end
section
namespace Go.Proofs.Ytjmlloiolppoiaa.Atom
open Go.RowKit Go.Proofs.Ytjmlloiolppoiaa.P Go.Proofs.YtjmlloiolppoiaaW.PrintWords Go.Proofs.YtjmlloiolppoiaaW.PrintLast Go.Proofs.Ytjmlloiolppoiaa.Base
theorem find_l0 (s : ByteArray) (c : UInt8) (hs : s.size ≤ 1000000000000) : ∀ (l : List UInt8) (n : Nat), (A s).drop n = l → n ≤ s.size →
    Ev (fun k => entailref1_Find.l0 k s (c.toNat : Int) (n : Int)) (if Lib.indexByte l c = -1 then -1 else (n : Int) + Lib.indexByte l c)
  | [], n, h, hn => by
    have hn' := drop_nil_of h hn
    refine Ev.step (f := fun _ => some (-1)) (fun k => ?_) ?_
    · simp only [entailref1_Find.l0]; rw [if_neg (by omega)]
    · exact Ev.now _
  | b :: l, n, h, hn => by
    have hlt := lt_drop h
    have hb := bt_drop h
    by_cases e : b = c
    · refine Ev.step (f := fun _ => some (n : Int)) (fun k => ?_) ?_
      · simp only [entailref1_Find.l0]; rw [if_pos (by omega), if_pos (by omega), hb, if_pos (by rw [e])]
      · rw [indexByte_hit b c l e]
        simpa using Ev.now (n : Int)
    · have ih := find_l0 s c hs l (n + 1) (drop_succ h) (by omega)
      refine Ev.step (f := fun k => entailref1_Find.l0 k s (c.toNat : Int) ((n + 1 : Nat) : Int)) (fun k => ?_) ?_
      · simp only [entailref1_Find.l0]; rw [if_pos (by omega), if_pos (by omega), hb, if_neg (by rw [eq_nat]; exact e), wrap_id (by omega) (by omega)]; rfl
      · rw [indexByte_miss b c l e]
        by_cases g : Lib.indexByte l c = -1
        · rw [g] at ih; simpa [g] using ih
        · have h0 := Lib.indexByte_ge l c
          rw [if_neg g] at ih
          have e2 : ((n + 1 : Nat) : Int) + Lib.indexByte l c = (n : Int) + (Lib.indexByte l c + 1) := by omega
          rw [e2] at ih
          rw [if_neg g, if_neg (by omega)]
          exact ih
theorem alnum_eq (c : UInt8) : entailref1_alnum.f (c.toNat : Int) = some (firstB c) := first_eq c
theorem rname_l0 (s : ByteArray) (hs : s.size ≤ 1000000) : ∀ (l : List UInt8) (n : Nat), (A s).drop n = l → n ≤ s.size →
    Ev (fun k => entailref1_Name.l0 k s (n : Int)) (l.all plainB)
  | [], n, h, hn => by
    have := drop_nil_of h hn
    refine Ev.step (f := fun _ => some true) (fun k => ?_) (Ev.now _)
    simp only [entailref1_Name.l0]; rw [if_neg (by omega)]
  | c :: r, n, h, hn => by
    have hlt := lt_drop h
    have hb := bt_drop h
    have ih := rname_l0 s hs r (n + 1) (drop_succ h) (by omega)
    have step : ∀ k, entailref1_Name.l0 (k + 1) s (n : Int) = if plainB c = true then entailref1_Name.l0 k s ((n + 1 : Nat) : Int) else some false := by
      intro k
      simp only [entailref1_Name.l0]
      rw [if_pos (by omega), if_pos (by omega), hb, alnum_eq, wrap_id (by omega) (by omega), plain_of]
      simp only [Option.bind_some]
      by_cases f : firstB c = true
      · rw [f]; rfl
      · rw [show firstB c = false by simpa using f, Bool.false_or]
        by_cases h1 : c.toNat = 95
        · simp [h1]
        · by_cases h2 : c.toNat = 45
          · simp [h2]
          · by_cases h3 : c.toNat = 46
            · simp [h3]
            · have : ¬ (c.toNat = 95 ∨ c.toNat = 45 ∨ c.toNat = 46) := by omega
              rw [decide_eq_false this]
              simp only [Bool.false_eq_true, if_false]
              rw [if_neg (by omega), if_neg (by omega), if_neg (by omega)]
    by_cases g : plainB c = true
    · refine Ev.step (f := fun k => entailref1_Name.l0 k s ((n + 1 : Nat) : Int)) (fun k => by rw [step, if_pos g]) ?_
      rw [List.all_cons, g, Bool.true_and]; exact ih
    · refine Ev.step (f := fun _ => some false) (fun k => by rw [step, if_neg g]) ?_
      rw [List.all_cons, show plainB c = false by simpa using g]; exact Ev.now _
theorem rname_ev (s : ByteArray) : Ev (fun k => entailref1_Name.f k s) (nameL (A s)) := by
  have hz : Ev (fun k => entailref1_Name.j0 k s true) false := Ev.step (f := fun _ => some false) (fun k => by simp only [entailref1_Name.j0, if_true]) (Ev.now _)
  cases hA : A s with
  | nil =>
    have hsz : s.size = 0 := by rw [← A_len, hA]; rfl
    refine Ev.congr (f := fun k => entailref1_Name.j0 k s true) (fun k => ?_) hz
    unfold entailref1_Name.f; rw [if_pos (by omega)]
  | cons c r =>
    have hsz : s.size = r.length + 1 := by rw [← A_len, hA, List.length_cons]
    by_cases g : 30 < s.size
    · rw [name_big (by rw [List.length_cons]; omega)]
      refine Ev.congr (f := fun k => entailref1_Name.j0 k s true) (fun k => ?_) hz
      unfold entailref1_Name.f; rw [if_neg (by omega), if_pos (by omega)]
    · have hb : bt s 0 = (c.toNat : Int) := bt_drop (n := 0) hA
      have e : nameL (c :: r) = (firstB c && (c :: r).all plainB) := by
        unfold nameL; rw [decide_eq_true (by rw [List.length_cons]; omega)]; rfl
      rw [e]
      refine Ev.congr (f := fun k => entailref1_Name.j0 k s (!(firstB c))) (fun k => ?_) ?_
      · unfold entailref1_Name.f; rw [if_neg (by omega), if_neg (by omega), if_pos (by omega), hb, alnum_eq]; rfl
      · by_cases f : firstB c = true
        · rw [f, Bool.true_and]
          refine Ev.step (f := fun k => entailref1_Name.l0 k s ((0 : Nat) : Int)) (fun k => ?_) (rname_l0 s (by omega) (c :: r) 0 hA (by omega))
          simp only [entailref1_Name.j0]; rw [if_neg (by decide)]; rfl
        · rw [show firstB c = false by simpa using f]; exact hz
theorem rid_l0 (s : ByteArray) (hs : s.size ≤ 1000000000000) : ∀ (l : List UInt8) (n : Nat), (A s).drop n = l → n ≤ s.size →
    Ev (fun k => entailref1_ID.l0 k s (n : Int)) (decide (A s ≠ []) && decide ((A s).length ≤ 250) && l.all idB)
  | [], n, h, hn => by
    have := drop_nil_of h hn
    refine Ev.step (f := fun _ => some (decide (A s ≠ []) && decide ((A s).length ≤ 250) && ([] : List UInt8).all idB)) (fun k => ?_) (Ev.now _)
    simp only [entailref1_ID.l0]; rw [if_neg (by omega)]
    by_cases e : A s = []
    · have : s.size = 0 := by rw [← A_len, e]; rfl
      rw [if_neg (by omega)]; simp [e]
    · have : s.size ≠ 0 := by
        intro z; apply e; rw [← A_len] at z; exact List.eq_nil_of_length_eq_zero z
      rw [if_pos (by omega), A_len]; simp [e]; omega
  | c :: r, n, h, hn => by
    have hlt := lt_drop h
    have hb := bt_drop h
    have ih := rid_l0 s hs r (n + 1) (drop_succ h) (by omega)
    have step : ∀ k, entailref1_ID.l0 (k + 1) s (n : Int) = if idB c = true then entailref1_ID.l0 k s ((n + 1 : Nat) : Int) else some false := by
      intro k
      simp only [entailref1_ID.l0]
      rw [if_pos (by omega), if_pos (by omega), hb, alnum_eq, wrap_id (by omega) (by omega), id_of, plain_of]
      simp only [Option.bind_some]
      by_cases f : firstB c = true
      · rw [f]; rfl
      · rw [show firstB c = false by simpa using f, Bool.false_or]
        by_cases h1 : c.toNat = 95
        · simp [h1]
        by_cases h2 : c.toNat = 45
        · simp [h2]
        by_cases h3 : c.toNat = 46
        · simp [h3]
        by_cases h4 : c.toNat = 47
        · simp [h4]
        by_cases h5 : c.toNat = 124
        · simp [h5]
        by_cases h6 : c.toNat = 42
        · simp [h6]
        have e1 : ¬ (c.toNat = 95 ∨ c.toNat = 45 ∨ c.toNat = 46) := by omega
        have e2 : ¬ (c.toNat = 47 ∨ c.toNat = 124 ∨ c.toNat = 42) := by omega
        rw [decide_eq_false e1, decide_eq_false e2]
        simp only [Bool.false_eq_true, Bool.or_false, if_false]
        rw [if_neg (by omega), if_neg (by omega), if_neg (by omega), if_neg (by omega), if_neg (by omega), if_neg (by omega)]
    by_cases g : idB c = true
    · refine Ev.step (f := fun k => entailref1_ID.l0 k s ((n + 1 : Nat) : Int)) (fun k => by rw [step, if_pos g]) ?_
      rw [List.all_cons, g, Bool.true_and]; exact ih
    · refine Ev.step (f := fun _ => some false) (fun k => by rw [step, if_neg g]) ?_
      rw [List.all_cons, show idB c = false by simpa using g, Bool.false_and, Bool.and_false]; exact Ev.now _
theorem rid_ev (s : ByteArray) (hs : s.size ≤ 1000000000000) : Ev (fun k => entailref1_ID.f k s) (idL (A s)) := by
  refine Ev.congr (f := fun k => entailref1_ID.l0 k s ((0 : Nat) : Int)) (fun k => ?_) (rid_l0 s hs (A s) 0 rfl (by omega))
  unfold entailref1_ID.f; rfl
end Go.Proofs.Ytjmlloiolppoiaa.Atom
end
section
namespace Go.Proofs.Ytjmlloiolppoiaa.P
open Go.RowKit Go.Proofs.YtjmlloiolppoiaaW.PrintWords Go.Proofs.YtjmlloiolppoiaaW.PrintLast Go.Proofs.YtjmlloiolppoiaaW.PrintMore
set_option linter.unusedVariables false
set_option linter.unusedSimpArgs false
def entailref1_Ok.f (k : Nat) (a0_0 : ByteArray) (a0_1 : ByteArray) (a0_2 : ByteArray) (a0_3 : ByteArray) (a0_4 : ByteArray) (a0_5 : ByteArray) : Option (Bool) := (entailref1_Name.f k a0_0).bind fun t299 => (if t299 = true then ((entailref1_ID.f k a0_1).bind fun t300 => (if t300 = true then ((entailref1_Name.f k a0_2).bind fun t301 => (if t301 = true then ((entailref1_Name.f k a0_3).bind fun t302 => (if t302 = true then ((entailref1_ID.f k a0_4).bind fun t303 => (if t303 = true then (if a0_5.toList = ([] : List UInt8) then (some true) else ((entailref1_Name.f k a0_5).bind fun t304 => (some t304))) else (some false))) else (some false))) else (some false))) else (some false))) else (some false))
set_option maxHeartbeats 8000000 in
set_option maxRecDepth 100000 in
theorem entailref1_Ok.calls (k : Nat) (a0_0 : ByteArray) (a0_1 : ByteArray) (a0_2 : ByteArray) (a0_3 : ByteArray) (a0_4 : ByteArray) (a0_5 : ByteArray) (r : Bool) (w : World) (h : entailref1_Ok.f k a0_0 a0_1 a0_2 a0_3 a0_4 a0_5 = some r) :
  Calls Try.prog 20 #[.agg #[.string a0_0, .string a0_1, .string a0_2, .string a0_3, .string a0_4, .string a0_5]] w fun e w' => e = .returned (.bool r) ∧ Below w.heap.size w w' := by
 have hu29 := Try.underlying29
 have HB := Aside0.mk (Below.refl w.heap.size w)
 have H : ((entailref1_Name.f k a0_0).bind fun t299 => (if t299 = true then ((entailref1_ID.f k a0_1).bind fun t300 => (if t300 = true then ((entailref1_Name.f k a0_2).bind fun t301 => (if t301 = true then ((entailref1_Name.f k a0_3).bind fun t302 => (if t302 = true then ((entailref1_ID.f k a0_4).bind fun t303 => (if t303 = true then (if a0_5.toList = ([] : List UInt8) then (some true) else ((entailref1_Name.f k a0_5).bind fun t304 => (some t304))) else (some false))) else (some false))) else (some false))) else (some false))) else (some false))) = some r := h
 clear h
 replace H := Option.bind_eq_some_iff.mp H
 obtain ⟨t299, A20, H⟩ := H
 replace H : (if t299 = true then ((entailref1_ID.f k a0_1).bind fun t300 => (if t300 = true then ((entailref1_Name.f k a0_2).bind fun t301 => (if t301 = true then ((entailref1_Name.f k a0_3).bind fun t302 => (if t302 = true then ((entailref1_ID.f k a0_4).bind fun t303 => (if t303 = true then (if a0_5.toList = ([] : List UInt8) then (some true) else ((entailref1_Name.f k a0_5).bind fun t304 => (some t304))) else (some false))) else (some false))) else (some false))) else (some false))) else (some false)) = some r := H
 have A2 := Aside0.mk A20
 clear A20
 by_cases c3 : t299 = true
 ·subst c3
  have H1 : ((entailref1_ID.f k a0_1).bind fun t300 => (if t300 = true then ((entailref1_Name.f k a0_2).bind fun t301 => (if t301 = true then ((entailref1_Name.f k a0_3).bind fun t302 => (if t302 = true then ((entailref1_ID.f k a0_4).bind fun t303 => (if t303 = true then (if a0_5.toList = ([] : List UInt8) then (some true) else ((entailref1_Name.f k a0_5).bind fun t304 => (some t304))) else (some false))) else (some false))) else (some false))) else (some false))) = some r := by rw [if_pos rfl] at H; exact H
  clear H
  have H := H1
  clear H1
  replace H := Option.bind_eq_some_iff.mp H
  obtain ⟨t300, A40, H⟩ := H
  replace H : (if t300 = true then ((entailref1_Name.f k a0_2).bind fun t301 => (if t301 = true then ((entailref1_Name.f k a0_3).bind fun t302 => (if t302 = true then ((entailref1_ID.f k a0_4).bind fun t303 => (if t303 = true then (if a0_5.toList = ([] : List UInt8) then (some true) else ((entailref1_Name.f k a0_5).bind fun t304 => (some t304))) else (some false))) else (some false))) else (some false))) else (some false)) = some r := H
  have A4 := Aside0.mk A40
  clear A40
  by_cases c5 : t300 = true
  ·subst c5
   have H1 : ((entailref1_Name.f k a0_2).bind fun t301 => (if t301 = true then ((entailref1_Name.f k a0_3).bind fun t302 => (if t302 = true then ((entailref1_ID.f k a0_4).bind fun t303 => (if t303 = true then (if a0_5.toList = ([] : List UInt8) then (some true) else ((entailref1_Name.f k a0_5).bind fun t304 => (some t304))) else (some false))) else (some false))) else (some false))) = some r := by rw [if_pos rfl] at H; exact H
   clear H
   have H := H1
   clear H1
   replace H := Option.bind_eq_some_iff.mp H
   obtain ⟨t301, A60, H⟩ := H
   replace H : (if t301 = true then ((entailref1_Name.f k a0_3).bind fun t302 => (if t302 = true then ((entailref1_ID.f k a0_4).bind fun t303 => (if t303 = true then (if a0_5.toList = ([] : List UInt8) then (some true) else ((entailref1_Name.f k a0_5).bind fun t304 => (some t304))) else (some false))) else (some false))) else (some false)) = some r := H
   have A6 := Aside0.mk A60
   clear A60
   by_cases c7 : t301 = true
   ·subst c7
    have H1 : ((entailref1_Name.f k a0_3).bind fun t302 => (if t302 = true then ((entailref1_ID.f k a0_4).bind fun t303 => (if t303 = true then (if a0_5.toList = ([] : List UInt8) then (some true) else ((entailref1_Name.f k a0_5).bind fun t304 => (some t304))) else (some false))) else (some false))) = some r := by rw [if_pos rfl] at H; exact H
    clear H
    have H := H1
    clear H1
    replace H := Option.bind_eq_some_iff.mp H
    obtain ⟨t302, A80, H⟩ := H
    replace H : (if t302 = true then ((entailref1_ID.f k a0_4).bind fun t303 => (if t303 = true then (if a0_5.toList = ([] : List UInt8) then (some true) else ((entailref1_Name.f k a0_5).bind fun t304 => (some t304))) else (some false))) else (some false)) = some r := H
    have A8 := Aside0.mk A80
    clear A80
    by_cases c9 : t302 = true
    ·subst c9
     have H1 : ((entailref1_ID.f k a0_4).bind fun t303 => (if t303 = true then (if a0_5.toList = ([] : List UInt8) then (some true) else ((entailref1_Name.f k a0_5).bind fun t304 => (some t304))) else (some false))) = some r := by rw [if_pos rfl] at H; exact H
     clear H
     have H := H1
     clear H1
     replace H := Option.bind_eq_some_iff.mp H
     obtain ⟨t303, A100, H⟩ := H
     replace H : (if t303 = true then (if a0_5.toList = ([] : List UInt8) then (some true) else ((entailref1_Name.f k a0_5).bind fun t304 => (some t304))) else (some false)) = some r := H
     have A10 := Aside0.mk A100
     clear A100
     by_cases c11 : t303 = true
     ·subst c11
      have H1 : (if a0_5.toList = ([] : List UInt8) then (some true) else ((entailref1_Name.f k a0_5).bind fun t304 => (some t304))) = some r := by rw [if_pos rfl] at H; exact H
      clear H
      have H := H1
      clear H1
      by_cases c12 : a0_5.toList = ([] : List UInt8)
      ·rw [if_pos c12] at H
       have c12b0 : (a0_5.toList == ([] : List UInt8)) = true := beq_iff_eq.mpr c12
       have c12b1 : (a0_5.toList != ([] : List UInt8)) = false := bne_eq_false_iff_eq.mpr c12
       clear c12
       obtain rfl := Option.some.inj H
       go_enter Try.func20, Try.ntmps20
       go_wp2_with (first | ((with_reducible refine gate_dst (N := 1) rfl ?_); refine box_event ?hg (N := 1) ?hd (cs := #[.string a0_0, .string a0_1, .string a0_2, .string a0_3, .string a0_4, .string a0_5]) (t := 29) ?hr ?_; (case hd => rfl); (case hg => rfl); (case hr => first | (go_simp; done) | (go_simp; rfl)); intro gb298 hg w13 hbox hb; have n0_ := Aside0.mk (below_step (by repeat (first | (with_reducible first | exact HB.out | apply below_alloc | apply pw_below_drewN | apply below_drew1) | exact HB.out)) hb); have n1_ := Aside0.mk (hbox); have n2_ := Aside0.mk ((by rw [hg]; exact (below_size (by repeat (first | (with_reducible first | exact HB.out | apply below_alloc | apply pw_below_drewN | apply below_drew1) | exact HB.out))) : w.heap.size ≤ gb298)); have n3_ := Aside0.mk ((by rw [hg]; exact (below_size (by repeat (first | (with_reducible first | exact HB.out | apply below_alloc | apply pw_below_drewN | apply below_drew1) | exact HB.out))) : w.heap.size ≤ gb298)); clear HB; have HB := n0_; have BK298 := n1_; have GW298 := n2_; have GE298 := n3_; clear n0_ n1_ n2_ n3_; clear hb hbox hg; have hcz14_0 : w13.cell? ⟨gb298, 0, none⟩ = some (.string a0_0) := (blk_cell BK298.out 0).trans rfl; have hcz14_1 : w13.cell? ⟨gb298, 1, none⟩ = some (.string a0_1) := (blk_cell BK298.out 1).trans rfl; have hcz14_2 : w13.cell? ⟨gb298, 2, none⟩ = some (.string a0_2) := (blk_cell BK298.out 2).trans rfl; have hcz14_3 : w13.cell? ⟨gb298, 3, none⟩ = some (.string a0_3) := (blk_cell BK298.out 3).trans rfl; have hcz14_4 : w13.cell? ⟨gb298, 4, none⟩ = some (.string a0_4) := (blk_cell BK298.out 4).trans rfl; have hcz14_5 : w13.cell? ⟨gb298, 5, none⟩ = some (.string a0_5) := (blk_cell BK298.out 5).trans rfl; have hfz14_0 := blk_frozen BK298.out 0; have hfz14_1 := blk_frozen BK298.out 1; have hfz14_2 := blk_frozen BK298.out 2; have hfz14_3 := blk_frozen BK298.out 3; have hfz14_4 := blk_frozen BK298.out 4; have hfz14_5 := blk_frozen BK298.out 5) | ((with_reducible refine gate_callee (f := 28) rfl ?_); refine goesL_ (some 6) rfl rfl Try.func28 (by kernel_rfl) rfl #[.string a0_0] rfl (by (try simp only [List.map_toArray, List.map_cons, List.map_nil]); first | done | rfl | (simp only [List.length_drop, List.length_take]; rfl)) ?_; (with_reducible refine (entailref1_Name.calls k a0_0 true _ A2.out).mono ?_); rintro e w' ⟨rfl, ⟨nd, rfl⟩⟩; refine ⟨_, rfl, ?_⟩) | (go_at_call 30; (with_reducible refine (entailref1_ID.calls k a0_1 true _ A4.out).mono ?_); rintro e w' ⟨rfl, ⟨nd, rfl⟩⟩) | (go_at_call 28; (with_reducible refine (entailref1_Name.calls k a0_2 true _ A6.out).mono ?_); rintro e w' ⟨rfl, ⟨nd, rfl⟩⟩) | (go_at_call 28; (with_reducible refine (entailref1_Name.calls k a0_3 true _ A8.out).mono ?_); rintro e w' ⟨rfl, ⟨nd, rfl⟩⟩) | (go_at_call 30; (with_reducible refine (entailref1_ID.calls k a0_4 true _ A10.out).mono ?_); rintro e w' ⟨rfl, ⟨nd, rfl⟩⟩))
       go_ret
       exact ⟨by first | rfl | (simp [errW_none, errW_some] <;> rfl) | (simp [*, errW_none, errW_some] <;> rfl), by repeat (first | (with_reducible first | exact HB.out | apply below_alloc | apply pw_below_drewN | apply below_drew1 | refine below_set ?_ GE298.out) | exact HB.out)⟩
      ·rw [if_neg c12] at H
       have c12b0 : (a0_5.toList == ([] : List UInt8)) = false := beq_eq_false_iff_ne.mpr c12
       have c12b1 : (a0_5.toList != ([] : List UInt8)) = true := bne_iff_ne.mpr c12
       replace H := Option.bind_eq_some_iff.mp H
       obtain ⟨t304, A150, H⟩ := H
       replace H : (some t304) = some r := H
       have A15 := Aside0.mk A150
       clear A150
       obtain rfl := Option.some.inj H
       go_enter Try.func20, Try.ntmps20
       go_wp2_with (first | ((with_reducible refine gate_dst (N := 1) rfl ?_); refine box_event ?hg (N := 1) ?hd (cs := #[.string a0_0, .string a0_1, .string a0_2, .string a0_3, .string a0_4, .string a0_5]) (t := 29) ?hr ?_; (case hd => rfl); (case hg => rfl); (case hr => first | (go_simp; done) | (go_simp; rfl)); intro gb298 hg w16 hbox hb; have n0_ := Aside0.mk (below_step (by repeat (first | (with_reducible first | exact HB.out | apply below_alloc | apply pw_below_drewN | apply below_drew1) | exact HB.out)) hb); have n1_ := Aside0.mk (hbox); have n2_ := Aside0.mk ((by rw [hg]; exact (below_size (by repeat (first | (with_reducible first | exact HB.out | apply below_alloc | apply pw_below_drewN | apply below_drew1) | exact HB.out))) : w.heap.size ≤ gb298)); have n3_ := Aside0.mk ((by rw [hg]; exact (below_size (by repeat (first | (with_reducible first | exact HB.out | apply below_alloc | apply pw_below_drewN | apply below_drew1) | exact HB.out))) : w.heap.size ≤ gb298)); clear HB; have HB := n0_; have BK298 := n1_; have GW298 := n2_; have GE298 := n3_; clear n0_ n1_ n2_ n3_; clear hb hbox hg; have hcz17_0 : w16.cell? ⟨gb298, 0, none⟩ = some (.string a0_0) := (blk_cell BK298.out 0).trans rfl; have hcz17_1 : w16.cell? ⟨gb298, 1, none⟩ = some (.string a0_1) := (blk_cell BK298.out 1).trans rfl; have hcz17_2 : w16.cell? ⟨gb298, 2, none⟩ = some (.string a0_2) := (blk_cell BK298.out 2).trans rfl; have hcz17_3 : w16.cell? ⟨gb298, 3, none⟩ = some (.string a0_3) := (blk_cell BK298.out 3).trans rfl; have hcz17_4 : w16.cell? ⟨gb298, 4, none⟩ = some (.string a0_4) := (blk_cell BK298.out 4).trans rfl; have hcz17_5 : w16.cell? ⟨gb298, 5, none⟩ = some (.string a0_5) := (blk_cell BK298.out 5).trans rfl; have hfz17_0 := blk_frozen BK298.out 0; have hfz17_1 := blk_frozen BK298.out 1; have hfz17_2 := blk_frozen BK298.out 2; have hfz17_3 := blk_frozen BK298.out 3; have hfz17_4 := blk_frozen BK298.out 4; have hfz17_5 := blk_frozen BK298.out 5) | ((with_reducible refine gate_callee (f := 28) rfl ?_); refine goesL_ (some 6) rfl rfl Try.func28 (by kernel_rfl) rfl #[.string a0_0] rfl (by (try simp only [List.map_toArray, List.map_cons, List.map_nil]); first | done | rfl | (simp only [List.length_drop, List.length_take]; rfl)) ?_; (with_reducible refine (entailref1_Name.calls k a0_0 true _ A2.out).mono ?_); rintro e w' ⟨rfl, ⟨nd, rfl⟩⟩; refine ⟨_, rfl, ?_⟩) | (go_at_call 30; (with_reducible refine (entailref1_ID.calls k a0_1 true _ A4.out).mono ?_); rintro e w' ⟨rfl, ⟨nd, rfl⟩⟩) | (go_at_call 28; (with_reducible refine (entailref1_Name.calls k a0_2 true _ A6.out).mono ?_); rintro e w' ⟨rfl, ⟨nd, rfl⟩⟩) | (go_at_call 28; (with_reducible refine (entailref1_Name.calls k a0_3 true _ A8.out).mono ?_); rintro e w' ⟨rfl, ⟨nd, rfl⟩⟩) | (go_at_call 30; (with_reducible refine (entailref1_ID.calls k a0_4 true _ A10.out).mono ?_); rintro e w' ⟨rfl, ⟨nd, rfl⟩⟩) | (go_at_call 28; (with_reducible refine (entailref1_Name.calls k a0_5 t304 _ A15.out).mono ?_); rintro e w' ⟨rfl, ⟨nd, rfl⟩⟩))
       go_ret
       exact ⟨by first | rfl | (simp [errW_none, errW_some] <;> rfl) | (simp [*, errW_none, errW_some] <;> rfl), by repeat (first | (with_reducible first | exact HB.out | apply below_alloc | apply pw_below_drewN | apply below_drew1 | refine below_set ?_ GE298.out) | exact HB.out)⟩
     ·replace c11 := Bool.eq_false_iff.mpr c11
      subst c11
      have H1 : (some false) = some r := by rw [if_neg (show ¬ (false = true) by decide)] at H; exact H
      clear H
      have H := H1
      clear H1
      obtain rfl := Option.some.inj H
      go_enter Try.func20, Try.ntmps20
      go_wp2_with (first | ((with_reducible refine gate_dst (N := 1) rfl ?_); refine box_event ?hg (N := 1) ?hd (cs := #[.string a0_0, .string a0_1, .string a0_2, .string a0_3, .string a0_4, .string a0_5]) (t := 29) ?hr ?_; (case hd => rfl); (case hg => rfl); (case hr => first | (go_simp; done) | (go_simp; rfl)); intro gb298 hg w18 hbox hb; have n0_ := Aside0.mk (below_step (by repeat (first | (with_reducible first | exact HB.out | apply below_alloc | apply pw_below_drewN | apply below_drew1) | exact HB.out)) hb); have n1_ := Aside0.mk (hbox); have n2_ := Aside0.mk ((by rw [hg]; exact (below_size (by repeat (first | (with_reducible first | exact HB.out | apply below_alloc | apply pw_below_drewN | apply below_drew1) | exact HB.out))) : w.heap.size ≤ gb298)); have n3_ := Aside0.mk ((by rw [hg]; exact (below_size (by repeat (first | (with_reducible first | exact HB.out | apply below_alloc | apply pw_below_drewN | apply below_drew1) | exact HB.out))) : w.heap.size ≤ gb298)); clear HB; have HB := n0_; have BK298 := n1_; have GW298 := n2_; have GE298 := n3_; clear n0_ n1_ n2_ n3_; clear hb hbox hg; have hcz19_0 : w18.cell? ⟨gb298, 0, none⟩ = some (.string a0_0) := (blk_cell BK298.out 0).trans rfl; have hcz19_1 : w18.cell? ⟨gb298, 1, none⟩ = some (.string a0_1) := (blk_cell BK298.out 1).trans rfl; have hcz19_2 : w18.cell? ⟨gb298, 2, none⟩ = some (.string a0_2) := (blk_cell BK298.out 2).trans rfl; have hcz19_3 : w18.cell? ⟨gb298, 3, none⟩ = some (.string a0_3) := (blk_cell BK298.out 3).trans rfl; have hcz19_4 : w18.cell? ⟨gb298, 4, none⟩ = some (.string a0_4) := (blk_cell BK298.out 4).trans rfl; have hcz19_5 : w18.cell? ⟨gb298, 5, none⟩ = some (.string a0_5) := (blk_cell BK298.out 5).trans rfl; have hfz19_0 := blk_frozen BK298.out 0; have hfz19_1 := blk_frozen BK298.out 1; have hfz19_2 := blk_frozen BK298.out 2; have hfz19_3 := blk_frozen BK298.out 3; have hfz19_4 := blk_frozen BK298.out 4; have hfz19_5 := blk_frozen BK298.out 5) | ((with_reducible refine gate_callee (f := 28) rfl ?_); refine goesL_ (some 6) rfl rfl Try.func28 (by kernel_rfl) rfl #[.string a0_0] rfl (by (try simp only [List.map_toArray, List.map_cons, List.map_nil]); first | done | rfl | (simp only [List.length_drop, List.length_take]; rfl)) ?_; (with_reducible refine (entailref1_Name.calls k a0_0 true _ A2.out).mono ?_); rintro e w' ⟨rfl, ⟨nd, rfl⟩⟩; refine ⟨_, rfl, ?_⟩) | (go_at_call 30; (with_reducible refine (entailref1_ID.calls k a0_1 true _ A4.out).mono ?_); rintro e w' ⟨rfl, ⟨nd, rfl⟩⟩) | (go_at_call 28; (with_reducible refine (entailref1_Name.calls k a0_2 true _ A6.out).mono ?_); rintro e w' ⟨rfl, ⟨nd, rfl⟩⟩) | (go_at_call 28; (with_reducible refine (entailref1_Name.calls k a0_3 true _ A8.out).mono ?_); rintro e w' ⟨rfl, ⟨nd, rfl⟩⟩) | (go_at_call 30; (with_reducible refine (entailref1_ID.calls k a0_4 false _ A10.out).mono ?_); rintro e w' ⟨rfl, ⟨nd, rfl⟩⟩))
      go_ret
      exact ⟨by first | rfl | (simp [errW_none, errW_some] <;> rfl) | (simp [*, errW_none, errW_some] <;> rfl), by repeat (first | (with_reducible first | exact HB.out | apply below_alloc | apply pw_below_drewN | apply below_drew1 | refine below_set ?_ GE298.out) | exact HB.out)⟩
    ·replace c9 := Bool.eq_false_iff.mpr c9
     subst c9
     have H1 : (some false) = some r := by rw [if_neg (show ¬ (false = true) by decide)] at H; exact H
     clear H
     have H := H1
     clear H1
     obtain rfl := Option.some.inj H
     go_enter Try.func20, Try.ntmps20
     go_wp2_with (first | ((with_reducible refine gate_dst (N := 1) rfl ?_); refine box_event ?hg (N := 1) ?hd (cs := #[.string a0_0, .string a0_1, .string a0_2, .string a0_3, .string a0_4, .string a0_5]) (t := 29) ?hr ?_; (case hd => rfl); (case hg => rfl); (case hr => first | (go_simp; done) | (go_simp; rfl)); intro gb298 hg w20 hbox hb; have n0_ := Aside0.mk (below_step (by repeat (first | (with_reducible first | exact HB.out | apply below_alloc | apply pw_below_drewN | apply below_drew1) | exact HB.out)) hb); have n1_ := Aside0.mk (hbox); have n2_ := Aside0.mk ((by rw [hg]; exact (below_size (by repeat (first | (with_reducible first | exact HB.out | apply below_alloc | apply pw_below_drewN | apply below_drew1) | exact HB.out))) : w.heap.size ≤ gb298)); have n3_ := Aside0.mk ((by rw [hg]; exact (below_size (by repeat (first | (with_reducible first | exact HB.out | apply below_alloc | apply pw_below_drewN | apply below_drew1) | exact HB.out))) : w.heap.size ≤ gb298)); clear HB; have HB := n0_; have BK298 := n1_; have GW298 := n2_; have GE298 := n3_; clear n0_ n1_ n2_ n3_; clear hb hbox hg; have hcz21_0 : w20.cell? ⟨gb298, 0, none⟩ = some (.string a0_0) := (blk_cell BK298.out 0).trans rfl; have hcz21_1 : w20.cell? ⟨gb298, 1, none⟩ = some (.string a0_1) := (blk_cell BK298.out 1).trans rfl; have hcz21_2 : w20.cell? ⟨gb298, 2, none⟩ = some (.string a0_2) := (blk_cell BK298.out 2).trans rfl; have hcz21_3 : w20.cell? ⟨gb298, 3, none⟩ = some (.string a0_3) := (blk_cell BK298.out 3).trans rfl; have hcz21_4 : w20.cell? ⟨gb298, 4, none⟩ = some (.string a0_4) := (blk_cell BK298.out 4).trans rfl; have hcz21_5 : w20.cell? ⟨gb298, 5, none⟩ = some (.string a0_5) := (blk_cell BK298.out 5).trans rfl; have hfz21_0 := blk_frozen BK298.out 0; have hfz21_1 := blk_frozen BK298.out 1; have hfz21_2 := blk_frozen BK298.out 2; have hfz21_3 := blk_frozen BK298.out 3; have hfz21_4 := blk_frozen BK298.out 4; have hfz21_5 := blk_frozen BK298.out 5) | ((with_reducible refine gate_callee (f := 28) rfl ?_); refine goesL_ (some 6) rfl rfl Try.func28 (by kernel_rfl) rfl #[.string a0_0] rfl (by (try simp only [List.map_toArray, List.map_cons, List.map_nil]); first | done | rfl | (simp only [List.length_drop, List.length_take]; rfl)) ?_; (with_reducible refine (entailref1_Name.calls k a0_0 true _ A2.out).mono ?_); rintro e w' ⟨rfl, ⟨nd, rfl⟩⟩; refine ⟨_, rfl, ?_⟩) | (go_at_call 30; (with_reducible refine (entailref1_ID.calls k a0_1 true _ A4.out).mono ?_); rintro e w' ⟨rfl, ⟨nd, rfl⟩⟩) | (go_at_call 28; (with_reducible refine (entailref1_Name.calls k a0_2 true _ A6.out).mono ?_); rintro e w' ⟨rfl, ⟨nd, rfl⟩⟩) | (go_at_call 28; (with_reducible refine (entailref1_Name.calls k a0_3 false _ A8.out).mono ?_); rintro e w' ⟨rfl, ⟨nd, rfl⟩⟩))
     go_ret
     exact ⟨by first | rfl | (simp [errW_none, errW_some] <;> rfl) | (simp [*, errW_none, errW_some] <;> rfl), by repeat (first | (with_reducible first | exact HB.out | apply below_alloc | apply pw_below_drewN | apply below_drew1 | refine below_set ?_ GE298.out) | exact HB.out)⟩
   ·replace c7 := Bool.eq_false_iff.mpr c7
    subst c7
    have H1 : (some false) = some r := by rw [if_neg (show ¬ (false = true) by decide)] at H; exact H
    clear H
    have H := H1
    clear H1
    obtain rfl := Option.some.inj H
    go_enter Try.func20, Try.ntmps20
    go_wp2_with (first | ((with_reducible refine gate_dst (N := 1) rfl ?_); refine box_event ?hg (N := 1) ?hd (cs := #[.string a0_0, .string a0_1, .string a0_2, .string a0_3, .string a0_4, .string a0_5]) (t := 29) ?hr ?_; (case hd => rfl); (case hg => rfl); (case hr => first | (go_simp; done) | (go_simp; rfl)); intro gb298 hg w22 hbox hb; have n0_ := Aside0.mk (below_step (by repeat (first | (with_reducible first | exact HB.out | apply below_alloc | apply pw_below_drewN | apply below_drew1) | exact HB.out)) hb); have n1_ := Aside0.mk (hbox); have n2_ := Aside0.mk ((by rw [hg]; exact (below_size (by repeat (first | (with_reducible first | exact HB.out | apply below_alloc | apply pw_below_drewN | apply below_drew1) | exact HB.out))) : w.heap.size ≤ gb298)); have n3_ := Aside0.mk ((by rw [hg]; exact (below_size (by repeat (first | (with_reducible first | exact HB.out | apply below_alloc | apply pw_below_drewN | apply below_drew1) | exact HB.out))) : w.heap.size ≤ gb298)); clear HB; have HB := n0_; have BK298 := n1_; have GW298 := n2_; have GE298 := n3_; clear n0_ n1_ n2_ n3_; clear hb hbox hg; have hcz23_0 : w22.cell? ⟨gb298, 0, none⟩ = some (.string a0_0) := (blk_cell BK298.out 0).trans rfl; have hcz23_1 : w22.cell? ⟨gb298, 1, none⟩ = some (.string a0_1) := (blk_cell BK298.out 1).trans rfl; have hcz23_2 : w22.cell? ⟨gb298, 2, none⟩ = some (.string a0_2) := (blk_cell BK298.out 2).trans rfl; have hcz23_3 : w22.cell? ⟨gb298, 3, none⟩ = some (.string a0_3) := (blk_cell BK298.out 3).trans rfl; have hcz23_4 : w22.cell? ⟨gb298, 4, none⟩ = some (.string a0_4) := (blk_cell BK298.out 4).trans rfl; have hcz23_5 : w22.cell? ⟨gb298, 5, none⟩ = some (.string a0_5) := (blk_cell BK298.out 5).trans rfl; have hfz23_0 := blk_frozen BK298.out 0; have hfz23_1 := blk_frozen BK298.out 1; have hfz23_2 := blk_frozen BK298.out 2; have hfz23_3 := blk_frozen BK298.out 3; have hfz23_4 := blk_frozen BK298.out 4; have hfz23_5 := blk_frozen BK298.out 5) | ((with_reducible refine gate_callee (f := 28) rfl ?_); refine goesL_ (some 6) rfl rfl Try.func28 (by kernel_rfl) rfl #[.string a0_0] rfl (by (try simp only [List.map_toArray, List.map_cons, List.map_nil]); first | done | rfl | (simp only [List.length_drop, List.length_take]; rfl)) ?_; (with_reducible refine (entailref1_Name.calls k a0_0 true _ A2.out).mono ?_); rintro e w' ⟨rfl, ⟨nd, rfl⟩⟩; refine ⟨_, rfl, ?_⟩) | (go_at_call 30; (with_reducible refine (entailref1_ID.calls k a0_1 true _ A4.out).mono ?_); rintro e w' ⟨rfl, ⟨nd, rfl⟩⟩) | (go_at_call 28; (with_reducible refine (entailref1_Name.calls k a0_2 false _ A6.out).mono ?_); rintro e w' ⟨rfl, ⟨nd, rfl⟩⟩))
    go_ret
    exact ⟨by first | rfl | (simp [errW_none, errW_some] <;> rfl) | (simp [*, errW_none, errW_some] <;> rfl), by repeat (first | (with_reducible first | exact HB.out | apply below_alloc | apply pw_below_drewN | apply below_drew1 | refine below_set ?_ GE298.out) | exact HB.out)⟩
  ·replace c5 := Bool.eq_false_iff.mpr c5
   subst c5
   have H1 : (some false) = some r := by rw [if_neg (show ¬ (false = true) by decide)] at H; exact H
   clear H
   have H := H1
   clear H1
   obtain rfl := Option.some.inj H
   go_enter Try.func20, Try.ntmps20
   go_wp2_with (first | ((with_reducible refine gate_dst (N := 1) rfl ?_); refine box_event ?hg (N := 1) ?hd (cs := #[.string a0_0, .string a0_1, .string a0_2, .string a0_3, .string a0_4, .string a0_5]) (t := 29) ?hr ?_; (case hd => rfl); (case hg => rfl); (case hr => first | (go_simp; done) | (go_simp; rfl)); intro gb298 hg w24 hbox hb; have n0_ := Aside0.mk (below_step (by repeat (first | (with_reducible first | exact HB.out | apply below_alloc | apply pw_below_drewN | apply below_drew1) | exact HB.out)) hb); have n1_ := Aside0.mk (hbox); have n2_ := Aside0.mk ((by rw [hg]; exact (below_size (by repeat (first | (with_reducible first | exact HB.out | apply below_alloc | apply pw_below_drewN | apply below_drew1) | exact HB.out))) : w.heap.size ≤ gb298)); have n3_ := Aside0.mk ((by rw [hg]; exact (below_size (by repeat (first | (with_reducible first | exact HB.out | apply below_alloc | apply pw_below_drewN | apply below_drew1) | exact HB.out))) : w.heap.size ≤ gb298)); clear HB; have HB := n0_; have BK298 := n1_; have GW298 := n2_; have GE298 := n3_; clear n0_ n1_ n2_ n3_; clear hb hbox hg; have hcz25_0 : w24.cell? ⟨gb298, 0, none⟩ = some (.string a0_0) := (blk_cell BK298.out 0).trans rfl; have hcz25_1 : w24.cell? ⟨gb298, 1, none⟩ = some (.string a0_1) := (blk_cell BK298.out 1).trans rfl; have hcz25_2 : w24.cell? ⟨gb298, 2, none⟩ = some (.string a0_2) := (blk_cell BK298.out 2).trans rfl; have hcz25_3 : w24.cell? ⟨gb298, 3, none⟩ = some (.string a0_3) := (blk_cell BK298.out 3).trans rfl; have hcz25_4 : w24.cell? ⟨gb298, 4, none⟩ = some (.string a0_4) := (blk_cell BK298.out 4).trans rfl; have hcz25_5 : w24.cell? ⟨gb298, 5, none⟩ = some (.string a0_5) := (blk_cell BK298.out 5).trans rfl; have hfz25_0 := blk_frozen BK298.out 0; have hfz25_1 := blk_frozen BK298.out 1; have hfz25_2 := blk_frozen BK298.out 2; have hfz25_3 := blk_frozen BK298.out 3; have hfz25_4 := blk_frozen BK298.out 4; have hfz25_5 := blk_frozen BK298.out 5) | ((with_reducible refine gate_callee (f := 28) rfl ?_); refine goesL_ (some 6) rfl rfl Try.func28 (by kernel_rfl) rfl #[.string a0_0] rfl (by (try simp only [List.map_toArray, List.map_cons, List.map_nil]); first | done | rfl | (simp only [List.length_drop, List.length_take]; rfl)) ?_; (with_reducible refine (entailref1_Name.calls k a0_0 true _ A2.out).mono ?_); rintro e w' ⟨rfl, ⟨nd, rfl⟩⟩; refine ⟨_, rfl, ?_⟩) | (go_at_call 30; (with_reducible refine (entailref1_ID.calls k a0_1 false _ A4.out).mono ?_); rintro e w' ⟨rfl, ⟨nd, rfl⟩⟩))
   go_ret
   exact ⟨by first | rfl | (simp [errW_none, errW_some] <;> rfl) | (simp [*, errW_none, errW_some] <;> rfl), by repeat (first | (with_reducible first | exact HB.out | apply below_alloc | apply pw_below_drewN | apply below_drew1 | refine below_set ?_ GE298.out) | exact HB.out)⟩
 ·replace c3 := Bool.eq_false_iff.mpr c3
  subst c3
  have H1 : (some false) = some r := by rw [if_neg (show ¬ (false = true) by decide)] at H; exact H
  clear H
  have H := H1
  clear H1
  obtain rfl := Option.some.inj H
  go_enter Try.func20, Try.ntmps20
  go_wp2_with (first | ((with_reducible refine gate_dst (N := 1) rfl ?_); refine box_event ?hg (N := 1) ?hd (cs := #[.string a0_0, .string a0_1, .string a0_2, .string a0_3, .string a0_4, .string a0_5]) (t := 29) ?hr ?_; (case hd => rfl); (case hg => rfl); (case hr => first | (go_simp; done) | (go_simp; rfl)); intro gb298 hg w26 hbox hb; have n0_ := Aside0.mk (below_step (by repeat (first | (with_reducible first | exact HB.out | apply below_alloc | apply pw_below_drewN | apply below_drew1) | exact HB.out)) hb); have n1_ := Aside0.mk (hbox); have n2_ := Aside0.mk ((by rw [hg]; exact (below_size (by repeat (first | (with_reducible first | exact HB.out | apply below_alloc | apply pw_below_drewN | apply below_drew1) | exact HB.out))) : w.heap.size ≤ gb298)); have n3_ := Aside0.mk ((by rw [hg]; exact (below_size (by repeat (first | (with_reducible first | exact HB.out | apply below_alloc | apply pw_below_drewN | apply below_drew1) | exact HB.out))) : w.heap.size ≤ gb298)); clear HB; have HB := n0_; have BK298 := n1_; have GW298 := n2_; have GE298 := n3_; clear n0_ n1_ n2_ n3_; clear hb hbox hg; have hcz27_0 : w26.cell? ⟨gb298, 0, none⟩ = some (.string a0_0) := (blk_cell BK298.out 0).trans rfl; have hcz27_1 : w26.cell? ⟨gb298, 1, none⟩ = some (.string a0_1) := (blk_cell BK298.out 1).trans rfl; have hcz27_2 : w26.cell? ⟨gb298, 2, none⟩ = some (.string a0_2) := (blk_cell BK298.out 2).trans rfl; have hcz27_3 : w26.cell? ⟨gb298, 3, none⟩ = some (.string a0_3) := (blk_cell BK298.out 3).trans rfl; have hcz27_4 : w26.cell? ⟨gb298, 4, none⟩ = some (.string a0_4) := (blk_cell BK298.out 4).trans rfl; have hcz27_5 : w26.cell? ⟨gb298, 5, none⟩ = some (.string a0_5) := (blk_cell BK298.out 5).trans rfl; have hfz27_0 := blk_frozen BK298.out 0; have hfz27_1 := blk_frozen BK298.out 1; have hfz27_2 := blk_frozen BK298.out 2; have hfz27_3 := blk_frozen BK298.out 3; have hfz27_4 := blk_frozen BK298.out 4; have hfz27_5 := blk_frozen BK298.out 5) | ((with_reducible refine gate_callee (f := 28) rfl ?_); refine goesL_ (some 6) rfl rfl Try.func28 (by kernel_rfl) rfl #[.string a0_0] rfl (by (try simp only [List.map_toArray, List.map_cons, List.map_nil]); first | done | rfl | (simp only [List.length_drop, List.length_take]; rfl)) ?_; (with_reducible refine (entailref1_Name.calls k a0_0 false _ A2.out).mono ?_); rintro e w' ⟨rfl, ⟨nd, rfl⟩⟩; refine ⟨_, rfl, ?_⟩))
  go_ret
  exact ⟨by first | rfl | (simp [errW_none, errW_some] <;> rfl) | (simp [*, errW_none, errW_some] <;> rfl), by repeat (first | (with_reducible first | exact HB.out | apply below_alloc | apply pw_below_drewN | apply below_drew1 | refine below_set ?_ GE298.out) | exact HB.out)⟩
end Go.Proofs.Ytjmlloiolppoiaa.P
end
section
namespace Go.Proofs.Ytjmlloiolppoiaa.P
open Go.RowKit Go.Proofs.YtjmlloiolppoiaaW.PrintWords Go.Proofs.YtjmlloiolppoiaaW.PrintLast Go.Proofs.YtjmlloiolppoiaaW.PrintMore
set_option linter.unusedVariables false
set_option linter.unusedSimpArgs false
def entailref1_Text.f (k : Nat) (a0_0 : ByteArray) (a0_1 : ByteArray) (a0_2 : ByteArray) (a0_3 : ByteArray) (a0_4 : ByteArray) (a0_5 : ByteArray) : Option (ByteArray) := (entailref1_Ok.f k a0_0 a0_1 a0_2 a0_3 a0_4 a0_5).bind fun t306 => (if t306 = true then (if a0_0.size + 1 ≤ 9223372036854775807 then (if (a0_0 ++ (⟨#[58]⟩ : ByteArray)).size + a0_1.size ≤ 9223372036854775807 then (if ((a0_0 ++ (⟨#[58]⟩ : ByteArray)) ++ a0_1).size + 1 ≤ 9223372036854775807 then (if (((a0_0 ++ (⟨#[58]⟩ : ByteArray)) ++ a0_1) ++ (⟨#[35]⟩ : ByteArray)).size + a0_2.size ≤ 9223372036854775807 then (if ((((a0_0 ++ (⟨#[58]⟩ : ByteArray)) ++ a0_1) ++ (⟨#[35]⟩ : ByteArray)) ++ a0_2).size + 1 ≤ 9223372036854775807 then (if (((((a0_0 ++ (⟨#[58]⟩ : ByteArray)) ++ a0_1) ++ (⟨#[35]⟩ : ByteArray)) ++ a0_2) ++ (⟨#[64]⟩ : ByteArray)).size + a0_3.size ≤ 9223372036854775807 then (if ((((((a0_0 ++ (⟨#[58]⟩ : ByteArray)) ++ a0_1) ++ (⟨#[35]⟩ : ByteArray)) ++ a0_2) ++ (⟨#[64]⟩ : ByteArray)) ++ a0_3).size + 1 ≤ 9223372036854775807 then (if (((((((a0_0 ++ (⟨#[58]⟩ : ByteArray)) ++ a0_1) ++ (⟨#[35]⟩ : ByteArray)) ++ a0_2) ++ (⟨#[64]⟩ : ByteArray)) ++ a0_3) ++ (⟨#[58]⟩ : ByteArray)).size + a0_4.size ≤ 9223372036854775807 then (if a0_5.toList = ([] : List UInt8) then (some ((((((((a0_0 ++ (⟨#[58]⟩ : ByteArray)) ++ a0_1) ++ (⟨#[35]⟩ : ByteArray)) ++ a0_2) ++ (⟨#[64]⟩ : ByteArray)) ++ a0_3) ++ (⟨#[58]⟩ : ByteArray)) ++ a0_4)) else (if ((((((((a0_0 ++ (⟨#[58]⟩ : ByteArray)) ++ a0_1) ++ (⟨#[35]⟩ : ByteArray)) ++ a0_2) ++ (⟨#[64]⟩ : ByteArray)) ++ a0_3) ++ (⟨#[58]⟩ : ByteArray)) ++ a0_4).size + 1 ≤ 9223372036854775807 then (if (((((((((a0_0 ++ (⟨#[58]⟩ : ByteArray)) ++ a0_1) ++ (⟨#[35]⟩ : ByteArray)) ++ a0_2) ++ (⟨#[64]⟩ : ByteArray)) ++ a0_3) ++ (⟨#[58]⟩ : ByteArray)) ++ a0_4) ++ (⟨#[35]⟩ : ByteArray)).size + a0_5.size ≤ 9223372036854775807 then (some ((((((((((a0_0 ++ (⟨#[58]⟩ : ByteArray)) ++ a0_1) ++ (⟨#[35]⟩ : ByteArray)) ++ a0_2) ++ (⟨#[64]⟩ : ByteArray)) ++ a0_3) ++ (⟨#[58]⟩ : ByteArray)) ++ a0_4) ++ (⟨#[35]⟩ : ByteArray)) ++ a0_5)) else (none)) else (none))) else (none)) else (none)) else (none)) else (none)) else (none)) else (none)) else (none)) else (none)) else (some (⟨#[]⟩ : ByteArray)))
set_option maxHeartbeats 8000000 in
set_option maxRecDepth 100000 in
theorem entailref1_Text.calls (k : Nat) (a0_0 : ByteArray) (a0_1 : ByteArray) (a0_2 : ByteArray) (a0_3 : ByteArray) (a0_4 : ByteArray) (a0_5 : ByteArray) (r : ByteArray) (w : World) (h : entailref1_Text.f k a0_0 a0_1 a0_2 a0_3 a0_4 a0_5 = some r) :
  Calls Try.prog 21 #[.agg #[.string a0_0, .string a0_1, .string a0_2, .string a0_3, .string a0_4, .string a0_5]] w fun e w' => e = .returned (.string r) ∧ Below w.heap.size w w' := by
 have hu29 := Try.underlying29
 have HB := Aside0.mk (Below.refl w.heap.size w)
 have H : ((entailref1_Ok.f k a0_0 a0_1 a0_2 a0_3 a0_4 a0_5).bind fun t306 => (if t306 = true then (if a0_0.size + 1 ≤ 9223372036854775807 then (if (a0_0 ++ (⟨#[58]⟩ : ByteArray)).size + a0_1.size ≤ 9223372036854775807 then (if ((a0_0 ++ (⟨#[58]⟩ : ByteArray)) ++ a0_1).size + 1 ≤ 9223372036854775807 then (if (((a0_0 ++ (⟨#[58]⟩ : ByteArray)) ++ a0_1) ++ (⟨#[35]⟩ : ByteArray)).size + a0_2.size ≤ 9223372036854775807 then (if ((((a0_0 ++ (⟨#[58]⟩ : ByteArray)) ++ a0_1) ++ (⟨#[35]⟩ : ByteArray)) ++ a0_2).size + 1 ≤ 9223372036854775807 then (if (((((a0_0 ++ (⟨#[58]⟩ : ByteArray)) ++ a0_1) ++ (⟨#[35]⟩ : ByteArray)) ++ a0_2) ++ (⟨#[64]⟩ : ByteArray)).size + a0_3.size ≤ 9223372036854775807 then (if ((((((a0_0 ++ (⟨#[58]⟩ : ByteArray)) ++ a0_1) ++ (⟨#[35]⟩ : ByteArray)) ++ a0_2) ++ (⟨#[64]⟩ : ByteArray)) ++ a0_3).size + 1 ≤ 9223372036854775807 then (if (((((((a0_0 ++ (⟨#[58]⟩ : ByteArray)) ++ a0_1) ++ (⟨#[35]⟩ : ByteArray)) ++ a0_2) ++ (⟨#[64]⟩ : ByteArray)) ++ a0_3) ++ (⟨#[58]⟩ : ByteArray)).size + a0_4.size ≤ 9223372036854775807 then (if a0_5.toList = ([] : List UInt8) then (some ((((((((a0_0 ++ (⟨#[58]⟩ : ByteArray)) ++ a0_1) ++ (⟨#[35]⟩ : ByteArray)) ++ a0_2) ++ (⟨#[64]⟩ : ByteArray)) ++ a0_3) ++ (⟨#[58]⟩ : ByteArray)) ++ a0_4)) else (if ((((((((a0_0 ++ (⟨#[58]⟩ : ByteArray)) ++ a0_1) ++ (⟨#[35]⟩ : ByteArray)) ++ a0_2) ++ (⟨#[64]⟩ : ByteArray)) ++ a0_3) ++ (⟨#[58]⟩ : ByteArray)) ++ a0_4).size + 1 ≤ 9223372036854775807 then (if (((((((((a0_0 ++ (⟨#[58]⟩ : ByteArray)) ++ a0_1) ++ (⟨#[35]⟩ : ByteArray)) ++ a0_2) ++ (⟨#[64]⟩ : ByteArray)) ++ a0_3) ++ (⟨#[58]⟩ : ByteArray)) ++ a0_4) ++ (⟨#[35]⟩ : ByteArray)).size + a0_5.size ≤ 9223372036854775807 then (some ((((((((((a0_0 ++ (⟨#[58]⟩ : ByteArray)) ++ a0_1) ++ (⟨#[35]⟩ : ByteArray)) ++ a0_2) ++ (⟨#[64]⟩ : ByteArray)) ++ a0_3) ++ (⟨#[58]⟩ : ByteArray)) ++ a0_4) ++ (⟨#[35]⟩ : ByteArray)) ++ a0_5)) else (none)) else (none))) else (none)) else (none)) else (none)) else (none)) else (none)) else (none)) else (none)) else (none)) else (some (⟨#[]⟩ : ByteArray)))) = some r := h
 clear h
 replace H := Option.bind_eq_some_iff.mp H
 obtain ⟨t306, A20, H⟩ := H
 replace H : (if t306 = true then (if a0_0.size + 1 ≤ 9223372036854775807 then (if (a0_0 ++ (⟨#[58]⟩ : ByteArray)).size + a0_1.size ≤ 9223372036854775807 then (if ((a0_0 ++ (⟨#[58]⟩ : ByteArray)) ++ a0_1).size + 1 ≤ 9223372036854775807 then (if (((a0_0 ++ (⟨#[58]⟩ : ByteArray)) ++ a0_1) ++ (⟨#[35]⟩ : ByteArray)).size + a0_2.size ≤ 9223372036854775807 then (if ((((a0_0 ++ (⟨#[58]⟩ : ByteArray)) ++ a0_1) ++ (⟨#[35]⟩ : ByteArray)) ++ a0_2).size + 1 ≤ 9223372036854775807 then (if (((((a0_0 ++ (⟨#[58]⟩ : ByteArray)) ++ a0_1) ++ (⟨#[35]⟩ : ByteArray)) ++ a0_2) ++ (⟨#[64]⟩ : ByteArray)).size + a0_3.size ≤ 9223372036854775807 then (if ((((((a0_0 ++ (⟨#[58]⟩ : ByteArray)) ++ a0_1) ++ (⟨#[35]⟩ : ByteArray)) ++ a0_2) ++ (⟨#[64]⟩ : ByteArray)) ++ a0_3).size + 1 ≤ 9223372036854775807 then (if (((((((a0_0 ++ (⟨#[58]⟩ : ByteArray)) ++ a0_1) ++ (⟨#[35]⟩ : ByteArray)) ++ a0_2) ++ (⟨#[64]⟩ : ByteArray)) ++ a0_3) ++ (⟨#[58]⟩ : ByteArray)).size + a0_4.size ≤ 9223372036854775807 then (if a0_5.toList = ([] : List UInt8) then (some ((((((((a0_0 ++ (⟨#[58]⟩ : ByteArray)) ++ a0_1) ++ (⟨#[35]⟩ : ByteArray)) ++ a0_2) ++ (⟨#[64]⟩ : ByteArray)) ++ a0_3) ++ (⟨#[58]⟩ : ByteArray)) ++ a0_4)) else (if ((((((((a0_0 ++ (⟨#[58]⟩ : ByteArray)) ++ a0_1) ++ (⟨#[35]⟩ : ByteArray)) ++ a0_2) ++ (⟨#[64]⟩ : ByteArray)) ++ a0_3) ++ (⟨#[58]⟩ : ByteArray)) ++ a0_4).size + 1 ≤ 9223372036854775807 then (if (((((((((a0_0 ++ (⟨#[58]⟩ : ByteArray)) ++ a0_1) ++ (⟨#[35]⟩ : ByteArray)) ++ a0_2) ++ (⟨#[64]⟩ : ByteArray)) ++ a0_3) ++ (⟨#[58]⟩ : ByteArray)) ++ a0_4) ++ (⟨#[35]⟩ : ByteArray)).size + a0_5.size ≤ 9223372036854775807 then (some ((((((((((a0_0 ++ (⟨#[58]⟩ : ByteArray)) ++ a0_1) ++ (⟨#[35]⟩ : ByteArray)) ++ a0_2) ++ (⟨#[64]⟩ : ByteArray)) ++ a0_3) ++ (⟨#[58]⟩ : ByteArray)) ++ a0_4) ++ (⟨#[35]⟩ : ByteArray)) ++ a0_5)) else (none)) else (none))) else (none)) else (none)) else (none)) else (none)) else (none)) else (none)) else (none)) else (none)) else (some (⟨#[]⟩ : ByteArray))) = some r := H
 have A2 := Aside0.mk A20
 clear A20
 by_cases c3 : t306 = true
 ·subst c3
  have H1 : (if a0_0.size + 1 ≤ 9223372036854775807 then (if (a0_0 ++ (⟨#[58]⟩ : ByteArray)).size + a0_1.size ≤ 9223372036854775807 then (if ((a0_0 ++ (⟨#[58]⟩ : ByteArray)) ++ a0_1).size + 1 ≤ 9223372036854775807 then (if (((a0_0 ++ (⟨#[58]⟩ : ByteArray)) ++ a0_1) ++ (⟨#[35]⟩ : ByteArray)).size + a0_2.size ≤ 9223372036854775807 then (if ((((a0_0 ++ (⟨#[58]⟩ : ByteArray)) ++ a0_1) ++ (⟨#[35]⟩ : ByteArray)) ++ a0_2).size + 1 ≤ 9223372036854775807 then (if (((((a0_0 ++ (⟨#[58]⟩ : ByteArray)) ++ a0_1) ++ (⟨#[35]⟩ : ByteArray)) ++ a0_2) ++ (⟨#[64]⟩ : ByteArray)).size + a0_3.size ≤ 9223372036854775807 then (if ((((((a0_0 ++ (⟨#[58]⟩ : ByteArray)) ++ a0_1) ++ (⟨#[35]⟩ : ByteArray)) ++ a0_2) ++ (⟨#[64]⟩ : ByteArray)) ++ a0_3).size + 1 ≤ 9223372036854775807 then (if (((((((a0_0 ++ (⟨#[58]⟩ : ByteArray)) ++ a0_1) ++ (⟨#[35]⟩ : ByteArray)) ++ a0_2) ++ (⟨#[64]⟩ : ByteArray)) ++ a0_3) ++ (⟨#[58]⟩ : ByteArray)).size + a0_4.size ≤ 9223372036854775807 then (if a0_5.toList = ([] : List UInt8) then (some ((((((((a0_0 ++ (⟨#[58]⟩ : ByteArray)) ++ a0_1) ++ (⟨#[35]⟩ : ByteArray)) ++ a0_2) ++ (⟨#[64]⟩ : ByteArray)) ++ a0_3) ++ (⟨#[58]⟩ : ByteArray)) ++ a0_4)) else (if ((((((((a0_0 ++ (⟨#[58]⟩ : ByteArray)) ++ a0_1) ++ (⟨#[35]⟩ : ByteArray)) ++ a0_2) ++ (⟨#[64]⟩ : ByteArray)) ++ a0_3) ++ (⟨#[58]⟩ : ByteArray)) ++ a0_4).size + 1 ≤ 9223372036854775807 then (if (((((((((a0_0 ++ (⟨#[58]⟩ : ByteArray)) ++ a0_1) ++ (⟨#[35]⟩ : ByteArray)) ++ a0_2) ++ (⟨#[64]⟩ : ByteArray)) ++ a0_3) ++ (⟨#[58]⟩ : ByteArray)) ++ a0_4) ++ (⟨#[35]⟩ : ByteArray)).size + a0_5.size ≤ 9223372036854775807 then (some ((((((((((a0_0 ++ (⟨#[58]⟩ : ByteArray)) ++ a0_1) ++ (⟨#[35]⟩ : ByteArray)) ++ a0_2) ++ (⟨#[64]⟩ : ByteArray)) ++ a0_3) ++ (⟨#[58]⟩ : ByteArray)) ++ a0_4) ++ (⟨#[35]⟩ : ByteArray)) ++ a0_5)) else (none)) else (none))) else (none)) else (none)) else (none)) else (none)) else (none)) else (none)) else (none)) else (none)) = some r := by rw [if_pos rfl] at H; exact H
  clear H
  have H := H1
  clear H1
  by_cases c4 : a0_0.size + 1 ≤ 9223372036854775807
  ·rw [if_pos c4] at H
   have c4b0 := eq_true c4
   have c4b1 : decide (a0_0.size + 1 ≤ 9223372036854775807) = true := decide_eq_true c4
   try have c4b2 : (9223372036854775807 < a0_0.size + 1) = False := eq_false (Nat.not_lt.2 c4)
   by_cases c5 : (a0_0 ++ (⟨#[58]⟩ : ByteArray)).size + a0_1.size ≤ 9223372036854775807
   ·rw [if_pos c5] at H
    have c5e := c5
    (try simp only [ByteArray.size_append, ByteArray.size_extract, Nat.min_self, show (⟨#[58]⟩ : ByteArray).size = 1 from rfl] at c5e)
    have c5e0 := eq_true c5e
    have c5e1 := decide_eq_true c5e
    (try have c5e2 := eq_false (Nat.not_lt.2 c5e))
    clear c5e
    have c5b0 := eq_true c5
    have c5b1 : decide ((a0_0 ++ (⟨#[58]⟩ : ByteArray)).size + a0_1.size ≤ 9223372036854775807) = true := decide_eq_true c5
    try have c5b2 : (9223372036854775807 < (a0_0 ++ (⟨#[58]⟩ : ByteArray)).size + a0_1.size) = False := eq_false (Nat.not_lt.2 c5)
    by_cases c6 : ((a0_0 ++ (⟨#[58]⟩ : ByteArray)) ++ a0_1).size + 1 ≤ 9223372036854775807
    ·rw [if_pos c6] at H
     have c6e := c6
     (try simp only [ByteArray.size_append, ByteArray.size_extract, Nat.min_self, show (⟨#[58]⟩ : ByteArray).size = 1 from rfl] at c6e)
     have c6e0 := eq_true c6e
     have c6e1 := decide_eq_true c6e
     (try have c6e2 := eq_false (Nat.not_lt.2 c6e))
     clear c6e
     have c6b0 := eq_true c6
     have c6b1 : decide (((a0_0 ++ (⟨#[58]⟩ : ByteArray)) ++ a0_1).size + 1 ≤ 9223372036854775807) = true := decide_eq_true c6
     try have c6b2 : (9223372036854775807 < ((a0_0 ++ (⟨#[58]⟩ : ByteArray)) ++ a0_1).size + 1) = False := eq_false (Nat.not_lt.2 c6)
     by_cases c7 : (((a0_0 ++ (⟨#[58]⟩ : ByteArray)) ++ a0_1) ++ (⟨#[35]⟩ : ByteArray)).size + a0_2.size ≤ 9223372036854775807
     ·rw [if_pos c7] at H
      have c7e := c7
      (try simp only [ByteArray.size_append, ByteArray.size_extract, Nat.min_self, show (⟨#[35]⟩ : ByteArray).size = 1 from rfl, show (⟨#[58]⟩ : ByteArray).size = 1 from rfl] at c7e)
      have c7e0 := eq_true c7e
      have c7e1 := decide_eq_true c7e
      (try have c7e2 := eq_false (Nat.not_lt.2 c7e))
      clear c7e
      have c7b0 := eq_true c7
      have c7b1 : decide ((((a0_0 ++ (⟨#[58]⟩ : ByteArray)) ++ a0_1) ++ (⟨#[35]⟩ : ByteArray)).size + a0_2.size ≤ 9223372036854775807) = true := decide_eq_true c7
      try have c7b2 : (9223372036854775807 < (((a0_0 ++ (⟨#[58]⟩ : ByteArray)) ++ a0_1) ++ (⟨#[35]⟩ : ByteArray)).size + a0_2.size) = False := eq_false (Nat.not_lt.2 c7)
      by_cases c8 : ((((a0_0 ++ (⟨#[58]⟩ : ByteArray)) ++ a0_1) ++ (⟨#[35]⟩ : ByteArray)) ++ a0_2).size + 1 ≤ 9223372036854775807
      ·rw [if_pos c8] at H
       have c8e := c8
       (try simp only [ByteArray.size_append, ByteArray.size_extract, Nat.min_self, show (⟨#[35]⟩ : ByteArray).size = 1 from rfl, show (⟨#[58]⟩ : ByteArray).size = 1 from rfl] at c8e)
       have c8e0 := eq_true c8e
       have c8e1 := decide_eq_true c8e
       (try have c8e2 := eq_false (Nat.not_lt.2 c8e))
       clear c8e
       have c8b0 := eq_true c8
       have c8b1 : decide (((((a0_0 ++ (⟨#[58]⟩ : ByteArray)) ++ a0_1) ++ (⟨#[35]⟩ : ByteArray)) ++ a0_2).size + 1 ≤ 9223372036854775807) = true := decide_eq_true c8
       try have c8b2 : (9223372036854775807 < ((((a0_0 ++ (⟨#[58]⟩ : ByteArray)) ++ a0_1) ++ (⟨#[35]⟩ : ByteArray)) ++ a0_2).size + 1) = False := eq_false (Nat.not_lt.2 c8)
       by_cases c9 : (((((a0_0 ++ (⟨#[58]⟩ : ByteArray)) ++ a0_1) ++ (⟨#[35]⟩ : ByteArray)) ++ a0_2) ++ (⟨#[64]⟩ : ByteArray)).size + a0_3.size ≤ 9223372036854775807
       ·rw [if_pos c9] at H
        have c9e := c9
        (try simp only [ByteArray.size_append, ByteArray.size_extract, Nat.min_self, show (⟨#[35]⟩ : ByteArray).size = 1 from rfl, show (⟨#[58]⟩ : ByteArray).size = 1 from rfl, show (⟨#[64]⟩ : ByteArray).size = 1 from rfl] at c9e)
        have c9e0 := eq_true c9e
        have c9e1 := decide_eq_true c9e
        (try have c9e2 := eq_false (Nat.not_lt.2 c9e))
        clear c9e
        have c9b0 := eq_true c9
        have c9b1 : decide ((((((a0_0 ++ (⟨#[58]⟩ : ByteArray)) ++ a0_1) ++ (⟨#[35]⟩ : ByteArray)) ++ a0_2) ++ (⟨#[64]⟩ : ByteArray)).size + a0_3.size ≤ 9223372036854775807) = true := decide_eq_true c9
        try have c9b2 : (9223372036854775807 < (((((a0_0 ++ (⟨#[58]⟩ : ByteArray)) ++ a0_1) ++ (⟨#[35]⟩ : ByteArray)) ++ a0_2) ++ (⟨#[64]⟩ : ByteArray)).size + a0_3.size) = False := eq_false (Nat.not_lt.2 c9)
        by_cases c10 : ((((((a0_0 ++ (⟨#[58]⟩ : ByteArray)) ++ a0_1) ++ (⟨#[35]⟩ : ByteArray)) ++ a0_2) ++ (⟨#[64]⟩ : ByteArray)) ++ a0_3).size + 1 ≤ 9223372036854775807
        ·rw [if_pos c10] at H
         have c10e := c10
         (try simp only [ByteArray.size_append, ByteArray.size_extract, Nat.min_self, show (⟨#[35]⟩ : ByteArray).size = 1 from rfl, show (⟨#[58]⟩ : ByteArray).size = 1 from rfl, show (⟨#[64]⟩ : ByteArray).size = 1 from rfl] at c10e)
         have c10e0 := eq_true c10e
         have c10e1 := decide_eq_true c10e
         (try have c10e2 := eq_false (Nat.not_lt.2 c10e))
         clear c10e
         have c10b0 := eq_true c10
         have c10b1 : decide (((((((a0_0 ++ (⟨#[58]⟩ : ByteArray)) ++ a0_1) ++ (⟨#[35]⟩ : ByteArray)) ++ a0_2) ++ (⟨#[64]⟩ : ByteArray)) ++ a0_3).size + 1 ≤ 9223372036854775807) = true := decide_eq_true c10
         try have c10b2 : (9223372036854775807 < ((((((a0_0 ++ (⟨#[58]⟩ : ByteArray)) ++ a0_1) ++ (⟨#[35]⟩ : ByteArray)) ++ a0_2) ++ (⟨#[64]⟩ : ByteArray)) ++ a0_3).size + 1) = False := eq_false (Nat.not_lt.2 c10)
         by_cases c11 : (((((((a0_0 ++ (⟨#[58]⟩ : ByteArray)) ++ a0_1) ++ (⟨#[35]⟩ : ByteArray)) ++ a0_2) ++ (⟨#[64]⟩ : ByteArray)) ++ a0_3) ++ (⟨#[58]⟩ : ByteArray)).size + a0_4.size ≤ 9223372036854775807
         ·rw [if_pos c11] at H
          have c11e := c11
          (try simp only [ByteArray.size_append, ByteArray.size_extract, Nat.min_self, show (⟨#[35]⟩ : ByteArray).size = 1 from rfl, show (⟨#[58]⟩ : ByteArray).size = 1 from rfl, show (⟨#[64]⟩ : ByteArray).size = 1 from rfl] at c11e)
          have c11e0 := eq_true c11e
          have c11e1 := decide_eq_true c11e
          (try have c11e2 := eq_false (Nat.not_lt.2 c11e))
          clear c11e
          have c11b0 := eq_true c11
          have c11b1 : decide ((((((((a0_0 ++ (⟨#[58]⟩ : ByteArray)) ++ a0_1) ++ (⟨#[35]⟩ : ByteArray)) ++ a0_2) ++ (⟨#[64]⟩ : ByteArray)) ++ a0_3) ++ (⟨#[58]⟩ : ByteArray)).size + a0_4.size ≤ 9223372036854775807) = true := decide_eq_true c11
          try have c11b2 : (9223372036854775807 < (((((((a0_0 ++ (⟨#[58]⟩ : ByteArray)) ++ a0_1) ++ (⟨#[35]⟩ : ByteArray)) ++ a0_2) ++ (⟨#[64]⟩ : ByteArray)) ++ a0_3) ++ (⟨#[58]⟩ : ByteArray)).size + a0_4.size) = False := eq_false (Nat.not_lt.2 c11)
          by_cases c12 : a0_5.toList = ([] : List UInt8)
          ·rw [if_pos c12] at H
           have c12b0 : (a0_5.toList == ([] : List UInt8)) = true := beq_iff_eq.mpr c12
           have c12b1 : (a0_5.toList != ([] : List UInt8)) = false := bne_eq_false_iff_eq.mpr c12
           clear c12
           obtain rfl := Option.some.inj H
           go_enter Try.func21, Try.ntmps21
           go_wp2_with (first | ((with_reducible refine gate_dst (N := 1) rfl ?_); refine box_event ?hg (N := 1) ?hd (cs := #[.string a0_0, .string a0_1, .string a0_2, .string a0_3, .string a0_4, .string a0_5]) (t := 29) ?hr ?_; (case hd => rfl); (case hg => rfl); (case hr => first | (go_simp; done) | (go_simp; rfl)); intro gb305 hg w13 hbox hb; have n0_ := Aside0.mk (below_step (by repeat (first | (with_reducible first | exact HB.out | apply below_alloc | apply pw_below_drewN | apply below_drew1) | exact HB.out)) hb); have n1_ := Aside0.mk (hbox); have n2_ := Aside0.mk ((by rw [hg]; exact (below_size (by repeat (first | (with_reducible first | exact HB.out | apply below_alloc | apply pw_below_drewN | apply below_drew1) | exact HB.out))) : w.heap.size ≤ gb305)); have n3_ := Aside0.mk ((by rw [hg]; exact (below_size (by repeat (first | (with_reducible first | exact HB.out | apply below_alloc | apply pw_below_drewN | apply below_drew1) | exact HB.out))) : w.heap.size ≤ gb305)); clear HB; have HB := n0_; have BK305 := n1_; have GW305 := n2_; have GE305 := n3_; clear n0_ n1_ n2_ n3_; clear hb hbox hg; have hcz14_0 : w13.cell? ⟨gb305, 0, none⟩ = some (.string a0_0) := (blk_cell BK305.out 0).trans rfl; have hcz14_1 : w13.cell? ⟨gb305, 1, none⟩ = some (.string a0_1) := (blk_cell BK305.out 1).trans rfl; have hcz14_2 : w13.cell? ⟨gb305, 2, none⟩ = some (.string a0_2) := (blk_cell BK305.out 2).trans rfl; have hcz14_3 : w13.cell? ⟨gb305, 3, none⟩ = some (.string a0_3) := (blk_cell BK305.out 3).trans rfl; have hcz14_4 : w13.cell? ⟨gb305, 4, none⟩ = some (.string a0_4) := (blk_cell BK305.out 4).trans rfl; have hcz14_5 : w13.cell? ⟨gb305, 5, none⟩ = some (.string a0_5) := (blk_cell BK305.out 5).trans rfl; have hfz14_0 := blk_frozen BK305.out 0; have hfz14_1 := blk_frozen BK305.out 1; have hfz14_2 := blk_frozen BK305.out 2; have hfz14_3 := blk_frozen BK305.out 3; have hfz14_4 := blk_frozen BK305.out 4; have hfz14_5 := blk_frozen BK305.out 5) | ((with_reducible refine gate_callee (f := 20) rfl ?_); refine goesL_ (some 5) rfl rfl Try.func20 (by kernel_rfl) rfl #[.agg #[.string a0_0, .string a0_1, .string a0_2, .string a0_3, .string a0_4, .string a0_5]] rfl (by (try simp only [List.map_toArray, List.map_cons, List.map_nil]); first | done | rfl | (simp only [List.length_drop, List.length_take]; rfl)) ?_; (with_reducible refine (entailref1_Ok.calls k a0_0 a0_1 a0_2 a0_3 a0_4 a0_5 true _ A2.out).mono ?_); rintro e w15 ⟨rfl, hb⟩; refine ⟨_, rfl, ?_⟩; have n0_ := Aside0.mk (blk_below (g := gb305) (o := .cells #[.string a0_0, .string a0_1, .string a0_2, .string a0_3, .string a0_4, .string a0_5] 29 (0, 0)) (by (with_reducible repeat (first | refine blk_drewN ?_ _ | refine blk_drew ?_ | refine blk_alloc ?_ _)); exact BK305.out) hb); have n1_ := Aside0.mk (below_step (by repeat (first | (with_reducible first | exact HB.out | apply below_alloc | apply pw_below_drewN | apply below_drew1 | refine below_set ?_ GE305.out) | exact HB.out)) hb); clear BK305; clear HB; have BK305 := n0_; have HB := n1_; clear n0_ n1_; (try clear hb); (try clear hb2); (try clear hk); (try clear hi); have hcz16_0 : w15.cell? ⟨gb305, 0, none⟩ = some (.string a0_0) := (blk_cell BK305.out 0).trans rfl; have hcz16_1 : w15.cell? ⟨gb305, 1, none⟩ = some (.string a0_1) := (blk_cell BK305.out 1).trans rfl; have hcz16_2 : w15.cell? ⟨gb305, 2, none⟩ = some (.string a0_2) := (blk_cell BK305.out 2).trans rfl; have hcz16_3 : w15.cell? ⟨gb305, 3, none⟩ = some (.string a0_3) := (blk_cell BK305.out 3).trans rfl; have hcz16_4 : w15.cell? ⟨gb305, 4, none⟩ = some (.string a0_4) := (blk_cell BK305.out 4).trans rfl; have hcz16_5 : w15.cell? ⟨gb305, 5, none⟩ = some (.string a0_5) := (blk_cell BK305.out 5).trans rfl; have hfz16_0 := blk_frozen BK305.out 0; have hfz16_1 := blk_frozen BK305.out 1; have hfz16_2 := blk_frozen BK305.out 2; have hfz16_3 := blk_frozen BK305.out 3; have hfz16_4 := blk_frozen BK305.out 4; have hfz16_5 := blk_frozen BK305.out 5))
           go_ret
           exact ⟨by first | rfl | (simp [errW_none, errW_some] <;> rfl) | (simp [*, errW_none, errW_some] <;> rfl), by repeat (first | (with_reducible first | exact HB.out | apply below_alloc | apply pw_below_drewN | apply below_drew1 | refine below_set ?_ GE305.out) | exact HB.out)⟩
          ·rw [if_neg c12] at H
           have c12b0 : (a0_5.toList == ([] : List UInt8)) = false := beq_eq_false_iff_ne.mpr c12
           have c12b1 : (a0_5.toList != ([] : List UInt8)) = true := bne_iff_ne.mpr c12
           by_cases c17 : ((((((((a0_0 ++ (⟨#[58]⟩ : ByteArray)) ++ a0_1) ++ (⟨#[35]⟩ : ByteArray)) ++ a0_2) ++ (⟨#[64]⟩ : ByteArray)) ++ a0_3) ++ (⟨#[58]⟩ : ByteArray)) ++ a0_4).size + 1 ≤ 9223372036854775807
           ·rw [if_pos c17] at H
            have c17e := c17
            (try simp only [ByteArray.size_append, ByteArray.size_extract, Nat.min_self, show (⟨#[35]⟩ : ByteArray).size = 1 from rfl, show (⟨#[58]⟩ : ByteArray).size = 1 from rfl, show (⟨#[64]⟩ : ByteArray).size = 1 from rfl] at c17e)
            have c17e0 := eq_true c17e
            have c17e1 := decide_eq_true c17e
            (try have c17e2 := eq_false (Nat.not_lt.2 c17e))
            clear c17e
            have c17b0 := eq_true c17
            have c17b1 : decide (((((((((a0_0 ++ (⟨#[58]⟩ : ByteArray)) ++ a0_1) ++ (⟨#[35]⟩ : ByteArray)) ++ a0_2) ++ (⟨#[64]⟩ : ByteArray)) ++ a0_3) ++ (⟨#[58]⟩ : ByteArray)) ++ a0_4).size + 1 ≤ 9223372036854775807) = true := decide_eq_true c17
            try have c17b2 : (9223372036854775807 < ((((((((a0_0 ++ (⟨#[58]⟩ : ByteArray)) ++ a0_1) ++ (⟨#[35]⟩ : ByteArray)) ++ a0_2) ++ (⟨#[64]⟩ : ByteArray)) ++ a0_3) ++ (⟨#[58]⟩ : ByteArray)) ++ a0_4).size + 1) = False := eq_false (Nat.not_lt.2 c17)
            by_cases c18 : (((((((((a0_0 ++ (⟨#[58]⟩ : ByteArray)) ++ a0_1) ++ (⟨#[35]⟩ : ByteArray)) ++ a0_2) ++ (⟨#[64]⟩ : ByteArray)) ++ a0_3) ++ (⟨#[58]⟩ : ByteArray)) ++ a0_4) ++ (⟨#[35]⟩ : ByteArray)).size + a0_5.size ≤ 9223372036854775807
            ·rw [if_pos c18] at H
             have c18e := c18
             (try simp only [ByteArray.size_append, ByteArray.size_extract, Nat.min_self, show (⟨#[35]⟩ : ByteArray).size = 1 from rfl, show (⟨#[58]⟩ : ByteArray).size = 1 from rfl, show (⟨#[64]⟩ : ByteArray).size = 1 from rfl] at c18e)
             have c18e0 := eq_true c18e
             have c18e1 := decide_eq_true c18e
             (try have c18e2 := eq_false (Nat.not_lt.2 c18e))
             clear c18e
             have c18b0 := eq_true c18
             have c18b1 : decide ((((((((((a0_0 ++ (⟨#[58]⟩ : ByteArray)) ++ a0_1) ++ (⟨#[35]⟩ : ByteArray)) ++ a0_2) ++ (⟨#[64]⟩ : ByteArray)) ++ a0_3) ++ (⟨#[58]⟩ : ByteArray)) ++ a0_4) ++ (⟨#[35]⟩ : ByteArray)).size + a0_5.size ≤ 9223372036854775807) = true := decide_eq_true c18
             try have c18b2 : (9223372036854775807 < (((((((((a0_0 ++ (⟨#[58]⟩ : ByteArray)) ++ a0_1) ++ (⟨#[35]⟩ : ByteArray)) ++ a0_2) ++ (⟨#[64]⟩ : ByteArray)) ++ a0_3) ++ (⟨#[58]⟩ : ByteArray)) ++ a0_4) ++ (⟨#[35]⟩ : ByteArray)).size + a0_5.size) = False := eq_false (Nat.not_lt.2 c18)
             obtain rfl := Option.some.inj H
             go_enter Try.func21, Try.ntmps21
             go_wp2_with (first | ((with_reducible refine gate_dst (N := 1) rfl ?_); refine box_event ?hg (N := 1) ?hd (cs := #[.string a0_0, .string a0_1, .string a0_2, .string a0_3, .string a0_4, .string a0_5]) (t := 29) ?hr ?_; (case hd => rfl); (case hg => rfl); (case hr => first | (go_simp; done) | (go_simp; rfl)); intro gb305 hg w19 hbox hb; have n0_ := Aside0.mk (below_step (by repeat (first | (with_reducible first | exact HB.out | apply below_alloc | apply pw_below_drewN | apply below_drew1) | exact HB.out)) hb); have n1_ := Aside0.mk (hbox); have n2_ := Aside0.mk ((by rw [hg]; exact (below_size (by repeat (first | (with_reducible first | exact HB.out | apply below_alloc | apply pw_below_drewN | apply below_drew1) | exact HB.out))) : w.heap.size ≤ gb305)); have n3_ := Aside0.mk ((by rw [hg]; exact (below_size (by repeat (first | (with_reducible first | exact HB.out | apply below_alloc | apply pw_below_drewN | apply below_drew1) | exact HB.out))) : w.heap.size ≤ gb305)); clear HB; have HB := n0_; have BK305 := n1_; have GW305 := n2_; have GE305 := n3_; clear n0_ n1_ n2_ n3_; clear hb hbox hg; have hcz20_0 : w19.cell? ⟨gb305, 0, none⟩ = some (.string a0_0) := (blk_cell BK305.out 0).trans rfl; have hcz20_1 : w19.cell? ⟨gb305, 1, none⟩ = some (.string a0_1) := (blk_cell BK305.out 1).trans rfl; have hcz20_2 : w19.cell? ⟨gb305, 2, none⟩ = some (.string a0_2) := (blk_cell BK305.out 2).trans rfl; have hcz20_3 : w19.cell? ⟨gb305, 3, none⟩ = some (.string a0_3) := (blk_cell BK305.out 3).trans rfl; have hcz20_4 : w19.cell? ⟨gb305, 4, none⟩ = some (.string a0_4) := (blk_cell BK305.out 4).trans rfl; have hcz20_5 : w19.cell? ⟨gb305, 5, none⟩ = some (.string a0_5) := (blk_cell BK305.out 5).trans rfl; have hfz20_0 := blk_frozen BK305.out 0; have hfz20_1 := blk_frozen BK305.out 1; have hfz20_2 := blk_frozen BK305.out 2; have hfz20_3 := blk_frozen BK305.out 3; have hfz20_4 := blk_frozen BK305.out 4; have hfz20_5 := blk_frozen BK305.out 5) | ((with_reducible refine gate_callee (f := 20) rfl ?_); refine goesL_ (some 5) rfl rfl Try.func20 (by kernel_rfl) rfl #[.agg #[.string a0_0, .string a0_1, .string a0_2, .string a0_3, .string a0_4, .string a0_5]] rfl (by (try simp only [List.map_toArray, List.map_cons, List.map_nil]); first | done | rfl | (simp only [List.length_drop, List.length_take]; rfl)) ?_; (with_reducible refine (entailref1_Ok.calls k a0_0 a0_1 a0_2 a0_3 a0_4 a0_5 true _ A2.out).mono ?_); rintro e w21 ⟨rfl, hb⟩; refine ⟨_, rfl, ?_⟩; have n0_ := Aside0.mk (blk_below (g := gb305) (o := .cells #[.string a0_0, .string a0_1, .string a0_2, .string a0_3, .string a0_4, .string a0_5] 29 (0, 0)) (by (with_reducible repeat (first | refine blk_drewN ?_ _ | refine blk_drew ?_ | refine blk_alloc ?_ _)); exact BK305.out) hb); have n1_ := Aside0.mk (below_step (by repeat (first | (with_reducible first | exact HB.out | apply below_alloc | apply pw_below_drewN | apply below_drew1 | refine below_set ?_ GE305.out) | exact HB.out)) hb); clear BK305; clear HB; have BK305 := n0_; have HB := n1_; clear n0_ n1_; (try clear hb); (try clear hb2); (try clear hk); (try clear hi); have hcz22_0 : w21.cell? ⟨gb305, 0, none⟩ = some (.string a0_0) := (blk_cell BK305.out 0).trans rfl; have hcz22_1 : w21.cell? ⟨gb305, 1, none⟩ = some (.string a0_1) := (blk_cell BK305.out 1).trans rfl; have hcz22_2 : w21.cell? ⟨gb305, 2, none⟩ = some (.string a0_2) := (blk_cell BK305.out 2).trans rfl; have hcz22_3 : w21.cell? ⟨gb305, 3, none⟩ = some (.string a0_3) := (blk_cell BK305.out 3).trans rfl; have hcz22_4 : w21.cell? ⟨gb305, 4, none⟩ = some (.string a0_4) := (blk_cell BK305.out 4).trans rfl; have hcz22_5 : w21.cell? ⟨gb305, 5, none⟩ = some (.string a0_5) := (blk_cell BK305.out 5).trans rfl; have hfz22_0 := blk_frozen BK305.out 0; have hfz22_1 := blk_frozen BK305.out 1; have hfz22_2 := blk_frozen BK305.out 2; have hfz22_3 := blk_frozen BK305.out 3; have hfz22_4 := blk_frozen BK305.out 4; have hfz22_5 := blk_frozen BK305.out 5))
             go_ret
             exact ⟨by first | rfl | (simp [errW_none, errW_some] <;> rfl) | (simp [*, errW_none, errW_some] <;> rfl), by repeat (first | (with_reducible first | exact HB.out | apply below_alloc | apply pw_below_drewN | apply below_drew1 | refine below_set ?_ GE305.out) | exact HB.out)⟩
            ·rw [if_neg c18] at H
             exact absurd H (by simp)
           ·rw [if_neg c17] at H
            exact absurd H (by simp)
         ·rw [if_neg c11] at H
          exact absurd H (by simp)
        ·rw [if_neg c10] at H
         exact absurd H (by simp)
       ·rw [if_neg c9] at H
        exact absurd H (by simp)
      ·rw [if_neg c8] at H
       exact absurd H (by simp)
     ·rw [if_neg c7] at H
      exact absurd H (by simp)
    ·rw [if_neg c6] at H
     exact absurd H (by simp)
   ·rw [if_neg c5] at H
    exact absurd H (by simp)
  ·rw [if_neg c4] at H
   exact absurd H (by simp)
 ·replace c3 := Bool.eq_false_iff.mpr c3
  subst c3
  have H1 : (some (⟨#[]⟩ : ByteArray)) = some r := by rw [if_neg (show ¬ (false = true) by decide)] at H; exact H
  clear H
  have H := H1
  clear H1
  obtain rfl := Option.some.inj H
  go_enter Try.func21, Try.ntmps21
  go_wp2_with (first | ((with_reducible refine gate_dst (N := 1) rfl ?_); refine box_event ?hg (N := 1) ?hd (cs := #[.string a0_0, .string a0_1, .string a0_2, .string a0_3, .string a0_4, .string a0_5]) (t := 29) ?hr ?_; (case hd => rfl); (case hg => rfl); (case hr => first | (go_simp; done) | (go_simp; rfl)); intro gb305 hg w23 hbox hb; have n0_ := Aside0.mk (below_step (by repeat (first | (with_reducible first | exact HB.out | apply below_alloc | apply pw_below_drewN | apply below_drew1) | exact HB.out)) hb); have n1_ := Aside0.mk (hbox); have n2_ := Aside0.mk ((by rw [hg]; exact (below_size (by repeat (first | (with_reducible first | exact HB.out | apply below_alloc | apply pw_below_drewN | apply below_drew1) | exact HB.out))) : w.heap.size ≤ gb305)); have n3_ := Aside0.mk ((by rw [hg]; exact (below_size (by repeat (first | (with_reducible first | exact HB.out | apply below_alloc | apply pw_below_drewN | apply below_drew1) | exact HB.out))) : w.heap.size ≤ gb305)); clear HB; have HB := n0_; have BK305 := n1_; have GW305 := n2_; have GE305 := n3_; clear n0_ n1_ n2_ n3_; clear hb hbox hg; have hcz24_0 : w23.cell? ⟨gb305, 0, none⟩ = some (.string a0_0) := (blk_cell BK305.out 0).trans rfl; have hcz24_1 : w23.cell? ⟨gb305, 1, none⟩ = some (.string a0_1) := (blk_cell BK305.out 1).trans rfl; have hcz24_2 : w23.cell? ⟨gb305, 2, none⟩ = some (.string a0_2) := (blk_cell BK305.out 2).trans rfl; have hcz24_3 : w23.cell? ⟨gb305, 3, none⟩ = some (.string a0_3) := (blk_cell BK305.out 3).trans rfl; have hcz24_4 : w23.cell? ⟨gb305, 4, none⟩ = some (.string a0_4) := (blk_cell BK305.out 4).trans rfl; have hcz24_5 : w23.cell? ⟨gb305, 5, none⟩ = some (.string a0_5) := (blk_cell BK305.out 5).trans rfl; have hfz24_0 := blk_frozen BK305.out 0; have hfz24_1 := blk_frozen BK305.out 1; have hfz24_2 := blk_frozen BK305.out 2; have hfz24_3 := blk_frozen BK305.out 3; have hfz24_4 := blk_frozen BK305.out 4; have hfz24_5 := blk_frozen BK305.out 5) | ((with_reducible refine gate_callee (f := 20) rfl ?_); refine goesL_ (some 5) rfl rfl Try.func20 (by kernel_rfl) rfl #[.agg #[.string a0_0, .string a0_1, .string a0_2, .string a0_3, .string a0_4, .string a0_5]] rfl (by (try simp only [List.map_toArray, List.map_cons, List.map_nil]); first | done | rfl | (simp only [List.length_drop, List.length_take]; rfl)) ?_; (with_reducible refine (entailref1_Ok.calls k a0_0 a0_1 a0_2 a0_3 a0_4 a0_5 false _ A2.out).mono ?_); rintro e w25 ⟨rfl, hb⟩; refine ⟨_, rfl, ?_⟩; have n0_ := Aside0.mk (blk_below (g := gb305) (o := .cells #[.string a0_0, .string a0_1, .string a0_2, .string a0_3, .string a0_4, .string a0_5] 29 (0, 0)) (by (with_reducible repeat (first | refine blk_drewN ?_ _ | refine blk_drew ?_ | refine blk_alloc ?_ _)); exact BK305.out) hb); have n1_ := Aside0.mk (below_step (by repeat (first | (with_reducible first | exact HB.out | apply below_alloc | apply pw_below_drewN | apply below_drew1 | refine below_set ?_ GE305.out) | exact HB.out)) hb); clear BK305; clear HB; have BK305 := n0_; have HB := n1_; clear n0_ n1_; (try clear hb); (try clear hb2); (try clear hk); (try clear hi)))
  go_ret
  exact ⟨by first | rfl | (simp [errW_none, errW_some] <;> rfl) | (simp [*, errW_none, errW_some] <;> rfl), by repeat (first | (with_reducible first | exact HB.out | apply below_alloc | apply pw_below_drewN | apply below_drew1 | refine below_set ?_ GE305.out) | exact HB.out)⟩
end Go.Proofs.Ytjmlloiolppoiaa.P
end
section
namespace Go.Proofs.Ytjmlloiolppoiaa.P
open Go.RowKit Go.Proofs.YtjmlloiolppoiaaW.PrintWords Go.Proofs.YtjmlloiolppoiaaW.PrintLast Go.Proofs.YtjmlloiolppoiaaW.PrintMore
set_option linter.unusedVariables false
set_option linter.unusedSimpArgs false
def entailref1_six.f (a0_0 : ByteArray) (a0_1 : ByteArray) (a0_2 : ByteArray) (a0_3 : ByteArray) (a0_4 : ByteArray) (a0_5 : ByteArray) : Option (ByteArray × ByteArray × ByteArray × ByteArray × ByteArray × ByteArray) := some (a0_0, a0_1, a0_2, a0_3, a0_4, a0_5)
set_option maxHeartbeats 8000000 in
set_option maxRecDepth 100000 in
theorem entailref1_six.calls (a0_0 : ByteArray) (a0_1 : ByteArray) (a0_2 : ByteArray) (a0_3 : ByteArray) (a0_4 : ByteArray) (a0_5 : ByteArray) (r1 : ByteArray) (r2 : ByteArray) (r3 : ByteArray) (r4 : ByteArray) (r5 : ByteArray) (r6 : ByteArray) (w : World) (h : entailref1_six.f a0_0 a0_1 a0_2 a0_3 a0_4 a0_5 = some (r1, r2, r3, r4, r5, r6)) :
  Calls Try.prog 38 #[.agg #[.string a0_0, .string a0_1, .string a0_2, .string a0_3, .string a0_4, .string a0_5]] w fun e w' => e = .returned (.agg #[.string r1, .string r2, .string r3, .string r4, .string r5, .string r6]) ∧ Below w.heap.size w w' := by
 have hu29 := Try.underlying29
 have hu59 := Try.underlying59
 have HB := Aside0.mk (Below.refl w.heap.size w)
 have H : (some (a0_0, a0_1, a0_2, a0_3, a0_4, a0_5)) = some (r1, r2, r3, r4, r5, r6) := h
 clear h
 simp only [Option.some.injEq, Prod.mk.injEq] at H
 obtain ⟨rfl, rfl, rfl, rfl, rfl, rfl⟩ := H
 go_enter Try.func38, Try.ntmps38
 go_wp2_with (first | ((with_reducible refine gate_dst (N := 1) rfl ?_); refine box_event ?hg (N := 1) ?hd (cs := #[.string a0_0, .string a0_1, .string a0_2, .string a0_3, .string a0_4, .string a0_5]) (t := 29) ?hr ?_; (case hd => rfl); (case hg => rfl); (case hr => first | (go_simp; done) | (go_simp; rfl)); intro gb315 hg w2 hbox hb; have n0_ := Aside0.mk (below_step (by repeat (first | (with_reducible first | exact HB.out | apply below_alloc | apply pw_below_drewN | apply below_drew1) | exact HB.out)) hb); have n1_ := Aside0.mk (hbox); have n2_ := Aside0.mk ((by rw [hg]; exact (below_size (by repeat (first | (with_reducible first | exact HB.out | apply below_alloc | apply pw_below_drewN | apply below_drew1) | exact HB.out))) : w.heap.size ≤ gb315)); have n3_ := Aside0.mk ((by rw [hg]; exact (below_size (by repeat (first | (with_reducible first | exact HB.out | apply below_alloc | apply pw_below_drewN | apply below_drew1) | exact HB.out))) : w.heap.size ≤ gb315)); clear HB; have HB := n0_; have BK315 := n1_; have GW315 := n2_; have GE315 := n3_; clear n0_ n1_ n2_ n3_; clear hb hbox hg) | ((with_reducible refine gate_dst (N := 2) rfl ?_); refine box_event ?hg (N := 2) ?hd (cs := #[.string (⟨#[]⟩ : ByteArray), .string (⟨#[]⟩ : ByteArray), .string (⟨#[]⟩ : ByteArray), .string (⟨#[]⟩ : ByteArray), .string (⟨#[]⟩ : ByteArray), .string (⟨#[]⟩ : ByteArray)]) (t := 59) ?hr ?_; (case hd => rfl); (case hg => rfl); (case hr => first | (go_simp; done) | (go_simp; rfl)); intro gb316 hg w3 hbox hb; have n0_ := Aside0.mk (blk_below (g := gb315) (o := .cells #[.string a0_0, .string a0_1, .string a0_2, .string a0_3, .string a0_4, .string a0_5] 29 (0, 0)) (by (with_reducible repeat (first | refine blk_drewN ?_ _ | refine blk_drew ?_ | refine blk_alloc ?_ _)); exact BK315.out) hb); have n1_ := Aside0.mk (below_step (by repeat (first | (with_reducible first | exact HB.out | apply below_alloc | apply pw_below_drewN | apply below_drew1 | refine below_set ?_ GE315.out) | exact HB.out)) hb); have n2_ := Aside0.mk (hbox); have n3_ := Aside0.mk ((by rw [hg]; exact (below_size (by repeat (first | (with_reducible first | exact HB.out | apply below_alloc | apply pw_below_drewN | apply below_drew1 | refine below_set ?_ GE315.out) | exact HB.out))) : w.heap.size ≤ gb316)); have n4_ := Aside0.mk ((by rw [hg]; exact (below_size (by repeat (first | (with_reducible first | exact HB.out | apply below_alloc | apply pw_below_drewN | apply below_drew1 | refine below_set ?_ GE315.out) | exact HB.out))) : w.heap.size ≤ gb316)); have n5_ := Aside0.mk ((by rw [hg]; exact Nat.ne_of_lt (blk_lt (g := gb315) (o := .cells #[.string a0_0, .string a0_1, .string a0_2, .string a0_3, .string a0_4, .string a0_5] 29 (0, 0)) (by (with_reducible repeat (first | refine blk_drewN ?_ _ | refine blk_drew ?_ | refine blk_alloc ?_ _)); exact BK315.out)) : gb315 ≠ gb316)); have n6_ := Aside0.mk ((by rw [hg]; exact Nat.ne_of_gt (blk_lt (g := gb315) (o := .cells #[.string a0_0, .string a0_1, .string a0_2, .string a0_3, .string a0_4, .string a0_5] 29 (0, 0)) (by (with_reducible repeat (first | refine blk_drewN ?_ _ | refine blk_drew ?_ | refine blk_alloc ?_ _)); exact BK315.out)) : gb316 ≠ gb315)); clear BK315; clear HB; have BK315 := n0_; have HB := n1_; have BK316 := n2_; have GW316 := n3_; have GE316 := n4_; have NB315_316 := n5_; have NB316_315 := n6_; clear n0_ n1_ n2_ n3_ n4_ n5_ n6_; clear hb hbox hg; have hnb4 := NB315_316.out; have hnc4 := NB316_315.out; have hcz5_0 : w3.cell? ⟨gb315, 0, none⟩ = some (.string a0_0) := (blk_cell BK315.out 0).trans rfl; have hcz5_1 : w3.cell? ⟨gb315, 1, none⟩ = some (.string a0_1) := (blk_cell BK315.out 1).trans rfl; have hcz5_2 : w3.cell? ⟨gb315, 2, none⟩ = some (.string a0_2) := (blk_cell BK315.out 2).trans rfl; have hcz5_3 : w3.cell? ⟨gb315, 3, none⟩ = some (.string a0_3) := (blk_cell BK315.out 3).trans rfl; have hcz5_4 : w3.cell? ⟨gb315, 4, none⟩ = some (.string a0_4) := (blk_cell BK315.out 4).trans rfl; have hcz5_5 : w3.cell? ⟨gb315, 5, none⟩ = some (.string a0_5) := (blk_cell BK315.out 5).trans rfl; have hfz5_0 := blk_frozen BK315.out 0; have hfz5_1 := blk_frozen BK315.out 1; have hfz5_2 := blk_frozen BK315.out 2; have hfz5_3 := blk_frozen BK315.out 3; have hfz5_4 := blk_frozen BK315.out 4; have hfz5_5 := blk_frozen BK315.out 5; have hcz6_0 : w3.cell? ⟨gb316, 0, none⟩ = some (.string (⟨#[]⟩ : ByteArray)) := (blk_cell BK316.out 0).trans rfl; have hcz6_1 : w3.cell? ⟨gb316, 1, none⟩ = some (.string (⟨#[]⟩ : ByteArray)) := (blk_cell BK316.out 1).trans rfl; have hcz6_2 : w3.cell? ⟨gb316, 2, none⟩ = some (.string (⟨#[]⟩ : ByteArray)) := (blk_cell BK316.out 2).trans rfl; have hcz6_3 : w3.cell? ⟨gb316, 3, none⟩ = some (.string (⟨#[]⟩ : ByteArray)) := (blk_cell BK316.out 3).trans rfl; have hcz6_4 : w3.cell? ⟨gb316, 4, none⟩ = some (.string (⟨#[]⟩ : ByteArray)) := (blk_cell BK316.out 4).trans rfl; have hcz6_5 : w3.cell? ⟨gb316, 5, none⟩ = some (.string (⟨#[]⟩ : ByteArray)) := (blk_cell BK316.out 5).trans rfl; have hfz6_0 := blk_frozen BK316.out 0; have hfz6_1 := blk_frozen BK316.out 1; have hfz6_2 := blk_frozen BK316.out 2; have hfz6_3 := blk_frozen BK316.out 3; have hfz6_4 := blk_frozen BK316.out 4; have hfz6_5 := blk_frozen BK316.out 5))
 refine bodyPost_ret (results_cell_row rfl _ _ gb316 59 #[.string a0_0, .string a0_1, .string a0_2, .string a0_3, .string a0_4, .string a0_5] (0, 0) _ rfl (by (with_reducible repeat (first | refine blk_drewN ?_ _ | refine blk_drew ?_ | refine blk_alloc ?_ _)); refine blk_put (cs := #[.string a0_0, .string a0_1, .string a0_2, .string a0_3, .string a0_4, .string (⟨#[]⟩ : ByteArray)]) ?_ 5 _ rfl; (with_reducible repeat (first | refine blk_drewN ?_ _ | refine blk_drew ?_ | refine blk_alloc ?_ _)); refine blk_put (cs := #[.string a0_0, .string a0_1, .string a0_2, .string a0_3, .string (⟨#[]⟩ : ByteArray), .string (⟨#[]⟩ : ByteArray)]) ?_ 4 _ rfl; (with_reducible repeat (first | refine blk_drewN ?_ _ | refine blk_drew ?_ | refine blk_alloc ?_ _)); refine blk_put (cs := #[.string a0_0, .string a0_1, .string a0_2, .string (⟨#[]⟩ : ByteArray), .string (⟨#[]⟩ : ByteArray), .string (⟨#[]⟩ : ByteArray)]) ?_ 3 _ rfl; (with_reducible repeat (first | refine blk_drewN ?_ _ | refine blk_drew ?_ | refine blk_alloc ?_ _)); refine blk_put (cs := #[.string a0_0, .string a0_1, .string (⟨#[]⟩ : ByteArray), .string (⟨#[]⟩ : ByteArray), .string (⟨#[]⟩ : ByteArray), .string (⟨#[]⟩ : ByteArray)]) ?_ 2 _ rfl; (with_reducible repeat (first | refine blk_drewN ?_ _ | refine blk_drew ?_ | refine blk_alloc ?_ _)); refine blk_put (cs := #[.string a0_0, .string (⟨#[]⟩ : ByteArray), .string (⟨#[]⟩ : ByteArray), .string (⟨#[]⟩ : ByteArray), .string (⟨#[]⟩ : ByteArray), .string (⟨#[]⟩ : ByteArray)]) ?_ 1 _ rfl; (with_reducible repeat (first | refine blk_drewN ?_ _ | refine blk_drew ?_ | refine blk_alloc ?_ _)); refine blk_put (cs := #[.string (⟨#[]⟩ : ByteArray), .string (⟨#[]⟩ : ByteArray), .string (⟨#[]⟩ : ByteArray), .string (⟨#[]⟩ : ByteArray), .string (⟨#[]⟩ : ByteArray), .string (⟨#[]⟩ : ByteArray)]) ?_ 0 _ rfl; (with_reducible repeat (first | refine blk_drewN ?_ _ | refine blk_drew ?_ | refine blk_alloc ?_ _)); exact BK316.out) Try.underlying59 rfl (by kernel_rfl)) rfl ?_
 exact ⟨by first | rfl | (simp [errW_none, errW_some] <;> rfl) | (simp [*, errW_none, errW_some] <;> rfl), by repeat (first | (with_reducible first | exact HB.out | apply below_alloc | apply pw_below_drewN | apply below_drew1 | refine below_set ?_ GE315.out | refine below_set ?_ GE316.out) | exact HB.out)⟩
end Go.Proofs.Ytjmlloiolppoiaa.P
end
