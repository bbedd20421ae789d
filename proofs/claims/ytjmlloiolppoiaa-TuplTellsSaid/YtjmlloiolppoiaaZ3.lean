/- Functions of the given program as plain Lean functions, their contracts, and the plain laws: what the row needs of them. -/
import Derived.Test.YtjmlloiolppoiaaProg
import Derived.Test.YtjmlloiolppoiaaZ2
import Derived.Below
import Derived.Deep.Draws
import Derived.Deep.AppendLies
import Derived.Maps.AppendAt
import Derived.OwnWalk
import Derived.Laws.BytesArg
import Derived.Laws.MakeOwn
import Derived.Laws.OwnMore
import Derived.Deep.OwnRows
import Derived.Tactics
import Derived.Lib.ConvBytes
import Derived.Laws.Slices
import Derived.WalkKit
import Derived.KernelRfl
import Derived.RowKit3
import Derived.Deep.LoopGhost
import Derived.Deep.QuietTactic
import Derived.BigQuiet
import Derived.WideLaws
import Derived.Deep.DeepCutAuto
import Derived.Deep.CutBlock
import Derived.Deep.RegionHeld3
import Derived.Laws.Rows
import Derived.Lib.AppendStr
import Derived.ArgAppend
import Derived.Laws.IdiomCopy
import Derived.OrdersHeld
import Derived.Laws.BitsLemmas
import Derived.RowKit
import Derived.Lib.Bytealg
import Derived.Laws.Externs
import Derived.Laws.StructEq
import Derived.Shelf.Strings.Builder1
import Derived.Shelf.Strings.Builder2
import Derived.Shelf.Strings.OnBuilder
import Derived.Shelf.Small.Strs
import Derived.Shelf.Strings.Search1
import Derived.Shelf.Strings.Search2
import Derived.Shelf.Strings.Cut
import Derived.Shelf.LaysM
import Derived.Shelf.Strings.Shaped
import Derived.Lib.IndexBytes
section
namespace Go.Proofs.Ytjmlloiolppoiaa.P
open Go.RowKit Go.Proofs.YtjmlloiolppoiaaW.PrintWords Go.Proofs.YtjmlloiolppoiaaW.PrintLast Go.Proofs.YtjmlloiolppoiaaW.PrintMore
set_option linter.unusedVariables false
set_option linter.unusedSimpArgs false
def entailref1_Less.l0 : Nat → Int → ByteArray → ByteArray → ByteArray → ByteArray → ByteArray → ByteArray → ByteArray → ByteArray → ByteArray → ByteArray → ByteArray → ByteArray → Option (Bool)
 | 0, _, _, _, _, _, _, _, _, _, _, _, _, _ => none
 | k + 1, x7, x332000, x332001, x332002, x332003, x332004, x332005, x333000, x333001, x333002, x333003, x333004, x333005 => if x7 < 6 then (if x7 = 0 then (if x332000.toList = x333000.toList then (entailref1_Less.l0 k (wrap64 (x7 + 1)) x332000 x332001 x332002 x332003 x332004 x332005 x333000 x333001 x333002 x333003 x333004 x333005) else (some (Op.bytesLess x332000.toList x333000.toList))) else (if x7 = 1 then (if x332001.toList = x333001.toList then (entailref1_Less.l0 k (wrap64 (x7 + 1)) x332000 x332001 x332002 x332003 x332004 x332005 x333000 x333001 x333002 x333003 x333004 x333005) else (some (Op.bytesLess x332001.toList x333001.toList))) else (if x7 = 2 then (if x332002.toList = x333002.toList then (entailref1_Less.l0 k (wrap64 (x7 + 1)) x332000 x332001 x332002 x332003 x332004 x332005 x333000 x333001 x333002 x333003 x333004 x333005) else (some (Op.bytesLess x332002.toList x333002.toList))) else (if x7 = 3 then (if x332003.toList = x333003.toList then (entailref1_Less.l0 k (wrap64 (x7 + 1)) x332000 x332001 x332002 x332003 x332004 x332005 x333000 x333001 x333002 x333003 x333004 x333005) else (some (Op.bytesLess x332003.toList x333003.toList))) else (if x7 = 4 then (if x332004.toList = x333004.toList then (entailref1_Less.l0 k (wrap64 (x7 + 1)) x332000 x332001 x332002 x332003 x332004 x332005 x333000 x333001 x333002 x333003 x333004 x333005) else (some (Op.bytesLess x332004.toList x333004.toList))) else (if x7 = 5 then (if x332005.toList = x333005.toList then (entailref1_Less.l0 k (wrap64 (x7 + 1)) x332000 x332001 x332002 x332003 x332004 x332005 x333000 x333001 x333002 x333003 x333004 x333005) else (some (Op.bytesLess x332005.toList x333005.toList))) else (none))))))) else (some false)
def entailref1_Less.f (k : Nat) (a0_0 : ByteArray) (a0_1 : ByteArray) (a0_2 : ByteArray) (a0_3 : ByteArray) (a0_4 : ByteArray) (a0_5 : ByteArray) (a1_0 : ByteArray) (a1_1 : ByteArray) (a1_2 : ByteArray) (a1_3 : ByteArray) (a1_4 : ByteArray) (a1_5 : ByteArray) : Option (Bool) := (entailref1_six.f a0_0 a0_1 a0_2 a0_3 a0_4 a0_5).bind fun bt319 => ((entailref1_six.f a1_0 a1_1 a1_2 a1_3 a1_4 a1_5).bind fun bt325 => (entailref1_Less.l0 k 0 bt319.1 bt319.2.1 bt319.2.2.1 bt319.2.2.2.1 bt319.2.2.2.2.1 bt319.2.2.2.2.2 bt325.1 bt325.2.1 bt325.2.2.1 bt325.2.2.2.1 bt325.2.2.2.2.1 bt325.2.2.2.2.2))
def entailref1_Less.T1 : Bool × List (List Nat × List Nat) := (true, [([], []), ([0], [0]), ([], []), ([2, 1], [2]), ([], []), ([], []), ([4, 1, 3, 0, 1, 4, 5], [1, 4]), ([5, 3, 6, 0, 1, 2, 3, 4, 5, 6], [3, 5])])
def entailref1_Less.B1 : List Nat := [0, 1, 0, 7, 0, 0, 63, 127]
theorem entailref1_Less.tab1 : rtab .any (opsOf Try.f22 1) = entailref1_Less.T1 := by kernel_rfl
theorem entailref1_Less.bits1 : waitsOk entailref1_Less.T1.2 entailref1_Less.B1 = true := by kernel_rfl
def entailref1_Less.T6 : Bool × List (List Nat × List Nat) := (true, [([], []), ([0], [0]), ([1], [1]), ([], []), ([3], [3]), ([4], [4]), ([2, 5], [2, 5]), ([6, 0, 1, 2, 3, 4, 5, 6], [6])])
def entailref1_Less.B6 : List Nat := [0, 1, 3, 0, 8, 24, 63, 127]
theorem entailref1_Less.tab6 : rtab .any (opsOf Try.f22 6) = entailref1_Less.T6 := by kernel_rfl
theorem entailref1_Less.bits6 : waitsOk entailref1_Less.T6.2 entailref1_Less.B6 = true := by kernel_rfl
set_option maxHeartbeats 8000000 in
set_option maxRecDepth 100000 in
theorem entailref1_Less.calls (k : Nat) (a0_0 : ByteArray) (a0_1 : ByteArray) (a0_2 : ByteArray) (a0_3 : ByteArray) (a0_4 : ByteArray) (a0_5 : ByteArray) (a1_0 : ByteArray) (a1_1 : ByteArray) (a1_2 : ByteArray) (a1_3 : ByteArray) (a1_4 : ByteArray) (a1_5 : ByteArray) (r : Bool) (w : World) (h : entailref1_Less.f k a0_0 a0_1 a0_2 a0_3 a0_4 a0_5 a1_0 a1_1 a1_2 a1_3 a1_4 a1_5 = some r) :
  Calls Try.prog 22 #[.agg #[.string a0_0, .string a0_1, .string a0_2, .string a0_3, .string a0_4, .string a0_5], .agg #[.string a1_0, .string a1_1, .string a1_2, .string a1_3, .string a1_4, .string a1_5]] w fun e w' => e = .returned (.bool r) ∧ Below w.heap.size w w' := by
 have hu29 := Try.underlying29
 have hu59 := Try.underlying59
 have HB := Aside0.mk (Below.refl w.heap.size w)
 have H : ((entailref1_six.f a0_0 a0_1 a0_2 a0_3 a0_4 a0_5).bind fun bt319 => ((entailref1_six.f a1_0 a1_1 a1_2 a1_3 a1_4 a1_5).bind fun bt325 => (entailref1_Less.l0 k 0 bt319.1 bt319.2.1 bt319.2.2.1 bt319.2.2.2.1 bt319.2.2.2.2.1 bt319.2.2.2.2.2 bt325.1 bt325.2.1 bt325.2.2.1 bt325.2.2.2.1 bt325.2.2.2.2.1 bt325.2.2.2.2.2))) = some r := h
 clear h
 replace H := Option.bind_eq_some_iff.mp H
 obtain ⟨⟨t319, t320, t321, t322, t323, t324⟩, A30, H⟩ := H
 replace H : ((entailref1_six.f a1_0 a1_1 a1_2 a1_3 a1_4 a1_5).bind fun bt325 => (entailref1_Less.l0 k 0 t319 t320 t321 t322 t323 t324 bt325.1 bt325.2.1 bt325.2.2.1 bt325.2.2.2.1 bt325.2.2.2.2.1 bt325.2.2.2.2.2)) = some r := H
 have A3 := Aside0.mk A30
 clear A30
 replace H := Option.bind_eq_some_iff.mp H
 obtain ⟨⟨t325, t326, t327, t328, t329, t330⟩, A40, H⟩ := H
 replace H : (entailref1_Less.l0 k 0 t319 t320 t321 t322 t323 t324 t325 t326 t327 t328 t329 t330) = some r := H
 have A4 := Aside0.mk A40
 clear A40
 have H' := Aside0.mk H
 clear H
 go_enter Try.func22, Try.ntmps22
 try go_wp2_with (first | ((with_reducible refine gate_dst (N := 2) rfl ?_); refine box_event ?hg (N := 2) ?hd (cs := #[.string a0_0, .string a0_1, .string a0_2, .string a0_3, .string a0_4, .string a0_5]) (t := 29) ?hr ?_; (case hd => rfl); (case hg => rfl); (case hr => first | (go_simp; done) | (go_simp; rfl)); intro gb317 hg w5 hbox hb; have n0_ := Aside0.mk (below_step (by repeat (first | (with_reducible first | exact HB.out | apply below_alloc | apply pw_below_drewN | apply below_drew1) | exact HB.out)) hb); have n1_ := Aside0.mk (hbox); have n2_ := Aside0.mk ((by rw [hg]; exact (below_size (by repeat (first | (with_reducible first | exact HB.out | apply below_alloc | apply pw_below_drewN | apply below_drew1) | exact HB.out))) : w.heap.size ≤ gb317)); have n3_ := Aside0.mk ((by rw [hg]; exact (below_size (by repeat (first | (with_reducible first | exact HB.out | apply below_alloc | apply pw_below_drewN | apply below_drew1) | exact HB.out))) : w.heap.size ≤ gb317)); clear HB; have HB := n0_; have BK317 := n1_; have GW317 := n2_; have GE317 := n3_; clear n0_ n1_ n2_ n3_; clear hb hbox hg) | ((with_reducible refine gate_dst (N := 3) rfl ?_); refine box_event ?hg (N := 3) ?hd (cs := #[.string a1_0, .string a1_1, .string a1_2, .string a1_3, .string a1_4, .string a1_5]) (t := 29) ?hr ?_; (case hd => rfl); (case hg => rfl); (case hr => first | (go_simp; done) | (go_simp; rfl)); intro gb318 hg w6 hbox hb; have n0_ := Aside0.mk (blk_below (g := gb317) (o := .cells #[.string a0_0, .string a0_1, .string a0_2, .string a0_3, .string a0_4, .string a0_5] 29 (0, 0)) (by (with_reducible repeat (first | refine blk_drewN ?_ _ | refine blk_drew ?_ | refine blk_alloc ?_ _)); exact BK317.out) hb); have n1_ := Aside0.mk (below_step (by repeat (first | (with_reducible first | exact HB.out | apply below_alloc | apply pw_below_drewN | apply below_drew1 | refine below_set ?_ GE317.out) | exact HB.out)) hb); have n2_ := Aside0.mk (hbox); have n3_ := Aside0.mk ((by rw [hg]; exact (below_size (by repeat (first | (with_reducible first | exact HB.out | apply below_alloc | apply pw_below_drewN | apply below_drew1 | refine below_set ?_ GE317.out) | exact HB.out))) : w.heap.size ≤ gb318)); have n4_ := Aside0.mk ((by rw [hg]; exact (below_size (by repeat (first | (with_reducible first | exact HB.out | apply below_alloc | apply pw_below_drewN | apply below_drew1 | refine below_set ?_ GE317.out) | exact HB.out))) : w.heap.size ≤ gb318)); have n5_ := Aside0.mk ((by rw [hg]; exact Nat.ne_of_lt (blk_lt (g := gb317) (o := .cells #[.string a0_0, .string a0_1, .string a0_2, .string a0_3, .string a0_4, .string a0_5] 29 (0, 0)) (by (with_reducible repeat (first | refine blk_drewN ?_ _ | refine blk_drew ?_ | refine blk_alloc ?_ _)); exact BK317.out)) : gb317 ≠ gb318)); have n6_ := Aside0.mk ((by rw [hg]; exact Nat.ne_of_gt (blk_lt (g := gb317) (o := .cells #[.string a0_0, .string a0_1, .string a0_2, .string a0_3, .string a0_4, .string a0_5] 29 (0, 0)) (by (with_reducible repeat (first | refine blk_drewN ?_ _ | refine blk_drew ?_ | refine blk_alloc ?_ _)); exact BK317.out)) : gb318 ≠ gb317)); clear BK317; clear HB; have BK317 := n0_; have HB := n1_; have BK318 := n2_; have GW318 := n3_; have GE318 := n4_; have NB317_318 := n5_; have NB318_317 := n6_; clear n0_ n1_ n2_ n3_ n4_ n5_ n6_; clear hb hbox hg))
 have n0_ := Aside0.mk (blk_drew BK317.out)
 have n1_ := Aside0.mk (blk_drew BK318.out)
 have n2_ := Aside0.mk (below_drew1 HB.out)
 clear BK317
 clear BK318
 clear HB
 have BK317 := n0_
 have BK318 := n1_
 have HB := n2_
 clear n0_ n1_ n2_
 refine start_ (n := 8) (S := fun w' => True) (ds := []) #[false, false, false, false, false, false, false, false] (by kernel_rfl) rfl rfl trivial (fun hHeld => ?_); refine with_tabW entailref1_Less.tab1 entailref1_Less.bits1 (fun HT_ HW_ => ?_)
 generalize w6.drew = w7 at BK317 BK318 HB hHeld ⊢
 refine inv_at [0, 1, 2, 3, 4, 5, 6, 7] (fun a0_ b a w' => ∃ (gb331 : Nat) (gb332 : Nat) (m4_ : Value) (m5_ : Value), a = putSel a0_ b [(0, 8, .agg #[.string a0_0, .string a0_1, .string a0_2, .string a0_3, .string a0_4, .string a0_5]), (1, 9, .agg #[.string t319, .string t320, .string t321, .string t322, .string t323, .string t324]), (2, 10, .agg #[.string a1_0, .string a1_1, .string a1_2, .string a1_3, .string a1_4, .string a1_5]), (3, 11, .agg #[.string t325, .string t326, .string t327, .string t328, .string t329, .string t330]), (4, 5, m4_), (5, 6, m5_)] ∧ (w'.heap[gb317]? = some (.cells #[.string a0_0, .string a0_1, .string a0_2, .string a0_3, .string a0_4, .string a0_5] 29 (0, 0))) ∧ (w'.heap[gb318]? = some (.cells #[.string a1_0, .string a1_1, .string a1_2, .string a1_3, .string a1_4, .string a1_5] 29 (0, 0))) ∧ (Below w.heap.size w w') ∧ (b 4 = true → b 5 = true → gb332 ≠ gb331) ∧ (b 4 = true → b 5 = true → gb331 ≠ gb332) ∧ (b 4 = true → b 6 = false → w'.heap[gb331]? = some (.cells #[.string (⟨#[]⟩ : ByteArray), .string (⟨#[]⟩ : ByteArray), .string (⟨#[]⟩ : ByteArray), .string (⟨#[]⟩ : ByteArray), .string (⟨#[]⟩ : ByteArray), .string (⟨#[]⟩ : ByteArray)] 59 (0, 0))) ∧ (b 4 = true → w.heap.size ≤ gb331) ∧ (b 4 = true → w.heap.size ≤ gb331) ∧ (b 4 = true → gb317 ≠ gb331) ∧ (b 4 = true → gb331 ≠ gb317) ∧ (b 4 = true → gb318 ≠ gb331) ∧ (b 4 = true → gb331 ≠ gb318) ∧ (b 5 = true → b 7 = false → w'.heap[gb332]? = some (.cells #[.string (⟨#[]⟩ : ByteArray), .string (⟨#[]⟩ : ByteArray), .string (⟨#[]⟩ : ByteArray), .string (⟨#[]⟩ : ByteArray), .string (⟨#[]⟩ : ByteArray), .string (⟨#[]⟩ : ByteArray)] 59 (0, 0))) ∧ (b 5 = true → w.heap.size ≤ gb332) ∧ (b 5 = true → w.heap.size ≤ gb332) ∧ (b 5 = true → gb317 ≠ gb332) ∧ (b 5 = true → gb332 ≠ gb317) ∧ (b 5 = true → gb318 ≠ gb332) ∧ (b 5 = true → gb332 ≠ gb318) ∧ (b 6 = true → w'.heap[gb331]? = some (.cells #[.string t319, .string t320, .string t321, .string t322, .string t323, .string t324] 59 (0, 0))) ∧ (b 7 = true → w'.heap[gb332]? = some (.cells #[.string t325, .string t326, .string t327, .string t328, .string t329, .string t330] 59 (0, 0))) ∧ (b 4 = true → (m4_ : Value) = .pointer (some ⟨gb331, 0, none⟩)) ∧ (b 5 = true → (m5_ : Value) = .pointer (some ⟨gb332, 0, none⟩))) HT_.out HW_.out (by kernel_rfl) (by kernel_rfl) ?_ ?_ ?_
 ·exact ⟨0, 0, .bool false, .bool false, by simp only [putSel, Bool.false_eq_true, if_false], BK317.out, BK318.out, HB.out, fun h_ => absurd h_ (by decide), fun h_ => absurd h_ (by decide), fun h_ => absurd h_ (by decide), fun h_ => absurd h_ (by decide), fun h_ => absurd h_ (by decide), fun h_ => absurd h_ (by decide), fun h_ => absurd h_ (by decide), fun h_ => absurd h_ (by decide), fun h_ => absurd h_ (by decide), fun h_ => absurd h_ (by decide), fun h_ => absurd h_ (by decide), fun h_ => absurd h_ (by decide), fun h_ => absurd h_ (by decide), fun h_ => absurd h_ (by decide), fun h_ => absurd h_ (by decide), fun h_ => absurd h_ (by decide), fun h_ => absurd h_ (by decide), fun h_ => absurd h_ (by decide), fun h_ => absurd h_ (by decide), fun h_ => absurd h_ (by decide)⟩
 ·skip
  clear BK317 BK318 HB
  refine steps_cons ?_ ?_
  ·rintro b a w' ⟨gb331, gb332, m4_, m5_, ha, Q_BK317, Q_BK318, Q_HB, Q_NB332_331, Q_NB331_332, Q_BK331, Q_GW331, Q_GE331, Q_NB317_331, Q_NB331_317, Q_NB318_331, Q_NB331_318, Q_BK332, Q_GW332, Q_GE332, Q_NB317_332, Q_NB332_317, Q_NB318_332, Q_NB332_318, Q_BK331_e6, Q_BK332_e7, Q_X4_, Q_X5_⟩ hb_ hon hoff
   refine ⟨_, rfl, fun K hK => ?_⟩
   have e2 : a.tmps[2]? = some (.pointer (some ⟨gb317, 0, none⟩)) := by rw [ha]; exact (putSel_off rfl).trans rfl
   replace ha := Aside0.mk ha
   have BK317 := Aside0.mk Q_BK317
   have BK318 := Aside0.mk Q_BK318
   have HB := Aside0.mk Q_HB
   have hc0_ : w'.cell? ⟨gb317, 0, none⟩ = some (.string a0_0) := (blk_cell BK317.out 0).trans rfl
   have hc1_ : w'.cell? ⟨gb317, 1, none⟩ = some (.string a0_1) := (blk_cell BK317.out 1).trans rfl
   have hc2_ : w'.cell? ⟨gb317, 2, none⟩ = some (.string a0_2) := (blk_cell BK317.out 2).trans rfl
   have hc3_ : w'.cell? ⟨gb317, 3, none⟩ = some (.string a0_3) := (blk_cell BK317.out 3).trans rfl
   have hc4_ : w'.cell? ⟨gb317, 4, none⟩ = some (.string a0_4) := (blk_cell BK317.out 4).trans rfl
   have hc5_ : w'.cell? ⟨gb317, 5, none⟩ = some (.string a0_5) := (blk_cell BK317.out 5).trans rfl
   refine value_ (w1 := w') (v := .agg #[.string a0_0, .string a0_1, .string a0_2, .string a0_3, .string a0_4, .string a0_5]) (by rfl) rfl ?_ ?_
   ·go_simp
    (try simp only [i64_w])
    try rfl
   refine hK.out _ _ ⟨gb331, gb332, m4_, m5_, (by rw [ha.out]; exact putSel_upk 0 hb_ rfl rfl rfl), Q_BK317, Q_BK318, Q_HB, Q_NB332_331, Q_NB331_332, Q_BK331, Q_GW331, Q_GE331, Q_NB317_331, Q_NB331_317, Q_NB318_331, Q_NB331_318, Q_BK332, Q_GW332, Q_GE332, Q_NB317_332, Q_NB332_317, Q_NB318_332, Q_NB332_318, fun h0_ => absurd ((hoff 6 (by kernel_rfl)).symm.trans h0_) (by decide), fun h0_ => absurd ((hoff 7 (by kernel_rfl)).symm.trans h0_) (by decide), Q_X4_, Q_X5_⟩
  refine steps_cons ?_ ?_
  ·rintro b a w' ⟨gb331, gb332, m4_, m5_, ha, Q_BK317, Q_BK318, Q_HB, Q_NB332_331, Q_NB331_332, Q_BK331, Q_GW331, Q_GE331, Q_NB317_331, Q_NB331_317, Q_NB318_331, Q_NB331_318, Q_BK332, Q_GW332, Q_GE332, Q_NB317_332, Q_NB332_317, Q_NB318_332, Q_NB332_318, Q_BK331_e6, Q_BK332_e7, Q_X4_, Q_X5_⟩ hb_ hon hoff
   refine ⟨_, rfl, fun K hK => ?_⟩
   have e8 : a.tmps[8]? = some (.agg #[.string a0_0, .string a0_1, .string a0_2, .string a0_3, .string a0_4, .string a0_5]) := by rw [ha]; exact putSel_on (e := (0, 8, .agg #[.string a0_0, .string a0_1, .string a0_2, .string a0_3, .string a0_4, .string a0_5])) 0 rfl rfl (hon 0 (by kernel_rfl)) rfl
   replace ha := Aside0.mk ha
   have BK317 := Aside0.mk Q_BK317
   have BK318 := Aside0.mk Q_BK318
   have HB := Aside0.mk Q_HB
   refine goes_ Try.func38 (by kernel_rfl) rfl #[.agg #[.string a0_0, .string a0_1, .string a0_2, .string a0_3, .string a0_4, .string a0_5]] (by rfl) rfl rfl (by first | (simp only [List.map_toArray, List.map_cons, List.map_nil, Act.eval, Array.getD_eq_getD_getElem?, Option.getD_some, e8]; done) | (simp only [List.map_toArray, List.map_cons, List.map_nil, Act.eval, Array.getD_eq_getD_getElem?, Option.getD_some, e8]; rfl)) ?_
   with_reducible refine (entailref1_six.calls a0_0 a0_1 a0_2 a0_3 a0_4 a0_5 t319 t320 t321 t322 t323 t324 _ A3.out).mono ?_
   rintro e w8 ⟨rfl, hb⟩
   refine ⟨_, rfl, ?_⟩
   have n0_ := Aside0.mk (blk_below (g := gb317) (o := .cells #[.string a0_0, .string a0_1, .string a0_2, .string a0_3, .string a0_4, .string a0_5] 29 (0, 0)) (by (with_reducible repeat (first | refine blk_drewN ?_ _ | refine blk_drew ?_ | refine blk_alloc ?_ _)); exact BK317.out) hb)
   have n1_ := Aside0.mk (blk_below (g := gb318) (o := .cells #[.string a1_0, .string a1_1, .string a1_2, .string a1_3, .string a1_4, .string a1_5] 29 (0, 0)) (by (with_reducible repeat (first | refine blk_drewN ?_ _ | refine blk_drew ?_ | refine blk_alloc ?_ _)); exact BK318.out) hb)
   have n2_ := Aside0.mk (below_step (by repeat (first | (with_reducible first | exact HB.out | apply below_alloc | apply pw_below_drewN | apply below_drew1 | refine below_set ?_ GE317.out | refine below_set ?_ GE318.out) | exact HB.out)) hb)
   have z_BK331 := fun (h0_ : b 4 = true) (h1_ : b 6 = false) => (show w8.heap[gb331]? = some (.cells #[.string (⟨#[]⟩ : ByteArray), .string (⟨#[]⟩ : ByteArray), .string (⟨#[]⟩ : ByteArray), .string (⟨#[]⟩ : ByteArray), .string (⟨#[]⟩ : ByteArray), .string (⟨#[]⟩ : ByteArray)] 59 (0, 0)) from by first | exact (blk_below (g := gb331) (o := .cells #[.string (⟨#[]⟩ : ByteArray), .string (⟨#[]⟩ : ByteArray), .string (⟨#[]⟩ : ByteArray), .string (⟨#[]⟩ : ByteArray), .string (⟨#[]⟩ : ByteArray), .string (⟨#[]⟩ : ByteArray)] 59 (0, 0)) (by (with_reducible repeat (first | refine blk_drewN ?_ _ | refine blk_drew ?_ | refine blk_alloc ?_ _)); exact (Q_BK331 h0_ h1_)) hb))
   have z_BK332 := fun (h0_ : b 5 = true) (h1_ : b 7 = false) => (show w8.heap[gb332]? = some (.cells #[.string (⟨#[]⟩ : ByteArray), .string (⟨#[]⟩ : ByteArray), .string (⟨#[]⟩ : ByteArray), .string (⟨#[]⟩ : ByteArray), .string (⟨#[]⟩ : ByteArray), .string (⟨#[]⟩ : ByteArray)] 59 (0, 0)) from by first | exact (blk_below (g := gb332) (o := .cells #[.string (⟨#[]⟩ : ByteArray), .string (⟨#[]⟩ : ByteArray), .string (⟨#[]⟩ : ByteArray), .string (⟨#[]⟩ : ByteArray), .string (⟨#[]⟩ : ByteArray), .string (⟨#[]⟩ : ByteArray)] 59 (0, 0)) (by (with_reducible repeat (first | refine blk_drewN ?_ _ | refine blk_drew ?_ | refine blk_alloc ?_ _)); exact (Q_BK332 h0_ h1_)) hb))
   clear BK317
   clear BK318
   clear HB
   have BK317 := n0_
   have BK318 := n1_
   have HB := n2_
   clear n0_ n1_ n2_
   (try clear hb)
   (try clear hb2)
   (try clear hk)
   (try clear hi)
   refine hK.out _ _ ⟨gb331, gb332, m4_, m5_, (by rw [ha.out]; exact putSel_upk 1 hb_ rfl rfl rfl), (by (with_reducible repeat (first | refine blk_drewN ?_ _ | refine blk_drew ?_ | refine blk_alloc ?_ _)); exact BK317.out), (by (with_reducible repeat (first | refine blk_drewN ?_ _ | refine blk_drew ?_ | refine blk_alloc ?_ _)); exact BK318.out), (by repeat (first | (with_reducible first | exact HB.out | apply below_alloc | apply pw_below_drewN | apply below_drew1 | refine below_set ?_ GE317.out | refine below_set ?_ GE318.out) | exact HB.out)), Q_NB332_331, Q_NB331_332, z_BK331, Q_GW331, Q_GE331, Q_NB317_331, Q_NB331_317, Q_NB318_331, Q_NB331_318, z_BK332, Q_GW332, Q_GE332, Q_NB317_332, Q_NB332_317, Q_NB318_332, Q_NB332_318, fun h0_ => absurd ((hoff 6 (by kernel_rfl)).symm.trans h0_) (by decide), fun h0_ => absurd ((hoff 7 (by kernel_rfl)).symm.trans h0_) (by decide), Q_X4_, Q_X5_⟩
  refine steps_cons ?_ ?_
  ·rintro b a w' ⟨gb331, gb332, m4_, m5_, ha, Q_BK317, Q_BK318, Q_HB, Q_NB332_331, Q_NB331_332, Q_BK331, Q_GW331, Q_GE331, Q_NB317_331, Q_NB331_317, Q_NB318_331, Q_NB331_318, Q_BK332, Q_GW332, Q_GE332, Q_NB317_332, Q_NB332_317, Q_NB318_332, Q_NB332_318, Q_BK331_e6, Q_BK332_e7, Q_X4_, Q_X5_⟩ hb_ hon hoff
   refine ⟨_, rfl, fun K hK => ?_⟩
   have e3 : a.tmps[3]? = some (.pointer (some ⟨gb318, 0, none⟩)) := by rw [ha]; exact (putSel_off rfl).trans rfl
   replace ha := Aside0.mk ha
   have BK317 := Aside0.mk Q_BK317
   have BK318 := Aside0.mk Q_BK318
   have HB := Aside0.mk Q_HB
   have hc0_ : w'.cell? ⟨gb318, 0, none⟩ = some (.string a1_0) := (blk_cell BK318.out 0).trans rfl
   have hc1_ : w'.cell? ⟨gb318, 1, none⟩ = some (.string a1_1) := (blk_cell BK318.out 1).trans rfl
   have hc2_ : w'.cell? ⟨gb318, 2, none⟩ = some (.string a1_2) := (blk_cell BK318.out 2).trans rfl
   have hc3_ : w'.cell? ⟨gb318, 3, none⟩ = some (.string a1_3) := (blk_cell BK318.out 3).trans rfl
   have hc4_ : w'.cell? ⟨gb318, 4, none⟩ = some (.string a1_4) := (blk_cell BK318.out 4).trans rfl
   have hc5_ : w'.cell? ⟨gb318, 5, none⟩ = some (.string a1_5) := (blk_cell BK318.out 5).trans rfl
   refine value_ (w1 := w') (v := .agg #[.string a1_0, .string a1_1, .string a1_2, .string a1_3, .string a1_4, .string a1_5]) (by rfl) rfl ?_ ?_
   ·go_simp
    (try simp only [i64_w])
    try rfl
   refine hK.out _ _ ⟨gb331, gb332, m4_, m5_, (by rw [ha.out]; exact putSel_upk 2 hb_ rfl rfl rfl), Q_BK317, Q_BK318, Q_HB, Q_NB332_331, Q_NB331_332, Q_BK331, Q_GW331, Q_GE331, Q_NB317_331, Q_NB331_317, Q_NB318_331, Q_NB331_318, Q_BK332, Q_GW332, Q_GE332, Q_NB317_332, Q_NB332_317, Q_NB318_332, Q_NB332_318, fun h0_ => absurd ((hoff 6 (by kernel_rfl)).symm.trans h0_) (by decide), fun h0_ => absurd ((hoff 7 (by kernel_rfl)).symm.trans h0_) (by decide), Q_X4_, Q_X5_⟩
  refine steps_cons ?_ ?_
  ·rintro b a w' ⟨gb331, gb332, m4_, m5_, ha, Q_BK317, Q_BK318, Q_HB, Q_NB332_331, Q_NB331_332, Q_BK331, Q_GW331, Q_GE331, Q_NB317_331, Q_NB331_317, Q_NB318_331, Q_NB331_318, Q_BK332, Q_GW332, Q_GE332, Q_NB317_332, Q_NB332_317, Q_NB318_332, Q_NB332_318, Q_BK331_e6, Q_BK332_e7, Q_X4_, Q_X5_⟩ hb_ hon hoff
   refine ⟨_, rfl, fun K hK => ?_⟩
   have e10 : a.tmps[10]? = some (.agg #[.string a1_0, .string a1_1, .string a1_2, .string a1_3, .string a1_4, .string a1_5]) := by rw [ha]; exact putSel_on (e := (2, 10, .agg #[.string a1_0, .string a1_1, .string a1_2, .string a1_3, .string a1_4, .string a1_5])) 2 rfl rfl (hon 2 (by kernel_rfl)) rfl
   replace ha := Aside0.mk ha
   have BK317 := Aside0.mk Q_BK317
   have BK318 := Aside0.mk Q_BK318
   have HB := Aside0.mk Q_HB
   refine goes_ Try.func38 (by kernel_rfl) rfl #[.agg #[.string a1_0, .string a1_1, .string a1_2, .string a1_3, .string a1_4, .string a1_5]] (by rfl) rfl rfl (by first | (simp only [List.map_toArray, List.map_cons, List.map_nil, Act.eval, Array.getD_eq_getD_getElem?, Option.getD_some, e10]; done) | (simp only [List.map_toArray, List.map_cons, List.map_nil, Act.eval, Array.getD_eq_getD_getElem?, Option.getD_some, e10]; rfl)) ?_
   with_reducible refine (entailref1_six.calls a1_0 a1_1 a1_2 a1_3 a1_4 a1_5 t325 t326 t327 t328 t329 t330 _ A4.out).mono ?_
   rintro e w10 ⟨rfl, hb⟩
   refine ⟨_, rfl, ?_⟩
   have n0_ := Aside0.mk (blk_below (g := gb317) (o := .cells #[.string a0_0, .string a0_1, .string a0_2, .string a0_3, .string a0_4, .string a0_5] 29 (0, 0)) (by (with_reducible repeat (first | refine blk_drewN ?_ _ | refine blk_drew ?_ | refine blk_alloc ?_ _)); exact BK317.out) hb)
   have n1_ := Aside0.mk (blk_below (g := gb318) (o := .cells #[.string a1_0, .string a1_1, .string a1_2, .string a1_3, .string a1_4, .string a1_5] 29 (0, 0)) (by (with_reducible repeat (first | refine blk_drewN ?_ _ | refine blk_drew ?_ | refine blk_alloc ?_ _)); exact BK318.out) hb)
   have n2_ := Aside0.mk (below_step (by repeat (first | (with_reducible first | exact HB.out | apply below_alloc | apply pw_below_drewN | apply below_drew1 | refine below_set ?_ GE317.out | refine below_set ?_ GE318.out) | exact HB.out)) hb)
   have z_BK331 := fun (h0_ : b 4 = true) (h1_ : b 6 = false) => (show w10.heap[gb331]? = some (.cells #[.string (⟨#[]⟩ : ByteArray), .string (⟨#[]⟩ : ByteArray), .string (⟨#[]⟩ : ByteArray), .string (⟨#[]⟩ : ByteArray), .string (⟨#[]⟩ : ByteArray), .string (⟨#[]⟩ : ByteArray)] 59 (0, 0)) from by first | exact (blk_below (g := gb331) (o := .cells #[.string (⟨#[]⟩ : ByteArray), .string (⟨#[]⟩ : ByteArray), .string (⟨#[]⟩ : ByteArray), .string (⟨#[]⟩ : ByteArray), .string (⟨#[]⟩ : ByteArray), .string (⟨#[]⟩ : ByteArray)] 59 (0, 0)) (by (with_reducible repeat (first | refine blk_drewN ?_ _ | refine blk_drew ?_ | refine blk_alloc ?_ _)); exact (Q_BK331 h0_ h1_)) hb))
   have z_BK332 := fun (h0_ : b 5 = true) (h1_ : b 7 = false) => (show w10.heap[gb332]? = some (.cells #[.string (⟨#[]⟩ : ByteArray), .string (⟨#[]⟩ : ByteArray), .string (⟨#[]⟩ : ByteArray), .string (⟨#[]⟩ : ByteArray), .string (⟨#[]⟩ : ByteArray), .string (⟨#[]⟩ : ByteArray)] 59 (0, 0)) from by first | exact (blk_below (g := gb332) (o := .cells #[.string (⟨#[]⟩ : ByteArray), .string (⟨#[]⟩ : ByteArray), .string (⟨#[]⟩ : ByteArray), .string (⟨#[]⟩ : ByteArray), .string (⟨#[]⟩ : ByteArray), .string (⟨#[]⟩ : ByteArray)] 59 (0, 0)) (by (with_reducible repeat (first | refine blk_drewN ?_ _ | refine blk_drew ?_ | refine blk_alloc ?_ _)); exact (Q_BK332 h0_ h1_)) hb))
   clear BK317
   clear BK318
   clear HB
   have BK317 := n0_
   have BK318 := n1_
   have HB := n2_
   clear n0_ n1_ n2_
   (try clear hb)
   (try clear hb2)
   (try clear hk)
   (try clear hi)
   refine hK.out _ _ ⟨gb331, gb332, m4_, m5_, (by rw [ha.out]; exact putSel_upk 3 hb_ rfl rfl rfl), (by (with_reducible repeat (first | refine blk_drewN ?_ _ | refine blk_drew ?_ | refine blk_alloc ?_ _)); exact BK317.out), (by (with_reducible repeat (first | refine blk_drewN ?_ _ | refine blk_drew ?_ | refine blk_alloc ?_ _)); exact BK318.out), (by repeat (first | (with_reducible first | exact HB.out | apply below_alloc | apply pw_below_drewN | apply below_drew1 | refine below_set ?_ GE317.out | refine below_set ?_ GE318.out) | exact HB.out)), Q_NB332_331, Q_NB331_332, z_BK331, Q_GW331, Q_GE331, Q_NB317_331, Q_NB331_317, Q_NB318_331, Q_NB331_318, z_BK332, Q_GW332, Q_GE332, Q_NB317_332, Q_NB332_317, Q_NB318_332, Q_NB332_318, fun h0_ => absurd ((hoff 6 (by kernel_rfl)).symm.trans h0_) (by decide), fun h0_ => absurd ((hoff 7 (by kernel_rfl)).symm.trans h0_) (by decide), Q_X4_, Q_X5_⟩
  refine steps_cons ?_ ?_
  ·rintro b a w' ⟨gb331, gb332, m4_, m5_, ha, Q_BK317, Q_BK318, Q_HB, Q_NB332_331, Q_NB331_332, Q_BK331, Q_GW331, Q_GE331, Q_NB317_331, Q_NB331_317, Q_NB318_331, Q_NB331_318, Q_BK332, Q_GW332, Q_GE332, Q_NB317_332, Q_NB332_317, Q_NB318_332, Q_NB332_318, Q_BK331_e6, Q_BK332_e7, Q_X4_, Q_X5_⟩ hb_ hon hoff
   refine ⟨_, rfl, fun K hK => ?_⟩
   replace ha := Aside0.mk ha
   have BK317 := Aside0.mk Q_BK317
   have BK318 := Aside0.mk Q_BK318
   have HB := Aside0.mk Q_HB
   refine box_step ?hg (N := 5) ?hd (cs := #[.string (⟨#[]⟩ : ByteArray), .string (⟨#[]⟩ : ByteArray), .string (⟨#[]⟩ : ByteArray), .string (⟨#[]⟩ : ByteArray), .string (⟨#[]⟩ : ByteArray), .string (⟨#[]⟩ : ByteArray)]) (t := 59) ?hr ?_; (case hd => rfl); (case hg => rfl); (case hr => first | (go_simp; done) | (go_simp; rfl))
   intro gb331 hg w8 hbox hb
   have n0_ := Aside0.mk (blk_below (g := gb317) (o := .cells #[.string a0_0, .string a0_1, .string a0_2, .string a0_3, .string a0_4, .string a0_5] 29 (0, 0)) (by (with_reducible repeat (first | refine blk_drewN ?_ _ | refine blk_drew ?_ | refine blk_alloc ?_ _)); exact BK317.out) hb)
   have n1_ := Aside0.mk (blk_below (g := gb318) (o := .cells #[.string a1_0, .string a1_1, .string a1_2, .string a1_3, .string a1_4, .string a1_5] 29 (0, 0)) (by (with_reducible repeat (first | refine blk_drewN ?_ _ | refine blk_drew ?_ | refine blk_alloc ?_ _)); exact BK318.out) hb)
   have n2_ := Aside0.mk (below_step (by repeat (first | (with_reducible first | exact HB.out | apply below_alloc | apply pw_below_drewN | apply below_drew1 | refine below_set ?_ GE317.out | refine below_set ?_ GE318.out) | exact HB.out)) hb)
   have n3_ := Aside0.mk (hbox)
   have n4_ := Aside0.mk ((by rw [hg]; exact (below_size (by repeat (first | (with_reducible first | exact HB.out | apply below_alloc | apply pw_below_drewN | apply below_drew1 | refine below_set ?_ GE317.out | refine below_set ?_ GE318.out) | exact HB.out))) : w.heap.size ≤ gb331))
   have n5_ := Aside0.mk ((by rw [hg]; exact (below_size (by repeat (first | (with_reducible first | exact HB.out | apply below_alloc | apply pw_below_drewN | apply below_drew1 | refine below_set ?_ GE317.out | refine below_set ?_ GE318.out) | exact HB.out))) : w.heap.size ≤ gb331))
   have n6_ := Aside0.mk ((by rw [hg]; exact Nat.ne_of_lt (blk_lt (g := gb317) (o := .cells #[.string a0_0, .string a0_1, .string a0_2, .string a0_3, .string a0_4, .string a0_5] 29 (0, 0)) (by (with_reducible repeat (first | refine blk_drewN ?_ _ | refine blk_drew ?_ | refine blk_alloc ?_ _)); exact BK317.out)) : gb317 ≠ gb331))
   have n7_ := Aside0.mk ((by rw [hg]; exact Nat.ne_of_gt (blk_lt (g := gb317) (o := .cells #[.string a0_0, .string a0_1, .string a0_2, .string a0_3, .string a0_4, .string a0_5] 29 (0, 0)) (by (with_reducible repeat (first | refine blk_drewN ?_ _ | refine blk_drew ?_ | refine blk_alloc ?_ _)); exact BK317.out)) : gb331 ≠ gb317))
   have n8_ := Aside0.mk ((by rw [hg]; exact Nat.ne_of_lt (blk_lt (g := gb318) (o := .cells #[.string a1_0, .string a1_1, .string a1_2, .string a1_3, .string a1_4, .string a1_5] 29 (0, 0)) (by (with_reducible repeat (first | refine blk_drewN ?_ _ | refine blk_drew ?_ | refine blk_alloc ?_ _)); exact BK318.out)) : gb318 ≠ gb331))
   have n9_ := Aside0.mk ((by rw [hg]; exact Nat.ne_of_gt (blk_lt (g := gb318) (o := .cells #[.string a1_0, .string a1_1, .string a1_2, .string a1_3, .string a1_4, .string a1_5] 29 (0, 0)) (by (with_reducible repeat (first | refine blk_drewN ?_ _ | refine blk_drew ?_ | refine blk_alloc ?_ _)); exact BK318.out)) : gb331 ≠ gb318))
   have z_NB332_331 := fun (h0_ : up b 4 4 = true) (h1_ : up b 4 5 = true) => (show gb332 ≠ gb331 from ((by rw [hg]; exact Nat.ne_of_lt (blk_lt (g := gb332) (o := .cells #[.string (⟨#[]⟩ : ByteArray), .string (⟨#[]⟩ : ByteArray), .string (⟨#[]⟩ : ByteArray), .string (⟨#[]⟩ : ByteArray), .string (⟨#[]⟩ : ByteArray), .string (⟨#[]⟩ : ByteArray)] 59 (0, 0)) (by (with_reducible repeat (first | refine blk_drewN ?_ _ | refine blk_drew ?_ | refine blk_alloc ?_ _)); exact Q_BK332 (by first | (have q_ := h1_; rw [up_ne (by decide)] at q_; exact q_) | (have q_ := h0_; rw [up_ne (by decide)] at q_; exact q_)) (by first | exact hoff 6 (by kernel_rfl) | exact hoff 7 (by kernel_rfl)))) : gb332 ≠ gb331)))
   have z_NB331_332 := fun (h0_ : up b 4 4 = true) (h1_ : up b 4 5 = true) => (show gb331 ≠ gb332 from ((by rw [hg]; exact Nat.ne_of_gt (blk_lt (g := gb332) (o := .cells #[.string (⟨#[]⟩ : ByteArray), .string (⟨#[]⟩ : ByteArray), .string (⟨#[]⟩ : ByteArray), .string (⟨#[]⟩ : ByteArray), .string (⟨#[]⟩ : ByteArray), .string (⟨#[]⟩ : ByteArray)] 59 (0, 0)) (by (with_reducible repeat (first | refine blk_drewN ?_ _ | refine blk_drew ?_ | refine blk_alloc ?_ _)); exact Q_BK332 (by first | (have q_ := h1_; rw [up_ne (by decide)] at q_; exact q_) | (have q_ := h0_; rw [up_ne (by decide)] at q_; exact q_)) (by first | exact hoff 6 (by kernel_rfl) | exact hoff 7 (by kernel_rfl)))) : gb331 ≠ gb332)))
   have z_BK332 := fun (h0_ : b 5 = true) (h1_ : b 7 = false) => (show w8.heap[gb332]? = some (.cells #[.string (⟨#[]⟩ : ByteArray), .string (⟨#[]⟩ : ByteArray), .string (⟨#[]⟩ : ByteArray), .string (⟨#[]⟩ : ByteArray), .string (⟨#[]⟩ : ByteArray), .string (⟨#[]⟩ : ByteArray)] 59 (0, 0)) from by first | exact (blk_below (g := gb332) (o := .cells #[.string (⟨#[]⟩ : ByteArray), .string (⟨#[]⟩ : ByteArray), .string (⟨#[]⟩ : ByteArray), .string (⟨#[]⟩ : ByteArray), .string (⟨#[]⟩ : ByteArray), .string (⟨#[]⟩ : ByteArray)] 59 (0, 0)) (by (with_reducible repeat (first | refine blk_drewN ?_ _ | refine blk_drew ?_ | refine blk_alloc ?_ _)); exact (Q_BK332 h0_ h1_)) hb))
   clear BK317
   clear BK318
   clear HB
   have BK317 := n0_
   have BK318 := n1_
   have HB := n2_
   have BK331 := n3_
   have GW331 := n4_
   have GE331 := n5_
   have NB317_331 := n6_
   have NB331_317 := n7_
   have NB318_331 := n8_
   have NB331_318 := n9_
   clear n0_ n1_ n2_ n3_ n4_ n5_ n6_ n7_ n8_ n9_
   clear hb hbox hg
   refine hK.out _ _ ⟨gb331, gb332, (.pointer (some ⟨gb331, 0, none⟩)), m5_, (by rw [ha.out]; exact putSel_upk 4 hb_ rfl rfl rfl), (by (with_reducible repeat (first | refine blk_drewN ?_ _ | refine blk_drew ?_ | refine blk_alloc ?_ _)); exact BK317.out), (by (with_reducible repeat (first | refine blk_drewN ?_ _ | refine blk_drew ?_ | refine blk_alloc ?_ _)); exact BK318.out), (by repeat (first | (with_reducible first | exact HB.out | apply below_alloc | apply pw_below_drewN | apply below_drew1 | refine below_set ?_ GE317.out | refine below_set ?_ GE318.out | refine below_set ?_ GE331.out) | exact HB.out)), @z_NB332_331, @z_NB331_332, fun _ _ => (by (with_reducible repeat (first | refine blk_drewN ?_ _ | refine blk_drew ?_ | refine blk_alloc ?_ _)); exact BK331.out), fun _ => GW331.out, fun _ => GE331.out, fun _ => NB317_331.out, fun _ => NB331_317.out, fun _ => NB318_331.out, fun _ => NB331_318.out, z_BK332, Q_GW332, Q_GE332, Q_NB317_332, Q_NB332_317, Q_NB318_332, Q_NB332_318, fun h0_ => absurd ((hoff 6 (by kernel_rfl)).symm.trans h0_) (by decide), fun h0_ => absurd ((hoff 7 (by kernel_rfl)).symm.trans h0_) (by decide), fun _ => rfl, Q_X5_⟩
  refine steps_cons ?_ ?_
  ·rintro b a w' ⟨gb331, gb332, m4_, m5_, ha, Q_BK317, Q_BK318, Q_HB, Q_NB332_331, Q_NB331_332, Q_BK331, Q_GW331, Q_GE331, Q_NB317_331, Q_NB331_317, Q_NB318_331, Q_NB331_318, Q_BK332, Q_GW332, Q_GE332, Q_NB317_332, Q_NB332_317, Q_NB318_332, Q_NB332_318, Q_BK331_e6, Q_BK332_e7, Q_X4_, Q_X5_⟩ hb_ hon hoff
   refine ⟨_, rfl, fun K hK => ?_⟩
   replace ha := Aside0.mk ha
   have BK317 := Aside0.mk Q_BK317
   have BK318 := Aside0.mk Q_BK318
   have HB := Aside0.mk Q_HB
   refine box_step ?hg (N := 6) ?hd (cs := #[.string (⟨#[]⟩ : ByteArray), .string (⟨#[]⟩ : ByteArray), .string (⟨#[]⟩ : ByteArray), .string (⟨#[]⟩ : ByteArray), .string (⟨#[]⟩ : ByteArray), .string (⟨#[]⟩ : ByteArray)]) (t := 59) ?hr ?_; (case hd => rfl); (case hg => rfl); (case hr => first | (go_simp; done) | (go_simp; rfl))
   intro gb332 hg w8 hbox hb
   have n0_ := Aside0.mk (blk_below (g := gb317) (o := .cells #[.string a0_0, .string a0_1, .string a0_2, .string a0_3, .string a0_4, .string a0_5] 29 (0, 0)) (by (with_reducible repeat (first | refine blk_drewN ?_ _ | refine blk_drew ?_ | refine blk_alloc ?_ _)); exact BK317.out) hb)
   have n1_ := Aside0.mk (blk_below (g := gb318) (o := .cells #[.string a1_0, .string a1_1, .string a1_2, .string a1_3, .string a1_4, .string a1_5] 29 (0, 0)) (by (with_reducible repeat (first | refine blk_drewN ?_ _ | refine blk_drew ?_ | refine blk_alloc ?_ _)); exact BK318.out) hb)
   have n2_ := Aside0.mk (below_step (by repeat (first | (with_reducible first | exact HB.out | apply below_alloc | apply pw_below_drewN | apply below_drew1 | refine below_set ?_ GE317.out | refine below_set ?_ GE318.out) | exact HB.out)) hb)
   have n3_ := Aside0.mk (hbox)
   have n4_ := Aside0.mk ((by rw [hg]; exact (below_size (by repeat (first | (with_reducible first | exact HB.out | apply below_alloc | apply pw_below_drewN | apply below_drew1 | refine below_set ?_ GE317.out | refine below_set ?_ GE318.out) | exact HB.out))) : w.heap.size ≤ gb332))
   have n5_ := Aside0.mk ((by rw [hg]; exact (below_size (by repeat (first | (with_reducible first | exact HB.out | apply below_alloc | apply pw_below_drewN | apply below_drew1 | refine below_set ?_ GE317.out | refine below_set ?_ GE318.out) | exact HB.out))) : w.heap.size ≤ gb332))
   have n6_ := Aside0.mk ((by rw [hg]; exact Nat.ne_of_lt (blk_lt (g := gb317) (o := .cells #[.string a0_0, .string a0_1, .string a0_2, .string a0_3, .string a0_4, .string a0_5] 29 (0, 0)) (by (with_reducible repeat (first | refine blk_drewN ?_ _ | refine blk_drew ?_ | refine blk_alloc ?_ _)); exact BK317.out)) : gb317 ≠ gb332))
   have n7_ := Aside0.mk ((by rw [hg]; exact Nat.ne_of_gt (blk_lt (g := gb317) (o := .cells #[.string a0_0, .string a0_1, .string a0_2, .string a0_3, .string a0_4, .string a0_5] 29 (0, 0)) (by (with_reducible repeat (first | refine blk_drewN ?_ _ | refine blk_drew ?_ | refine blk_alloc ?_ _)); exact BK317.out)) : gb332 ≠ gb317))
   have n8_ := Aside0.mk ((by rw [hg]; exact Nat.ne_of_lt (blk_lt (g := gb318) (o := .cells #[.string a1_0, .string a1_1, .string a1_2, .string a1_3, .string a1_4, .string a1_5] 29 (0, 0)) (by (with_reducible repeat (first | refine blk_drewN ?_ _ | refine blk_drew ?_ | refine blk_alloc ?_ _)); exact BK318.out)) : gb318 ≠ gb332))
   have n9_ := Aside0.mk ((by rw [hg]; exact Nat.ne_of_gt (blk_lt (g := gb318) (o := .cells #[.string a1_0, .string a1_1, .string a1_2, .string a1_3, .string a1_4, .string a1_5] 29 (0, 0)) (by (with_reducible repeat (first | refine blk_drewN ?_ _ | refine blk_drew ?_ | refine blk_alloc ?_ _)); exact BK318.out)) : gb332 ≠ gb318))
   have z_NB332_331 := fun (h0_ : up b 5 4 = true) (h1_ : up b 5 5 = true) => (show gb332 ≠ gb331 from ((by rw [hg]; exact Nat.ne_of_gt (blk_lt (g := gb331) (o := .cells #[.string (⟨#[]⟩ : ByteArray), .string (⟨#[]⟩ : ByteArray), .string (⟨#[]⟩ : ByteArray), .string (⟨#[]⟩ : ByteArray), .string (⟨#[]⟩ : ByteArray), .string (⟨#[]⟩ : ByteArray)] 59 (0, 0)) (by (with_reducible repeat (first | refine blk_drewN ?_ _ | refine blk_drew ?_ | refine blk_alloc ?_ _)); exact Q_BK331 (by first | (have q_ := h1_; rw [up_ne (by decide)] at q_; exact q_) | (have q_ := h0_; rw [up_ne (by decide)] at q_; exact q_)) (by first | exact hoff 6 (by kernel_rfl) | exact hoff 7 (by kernel_rfl)))) : gb332 ≠ gb331)))
   have z_NB331_332 := fun (h0_ : up b 5 4 = true) (h1_ : up b 5 5 = true) => (show gb331 ≠ gb332 from ((by rw [hg]; exact Nat.ne_of_lt (blk_lt (g := gb331) (o := .cells #[.string (⟨#[]⟩ : ByteArray), .string (⟨#[]⟩ : ByteArray), .string (⟨#[]⟩ : ByteArray), .string (⟨#[]⟩ : ByteArray), .string (⟨#[]⟩ : ByteArray), .string (⟨#[]⟩ : ByteArray)] 59 (0, 0)) (by (with_reducible repeat (first | refine blk_drewN ?_ _ | refine blk_drew ?_ | refine blk_alloc ?_ _)); exact Q_BK331 (by first | (have q_ := h1_; rw [up_ne (by decide)] at q_; exact q_) | (have q_ := h0_; rw [up_ne (by decide)] at q_; exact q_)) (by first | exact hoff 6 (by kernel_rfl) | exact hoff 7 (by kernel_rfl)))) : gb331 ≠ gb332)))
   have z_BK331 := fun (h0_ : b 4 = true) (h1_ : b 6 = false) => (show w8.heap[gb331]? = some (.cells #[.string (⟨#[]⟩ : ByteArray), .string (⟨#[]⟩ : ByteArray), .string (⟨#[]⟩ : ByteArray), .string (⟨#[]⟩ : ByteArray), .string (⟨#[]⟩ : ByteArray), .string (⟨#[]⟩ : ByteArray)] 59 (0, 0)) from by first | exact (blk_below (g := gb331) (o := .cells #[.string (⟨#[]⟩ : ByteArray), .string (⟨#[]⟩ : ByteArray), .string (⟨#[]⟩ : ByteArray), .string (⟨#[]⟩ : ByteArray), .string (⟨#[]⟩ : ByteArray), .string (⟨#[]⟩ : ByteArray)] 59 (0, 0)) (by (with_reducible repeat (first | refine blk_drewN ?_ _ | refine blk_drew ?_ | refine blk_alloc ?_ _)); exact (Q_BK331 h0_ h1_)) hb))
   clear BK317
   clear BK318
   clear HB
   have BK317 := n0_
   have BK318 := n1_
   have HB := n2_
   have BK332 := n3_
   have GW332 := n4_
   have GE332 := n5_
   have NB317_332 := n6_
   have NB332_317 := n7_
   have NB318_332 := n8_
   have NB332_318 := n9_
   clear n0_ n1_ n2_ n3_ n4_ n5_ n6_ n7_ n8_ n9_
   clear hb hbox hg
   refine hK.out _ _ ⟨gb331, gb332, m4_, (.pointer (some ⟨gb332, 0, none⟩)), (by rw [ha.out]; exact putSel_upk 5 hb_ rfl rfl rfl), (by (with_reducible repeat (first | refine blk_drewN ?_ _ | refine blk_drew ?_ | refine blk_alloc ?_ _)); exact BK317.out), (by (with_reducible repeat (first | refine blk_drewN ?_ _ | refine blk_drew ?_ | refine blk_alloc ?_ _)); exact BK318.out), (by repeat (first | (with_reducible first | exact HB.out | apply below_alloc | apply pw_below_drewN | apply below_drew1 | refine below_set ?_ GE317.out | refine below_set ?_ GE318.out | refine below_set ?_ GE332.out) | exact HB.out)), @z_NB332_331, @z_NB331_332, z_BK331, Q_GW331, Q_GE331, Q_NB317_331, Q_NB331_317, Q_NB318_331, Q_NB331_318, fun _ _ => (by (with_reducible repeat (first | refine blk_drewN ?_ _ | refine blk_drew ?_ | refine blk_alloc ?_ _)); exact BK332.out), fun _ => GW332.out, fun _ => GE332.out, fun _ => NB317_332.out, fun _ => NB332_317.out, fun _ => NB318_332.out, fun _ => NB332_318.out, fun h0_ => absurd ((hoff 6 (by kernel_rfl)).symm.trans h0_) (by decide), fun h0_ => absurd ((hoff 7 (by kernel_rfl)).symm.trans h0_) (by decide), Q_X4_, fun _ => rfl⟩
  refine steps_cons ?_ ?_
  ·rintro b a w' ⟨gb331, gb332, m4_, m5_, ha, Q_BK317, Q_BK318, Q_HB, Q_NB332_331, Q_NB331_332, Q_BK331, Q_GW331, Q_GE331, Q_NB317_331, Q_NB331_317, Q_NB318_331, Q_NB331_318, Q_BK332, Q_GW332, Q_GE332, Q_NB317_332, Q_NB332_317, Q_NB318_332, Q_NB332_318, Q_BK331_e6, Q_BK332_e7, Q_X4_, Q_X5_⟩ hb_ hon hoff
   refine ⟨_, rfl, fun K hK => ?_⟩
   have e5 : a.tmps[5]? = some (m4_) := by rw [ha]; exact putSel_on (e := (4, 5, m4_)) 4 rfl rfl (hon 4 (by kernel_rfl)) rfl
   rw [Q_X4_ (hon 4 (by kernel_rfl))] at e5
   have e9 : a.tmps[9]? = some (.agg #[.string t319, .string t320, .string t321, .string t322, .string t323, .string t324]) := by rw [ha]; exact putSel_on (e := (1, 9, .agg #[.string t319, .string t320, .string t321, .string t322, .string t323, .string t324])) 1 rfl rfl (hon 1 (by kernel_rfl)) rfl
   replace ha := Aside0.mk ha
   have BK317 := Aside0.mk Q_BK317
   have BK318 := Aside0.mk Q_BK318
   have HB := Aside0.mk Q_HB
   have NB332_331 := Aside0.mk (Q_NB332_331 (hon 4 (by kernel_rfl)) (hon 5 (by kernel_rfl)))
   have NB331_332 := Aside0.mk (Q_NB331_332 (hon 4 (by kernel_rfl)) (hon 5 (by kernel_rfl)))
   have BK331 := Aside0.mk (Q_BK331 (hon 4 (by kernel_rfl)) hb_)
   have GW331 := Aside0.mk (Q_GW331 (hon 4 (by kernel_rfl)))
   have GE331 := Aside0.mk (Q_GE331 (hon 4 (by kernel_rfl)))
   have NB317_331 := Aside0.mk (Q_NB317_331 (hon 4 (by kernel_rfl)))
   have NB331_317 := Aside0.mk (Q_NB331_317 (hon 4 (by kernel_rfl)))
   have NB318_331 := Aside0.mk (Q_NB318_331 (hon 4 (by kernel_rfl)))
   have NB331_318 := Aside0.mk (Q_NB331_318 (hon 4 (by kernel_rfl)))
   have BK332 := Aside0.mk (Q_BK332 (hon 5 (by kernel_rfl)) (hoff 7 (by kernel_rfl)))
   have GW332 := Aside0.mk (Q_GW332 (hon 5 (by kernel_rfl)))
   have GE332 := Aside0.mk (Q_GE332 (hon 5 (by kernel_rfl)))
   have NB317_332 := Aside0.mk (Q_NB317_332 (hon 5 (by kernel_rfl)))
   have NB332_317 := Aside0.mk (Q_NB332_317 (hon 5 (by kernel_rfl)))
   have NB318_332 := Aside0.mk (Q_NB318_332 (hon 5 (by kernel_rfl)))
   have NB332_318 := Aside0.mk (Q_NB332_318 (hon 5 (by kernel_rfl)))
   have hs13 : w'.cell? ⟨gb331, 0, none⟩ = some (.string (⟨#[]⟩ : ByteArray)) := (blk_cell BK331.out 0).trans rfl
   have hfs13 := blk_frozen BK331.out 0
   have hns13_0 := NB317_331.out
   have hns13_1 := NB318_331.out
   have hns13_3 := NB332_331.out
   have hms13_0 := NB331_317.out
   have hms13_1 := NB331_318.out
   have hms13_3 := NB331_332.out
   have hs14 : w'.cell? ⟨gb331, 1, none⟩ = some (.string (⟨#[]⟩ : ByteArray)) := (blk_cell BK331.out 1).trans rfl
   have hfs14 := blk_frozen BK331.out 1
   have hns14_0 := NB317_331.out
   have hns14_1 := NB318_331.out
   have hns14_3 := NB332_331.out
   have hms14_0 := NB331_317.out
   have hms14_1 := NB331_318.out
   have hms14_3 := NB331_332.out
   have hs15 : w'.cell? ⟨gb331, 2, none⟩ = some (.string (⟨#[]⟩ : ByteArray)) := (blk_cell BK331.out 2).trans rfl
   have hfs15 := blk_frozen BK331.out 2
   have hns15_0 := NB317_331.out
   have hns15_1 := NB318_331.out
   have hns15_3 := NB332_331.out
   have hms15_0 := NB331_317.out
   have hms15_1 := NB331_318.out
   have hms15_3 := NB331_332.out
   have hs16 : w'.cell? ⟨gb331, 3, none⟩ = some (.string (⟨#[]⟩ : ByteArray)) := (blk_cell BK331.out 3).trans rfl
   have hfs16 := blk_frozen BK331.out 3
   have hns16_0 := NB317_331.out
   have hns16_1 := NB318_331.out
   have hns16_3 := NB332_331.out
   have hms16_0 := NB331_317.out
   have hms16_1 := NB331_318.out
   have hms16_3 := NB331_332.out
   have hs17 : w'.cell? ⟨gb331, 4, none⟩ = some (.string (⟨#[]⟩ : ByteArray)) := (blk_cell BK331.out 4).trans rfl
   have hfs17 := blk_frozen BK331.out 4
   have hns17_0 := NB317_331.out
   have hns17_1 := NB318_331.out
   have hns17_3 := NB332_331.out
   have hms17_0 := NB331_317.out
   have hms17_1 := NB331_318.out
   have hms17_3 := NB331_332.out
   have hs18 : w'.cell? ⟨gb331, 5, none⟩ = some (.string (⟨#[]⟩ : ByteArray)) := (blk_cell BK331.out 5).trans rfl
   have hfs18 := blk_frozen BK331.out 5
   have hns18_0 := NB317_331.out
   have hns18_1 := NB318_331.out
   have hns18_3 := NB332_331.out
   have hms18_0 := NB331_317.out
   have hms18_1 := NB331_318.out
   have hms18_3 := NB331_332.out
   refine skip_ (w1 := ?_) (by rfl) rfl ?_ ?_
   rotate_left
   ·go_simp
    rfl
   refine hK.out _ _ ⟨gb331, gb332, m4_, m5_, (by rw [ha.out]; exact putSel_none (v := undef) rfl), (by (with_reducible repeat (first | refine blk_drewN ?_ _ | refine blk_drew ?_ | refine blk_alloc ?_ _)); refine blk_far ?_ NB317_331.out _; (with_reducible repeat (first | refine blk_drewN ?_ _ | refine blk_drew ?_ | refine blk_alloc ?_ _)); refine blk_far ?_ NB317_331.out _; (with_reducible repeat (first | refine blk_drewN ?_ _ | refine blk_drew ?_ | refine blk_alloc ?_ _)); refine blk_far ?_ NB317_331.out _; (with_reducible repeat (first | refine blk_drewN ?_ _ | refine blk_drew ?_ | refine blk_alloc ?_ _)); refine blk_far ?_ NB317_331.out _; (with_reducible repeat (first | refine blk_drewN ?_ _ | refine blk_drew ?_ | refine blk_alloc ?_ _)); refine blk_far ?_ NB317_331.out _; (with_reducible repeat (first | refine blk_drewN ?_ _ | refine blk_drew ?_ | refine blk_alloc ?_ _)); refine blk_far ?_ NB317_331.out _; (with_reducible repeat (first | refine blk_drewN ?_ _ | refine blk_drew ?_ | refine blk_alloc ?_ _)); exact BK317.out), (by (with_reducible repeat (first | refine blk_drewN ?_ _ | refine blk_drew ?_ | refine blk_alloc ?_ _)); refine blk_far ?_ NB318_331.out _; (with_reducible repeat (first | refine blk_drewN ?_ _ | refine blk_drew ?_ | refine blk_alloc ?_ _)); refine blk_far ?_ NB318_331.out _; (with_reducible repeat (first | refine blk_drewN ?_ _ | refine blk_drew ?_ | refine blk_alloc ?_ _)); refine blk_far ?_ NB318_331.out _; (with_reducible repeat (first | refine blk_drewN ?_ _ | refine blk_drew ?_ | refine blk_alloc ?_ _)); refine blk_far ?_ NB318_331.out _; (with_reducible repeat (first | refine blk_drewN ?_ _ | refine blk_drew ?_ | refine blk_alloc ?_ _)); refine blk_far ?_ NB318_331.out _; (with_reducible repeat (first | refine blk_drewN ?_ _ | refine blk_drew ?_ | refine blk_alloc ?_ _)); refine blk_far ?_ NB318_331.out _; (with_reducible repeat (first | refine blk_drewN ?_ _ | refine blk_drew ?_ | refine blk_alloc ?_ _)); exact BK318.out), (by repeat (first | (with_reducible first | exact HB.out | apply below_alloc | apply pw_below_drewN | apply below_drew1 | refine below_set ?_ GE317.out | refine below_set ?_ GE318.out | refine below_set ?_ GE331.out | refine below_set ?_ GE332.out) | exact HB.out)), fun _ _ => NB332_331.out, fun _ _ => NB331_332.out, fun _ h1_ => absurd ((up_self b 6).symm.trans h1_) (by decide), fun _ => GW331.out, fun _ => GE331.out, fun _ => NB317_331.out, fun _ => NB331_317.out, fun _ => NB318_331.out, fun _ => NB331_318.out, fun _ _ => (by (with_reducible repeat (first | refine blk_drewN ?_ _ | refine blk_drew ?_ | refine blk_alloc ?_ _)); refine blk_far ?_ NB332_331.out _; (with_reducible repeat (first | refine blk_drewN ?_ _ | refine blk_drew ?_ | refine blk_alloc ?_ _)); refine blk_far ?_ NB332_331.out _; (with_reducible repeat (first | refine blk_drewN ?_ _ | refine blk_drew ?_ | refine blk_alloc ?_ _)); refine blk_far ?_ NB332_331.out _; (with_reducible repeat (first | refine blk_drewN ?_ _ | refine blk_drew ?_ | refine blk_alloc ?_ _)); refine blk_far ?_ NB332_331.out _; (with_reducible repeat (first | refine blk_drewN ?_ _ | refine blk_drew ?_ | refine blk_alloc ?_ _)); refine blk_far ?_ NB332_331.out _; (with_reducible repeat (first | refine blk_drewN ?_ _ | refine blk_drew ?_ | refine blk_alloc ?_ _)); refine blk_far ?_ NB332_331.out _; (with_reducible repeat (first | refine blk_drewN ?_ _ | refine blk_drew ?_ | refine blk_alloc ?_ _)); exact BK332.out), fun _ => GW332.out, fun _ => GE332.out, fun _ => NB317_332.out, fun _ => NB332_317.out, fun _ => NB318_332.out, fun _ => NB332_318.out, fun _ => (by (with_reducible repeat (first | refine blk_drewN ?_ _ | refine blk_drew ?_ | refine blk_alloc ?_ _)); refine blk_put (cs := #[.string t319, .string t320, .string t321, .string t322, .string t323, .string (⟨#[]⟩ : ByteArray)]) ?_ 5 _ rfl; (with_reducible repeat (first | refine blk_drewN ?_ _ | refine blk_drew ?_ | refine blk_alloc ?_ _)); refine blk_put (cs := #[.string t319, .string t320, .string t321, .string t322, .string (⟨#[]⟩ : ByteArray), .string (⟨#[]⟩ : ByteArray)]) ?_ 4 _ rfl; (with_reducible repeat (first | refine blk_drewN ?_ _ | refine blk_drew ?_ | refine blk_alloc ?_ _)); refine blk_put (cs := #[.string t319, .string t320, .string t321, .string (⟨#[]⟩ : ByteArray), .string (⟨#[]⟩ : ByteArray), .string (⟨#[]⟩ : ByteArray)]) ?_ 3 _ rfl; (with_reducible repeat (first | refine blk_drewN ?_ _ | refine blk_drew ?_ | refine blk_alloc ?_ _)); refine blk_put (cs := #[.string t319, .string t320, .string (⟨#[]⟩ : ByteArray), .string (⟨#[]⟩ : ByteArray), .string (⟨#[]⟩ : ByteArray), .string (⟨#[]⟩ : ByteArray)]) ?_ 2 _ rfl; (with_reducible repeat (first | refine blk_drewN ?_ _ | refine blk_drew ?_ | refine blk_alloc ?_ _)); refine blk_put (cs := #[.string t319, .string (⟨#[]⟩ : ByteArray), .string (⟨#[]⟩ : ByteArray), .string (⟨#[]⟩ : ByteArray), .string (⟨#[]⟩ : ByteArray), .string (⟨#[]⟩ : ByteArray)]) ?_ 1 _ rfl; (with_reducible repeat (first | refine blk_drewN ?_ _ | refine blk_drew ?_ | refine blk_alloc ?_ _)); refine blk_put (cs := #[.string (⟨#[]⟩ : ByteArray), .string (⟨#[]⟩ : ByteArray), .string (⟨#[]⟩ : ByteArray), .string (⟨#[]⟩ : ByteArray), .string (⟨#[]⟩ : ByteArray), .string (⟨#[]⟩ : ByteArray)]) ?_ 0 _ rfl; (with_reducible repeat (first | refine blk_drewN ?_ _ | refine blk_drew ?_ | refine blk_alloc ?_ _)); exact BK331.out), fun h0_ => absurd ((hoff 7 (by kernel_rfl)).symm.trans h0_) (by decide), Q_X4_, Q_X5_⟩
  refine steps_cons ?_ ?_
  ·rintro b a w' ⟨gb331, gb332, m4_, m5_, ha, Q_BK317, Q_BK318, Q_HB, Q_NB332_331, Q_NB331_332, Q_BK331, Q_GW331, Q_GE331, Q_NB317_331, Q_NB331_317, Q_NB318_331, Q_NB331_318, Q_BK332, Q_GW332, Q_GE332, Q_NB317_332, Q_NB332_317, Q_NB318_332, Q_NB332_318, Q_BK331_e6, Q_BK332_e7, Q_X4_, Q_X5_⟩ hb_ hon hoff
   refine ⟨_, rfl, fun K hK => ?_⟩
   have e6 : a.tmps[6]? = some (m5_) := by rw [ha]; exact putSel_on (e := (5, 6, m5_)) 5 rfl rfl (hon 5 (by kernel_rfl)) rfl
   rw [Q_X5_ (hon 5 (by kernel_rfl))] at e6
   have e11 : a.tmps[11]? = some (.agg #[.string t325, .string t326, .string t327, .string t328, .string t329, .string t330]) := by rw [ha]; exact putSel_on (e := (3, 11, .agg #[.string t325, .string t326, .string t327, .string t328, .string t329, .string t330])) 3 rfl rfl (hon 3 (by kernel_rfl)) rfl
   replace ha := Aside0.mk ha
   have BK317 := Aside0.mk Q_BK317
   have BK318 := Aside0.mk Q_BK318
   have HB := Aside0.mk Q_HB
   have NB332_331 := Aside0.mk (Q_NB332_331 (hon 4 (by kernel_rfl)) (hon 5 (by kernel_rfl)))
   have NB331_332 := Aside0.mk (Q_NB331_332 (hon 4 (by kernel_rfl)) (hon 5 (by kernel_rfl)))
   have GW331 := Aside0.mk (Q_GW331 (hon 4 (by kernel_rfl)))
   have GE331 := Aside0.mk (Q_GE331 (hon 4 (by kernel_rfl)))
   have NB317_331 := Aside0.mk (Q_NB317_331 (hon 4 (by kernel_rfl)))
   have NB331_317 := Aside0.mk (Q_NB331_317 (hon 4 (by kernel_rfl)))
   have NB318_331 := Aside0.mk (Q_NB318_331 (hon 4 (by kernel_rfl)))
   have NB331_318 := Aside0.mk (Q_NB331_318 (hon 4 (by kernel_rfl)))
   have BK332 := Aside0.mk (Q_BK332 (hon 5 (by kernel_rfl)) hb_)
   have GW332 := Aside0.mk (Q_GW332 (hon 5 (by kernel_rfl)))
   have GE332 := Aside0.mk (Q_GE332 (hon 5 (by kernel_rfl)))
   have NB317_332 := Aside0.mk (Q_NB317_332 (hon 5 (by kernel_rfl)))
   have NB332_317 := Aside0.mk (Q_NB332_317 (hon 5 (by kernel_rfl)))
   have NB318_332 := Aside0.mk (Q_NB318_332 (hon 5 (by kernel_rfl)))
   have NB332_318 := Aside0.mk (Q_NB332_318 (hon 5 (by kernel_rfl)))
   have BK331 := Aside0.mk (Q_BK331_e6 (hon 6 (by kernel_rfl)))
   have hs19 : w'.cell? ⟨gb332, 0, none⟩ = some (.string (⟨#[]⟩ : ByteArray)) := (blk_cell BK332.out 0).trans rfl
   have hfs19 := blk_frozen BK332.out 0
   have hns19_0 := NB317_332.out
   have hns19_1 := NB318_332.out
   have hns19_2 := NB331_332.out
   have hms19_0 := NB332_317.out
   have hms19_1 := NB332_318.out
   have hms19_2 := NB332_331.out
   have hs20 : w'.cell? ⟨gb332, 1, none⟩ = some (.string (⟨#[]⟩ : ByteArray)) := (blk_cell BK332.out 1).trans rfl
   have hfs20 := blk_frozen BK332.out 1
   have hns20_0 := NB317_332.out
   have hns20_1 := NB318_332.out
   have hns20_2 := NB331_332.out
   have hms20_0 := NB332_317.out
   have hms20_1 := NB332_318.out
   have hms20_2 := NB332_331.out
   have hs21 : w'.cell? ⟨gb332, 2, none⟩ = some (.string (⟨#[]⟩ : ByteArray)) := (blk_cell BK332.out 2).trans rfl
   have hfs21 := blk_frozen BK332.out 2
   have hns21_0 := NB317_332.out
   have hns21_1 := NB318_332.out
   have hns21_2 := NB331_332.out
   have hms21_0 := NB332_317.out
   have hms21_1 := NB332_318.out
   have hms21_2 := NB332_331.out
   have hs22 : w'.cell? ⟨gb332, 3, none⟩ = some (.string (⟨#[]⟩ : ByteArray)) := (blk_cell BK332.out 3).trans rfl
   have hfs22 := blk_frozen BK332.out 3
   have hns22_0 := NB317_332.out
   have hns22_1 := NB318_332.out
   have hns22_2 := NB331_332.out
   have hms22_0 := NB332_317.out
   have hms22_1 := NB332_318.out
   have hms22_2 := NB332_331.out
   have hs23 : w'.cell? ⟨gb332, 4, none⟩ = some (.string (⟨#[]⟩ : ByteArray)) := (blk_cell BK332.out 4).trans rfl
   have hfs23 := blk_frozen BK332.out 4
   have hns23_0 := NB317_332.out
   have hns23_1 := NB318_332.out
   have hns23_2 := NB331_332.out
   have hms23_0 := NB332_317.out
   have hms23_1 := NB332_318.out
   have hms23_2 := NB332_331.out
   have hs24 : w'.cell? ⟨gb332, 5, none⟩ = some (.string (⟨#[]⟩ : ByteArray)) := (blk_cell BK332.out 5).trans rfl
   have hfs24 := blk_frozen BK332.out 5
   have hns24_0 := NB317_332.out
   have hns24_1 := NB318_332.out
   have hns24_2 := NB331_332.out
   have hms24_0 := NB332_317.out
   have hms24_1 := NB332_318.out
   have hms24_2 := NB332_331.out
   refine skip_ (w1 := ?_) (by rfl) rfl ?_ ?_
   rotate_left
   ·go_simp
    rfl
   refine hK.out _ _ ⟨gb331, gb332, m4_, m5_, (by rw [ha.out]; exact putSel_none (v := undef) rfl), (by (with_reducible repeat (first | refine blk_drewN ?_ _ | refine blk_drew ?_ | refine blk_alloc ?_ _)); refine blk_far ?_ NB317_332.out _; (with_reducible repeat (first | refine blk_drewN ?_ _ | refine blk_drew ?_ | refine blk_alloc ?_ _)); refine blk_far ?_ NB317_332.out _; (with_reducible repeat (first | refine blk_drewN ?_ _ | refine blk_drew ?_ | refine blk_alloc ?_ _)); refine blk_far ?_ NB317_332.out _; (with_reducible repeat (first | refine blk_drewN ?_ _ | refine blk_drew ?_ | refine blk_alloc ?_ _)); refine blk_far ?_ NB317_332.out _; (with_reducible repeat (first | refine blk_drewN ?_ _ | refine blk_drew ?_ | refine blk_alloc ?_ _)); refine blk_far ?_ NB317_332.out _; (with_reducible repeat (first | refine blk_drewN ?_ _ | refine blk_drew ?_ | refine blk_alloc ?_ _)); refine blk_far ?_ NB317_332.out _; (with_reducible repeat (first | refine blk_drewN ?_ _ | refine blk_drew ?_ | refine blk_alloc ?_ _)); exact BK317.out), (by (with_reducible repeat (first | refine blk_drewN ?_ _ | refine blk_drew ?_ | refine blk_alloc ?_ _)); refine blk_far ?_ NB318_332.out _; (with_reducible repeat (first | refine blk_drewN ?_ _ | refine blk_drew ?_ | refine blk_alloc ?_ _)); refine blk_far ?_ NB318_332.out _; (with_reducible repeat (first | refine blk_drewN ?_ _ | refine blk_drew ?_ | refine blk_alloc ?_ _)); refine blk_far ?_ NB318_332.out _; (with_reducible repeat (first | refine blk_drewN ?_ _ | refine blk_drew ?_ | refine blk_alloc ?_ _)); refine blk_far ?_ NB318_332.out _; (with_reducible repeat (first | refine blk_drewN ?_ _ | refine blk_drew ?_ | refine blk_alloc ?_ _)); refine blk_far ?_ NB318_332.out _; (with_reducible repeat (first | refine blk_drewN ?_ _ | refine blk_drew ?_ | refine blk_alloc ?_ _)); refine blk_far ?_ NB318_332.out _; (with_reducible repeat (first | refine blk_drewN ?_ _ | refine blk_drew ?_ | refine blk_alloc ?_ _)); exact BK318.out), (by repeat (first | (with_reducible first | exact HB.out | apply below_alloc | apply pw_below_drewN | apply below_drew1 | refine below_set ?_ GE317.out | refine below_set ?_ GE318.out | refine below_set ?_ GE331.out | refine below_set ?_ GE332.out) | exact HB.out)), fun _ _ => NB332_331.out, fun _ _ => NB331_332.out, fun _ h1_ => absurd ((hon 6 (by kernel_rfl)).symm.trans h1_) (by decide), fun _ => GW331.out, fun _ => GE331.out, fun _ => NB317_331.out, fun _ => NB331_317.out, fun _ => NB318_331.out, fun _ => NB331_318.out, fun _ h1_ => absurd ((up_self b 7).symm.trans h1_) (by decide), fun _ => GW332.out, fun _ => GE332.out, fun _ => NB317_332.out, fun _ => NB332_317.out, fun _ => NB318_332.out, fun _ => NB332_318.out, fun _ => (by (with_reducible repeat (first | refine blk_drewN ?_ _ | refine blk_drew ?_ | refine blk_alloc ?_ _)); refine blk_far ?_ NB331_332.out _; (with_reducible repeat (first | refine blk_drewN ?_ _ | refine blk_drew ?_ | refine blk_alloc ?_ _)); refine blk_far ?_ NB331_332.out _; (with_reducible repeat (first | refine blk_drewN ?_ _ | refine blk_drew ?_ | refine blk_alloc ?_ _)); refine blk_far ?_ NB331_332.out _; (with_reducible repeat (first | refine blk_drewN ?_ _ | refine blk_drew ?_ | refine blk_alloc ?_ _)); refine blk_far ?_ NB331_332.out _; (with_reducible repeat (first | refine blk_drewN ?_ _ | refine blk_drew ?_ | refine blk_alloc ?_ _)); refine blk_far ?_ NB331_332.out _; (with_reducible repeat (first | refine blk_drewN ?_ _ | refine blk_drew ?_ | refine blk_alloc ?_ _)); refine blk_far ?_ NB331_332.out _; (with_reducible repeat (first | refine blk_drewN ?_ _ | refine blk_drew ?_ | refine blk_alloc ?_ _)); exact BK331.out), fun _ => (by (with_reducible repeat (first | refine blk_drewN ?_ _ | refine blk_drew ?_ | refine blk_alloc ?_ _)); refine blk_put (cs := #[.string t325, .string t326, .string t327, .string t328, .string t329, .string (⟨#[]⟩ : ByteArray)]) ?_ 5 _ rfl; (with_reducible repeat (first | refine blk_drewN ?_ _ | refine blk_drew ?_ | refine blk_alloc ?_ _)); refine blk_put (cs := #[.string t325, .string t326, .string t327, .string t328, .string (⟨#[]⟩ : ByteArray), .string (⟨#[]⟩ : ByteArray)]) ?_ 4 _ rfl; (with_reducible repeat (first | refine blk_drewN ?_ _ | refine blk_drew ?_ | refine blk_alloc ?_ _)); refine blk_put (cs := #[.string t325, .string t326, .string t327, .string (⟨#[]⟩ : ByteArray), .string (⟨#[]⟩ : ByteArray), .string (⟨#[]⟩ : ByteArray)]) ?_ 3 _ rfl; (with_reducible repeat (first | refine blk_drewN ?_ _ | refine blk_drew ?_ | refine blk_alloc ?_ _)); refine blk_put (cs := #[.string t325, .string t326, .string (⟨#[]⟩ : ByteArray), .string (⟨#[]⟩ : ByteArray), .string (⟨#[]⟩ : ByteArray), .string (⟨#[]⟩ : ByteArray)]) ?_ 2 _ rfl; (with_reducible repeat (first | refine blk_drewN ?_ _ | refine blk_drew ?_ | refine blk_alloc ?_ _)); refine blk_put (cs := #[.string t325, .string (⟨#[]⟩ : ByteArray), .string (⟨#[]⟩ : ByteArray), .string (⟨#[]⟩ : ByteArray), .string (⟨#[]⟩ : ByteArray), .string (⟨#[]⟩ : ByteArray)]) ?_ 1 _ rfl; (with_reducible repeat (first | refine blk_drewN ?_ _ | refine blk_drew ?_ | refine blk_alloc ?_ _)); refine blk_put (cs := #[.string (⟨#[]⟩ : ByteArray), .string (⟨#[]⟩ : ByteArray), .string (⟨#[]⟩ : ByteArray), .string (⟨#[]⟩ : ByteArray), .string (⟨#[]⟩ : ByteArray), .string (⟨#[]⟩ : ByteArray)]) ?_ 0 _ rfl; (with_reducible repeat (first | refine blk_drewN ?_ _ | refine blk_drew ?_ | refine blk_alloc ?_ _)); exact BK332.out), Q_X4_, Q_X5_⟩
  exact steps_nil
 rintro b a w24 hall ⟨gb331, gb332, m4_, m5_, ha, Q_BK317, Q_BK318, Q_HB, Q_NB332_331, Q_NB331_332, Q_BK331, Q_GW331, Q_GE331, Q_NB317_331, Q_NB331_317, Q_NB318_331, Q_NB331_318, Q_BK332, Q_GW332, Q_GE332, Q_NB317_332, Q_NB332_317, Q_NB318_332, Q_NB332_318, Q_BK331_e6, Q_BK332_e7, Q_X4_, Q_X5_⟩
 clear BK317 BK318 HB
 have hb0_ := hall 0 (by kernel_rfl)
 have hb1_ := hall 1 (by kernel_rfl)
 have hb2_ := hall 2 (by kernel_rfl)
 have hb3_ := hall 3 (by kernel_rfl)
 have hb4_ := hall 4 (by kernel_rfl)
 have hb5_ := hall 5 (by kernel_rfl)
 have hb6_ := hall 6 (by kernel_rfl)
 have hb7_ := hall 7 (by kernel_rfl)
 subst ha
 obtain rfl := Q_X4_ hb4_
 obtain rfl := Q_X5_ hb5_
 simp only [putSel, hb0_, hb1_, hb2_, hb3_, hb4_, hb5_, hb6_, hb7_, if_true, Act.put, List.setIfInBounds_toArray, List.set_cons_zero, List.set_cons_succ]
 have BK317 := Aside0.mk Q_BK317
 clear Q_BK317
 have BK318 := Aside0.mk Q_BK318
 clear Q_BK318
 have HB := Aside0.mk Q_HB
 clear Q_HB
 have NB332_331 := Aside0.mk (Q_NB332_331 hb4_ hb5_)
 clear Q_NB332_331
 have NB331_332 := Aside0.mk (Q_NB331_332 hb4_ hb5_)
 clear Q_NB331_332
 clear Q_BK331
 have GW331 := Aside0.mk (Q_GW331 hb4_)
 clear Q_GW331
 have GE331 := Aside0.mk (Q_GE331 hb4_)
 clear Q_GE331
 have NB317_331 := Aside0.mk (Q_NB317_331 hb4_)
 clear Q_NB317_331
 have NB331_317 := Aside0.mk (Q_NB331_317 hb4_)
 clear Q_NB331_317
 have NB318_331 := Aside0.mk (Q_NB318_331 hb4_)
 clear Q_NB318_331
 have NB331_318 := Aside0.mk (Q_NB331_318 hb4_)
 clear Q_NB331_318
 clear Q_BK332
 have GW332 := Aside0.mk (Q_GW332 hb5_)
 clear Q_GW332
 have GE332 := Aside0.mk (Q_GE332 hb5_)
 clear Q_GE332
 have NB317_332 := Aside0.mk (Q_NB317_332 hb5_)
 clear Q_NB317_332
 have NB332_317 := Aside0.mk (Q_NB332_317 hb5_)
 clear Q_NB332_317
 have NB318_332 := Aside0.mk (Q_NB318_332 hb5_)
 clear Q_NB318_332
 have NB332_318 := Aside0.mk (Q_NB332_318 hb5_)
 clear Q_NB332_318
 have BK331 := Aside0.mk (Q_BK331_e6 hb6_)
 clear Q_BK331_e6
 have BK332 := Aside0.mk (Q_BK332_e7 hb7_)
 clear Q_BK332_e7
 clear hall hb0_ hb1_ hb2_ hb3_ hb4_ hb5_ hb6_ hb7_
 try go_wp2
 go_loopg [7] k (fun kq v7 w' => ∃ (x7_1 : Int), v7 = .int .i64 x7_1 ∧ Aside0 (entailref1_Less.l0 kq x7_1 t319 t320 t321 t322 t323 t324 t325 t326 t327 t328 t329 t330 = some r) ∧ Aside0 (kq ≤ k) ∧ Aside0 (w'.heap[gb317]? = some (.cells #[.string a0_0, .string a0_1, .string a0_2, .string a0_3, .string a0_4, .string a0_5] 29 (0, 0))) ∧ Aside0 (w'.heap[gb318]? = some (.cells #[.string a1_0, .string a1_1, .string a1_2, .string a1_3, .string a1_4, .string a1_5] 29 (0, 0))) ∧ Aside0 (w'.heap[gb331]? = some (.cells #[.string t319, .string t320, .string t321, .string t322, .string t323, .string t324] 59 (0, 0))) ∧ Aside0 (w'.heap[gb332]? = some (.cells #[.string t325, .string t326, .string t327, .string t328, .string t329, .string t330] 59 (0, 0))) ∧ Aside0 (Below w.heap.size w w'))
 case atStart => exact ⟨(0), (by first | rfl | (simp; done) | (simp [*]; done)), H', ⟨Nat.le_refl _⟩, ⟨by (with_reducible repeat (first | refine blk_drewN ?_ _ | refine blk_drew ?_ | refine blk_alloc ?_ _)); exact BK317.out⟩, ⟨by (with_reducible repeat (first | refine blk_drewN ?_ _ | refine blk_drew ?_ | refine blk_alloc ?_ _)); exact BK318.out⟩, ⟨by (with_reducible repeat (first | refine blk_drewN ?_ _ | refine blk_drew ?_ | refine blk_alloc ?_ _)); exact BK331.out⟩, ⟨by (with_reducible repeat (first | refine blk_drewN ?_ _ | refine blk_drew ?_ | refine blk_alloc ?_ _)); exact BK332.out⟩, ⟨by repeat (first | (with_reducible first | exact HB.out | apply below_alloc | apply pw_below_drewN | apply below_drew1 | refine below_set ?_ GE317.out | refine below_set ?_ GE318.out | refine below_set ?_ GE331.out | refine below_set ?_ GE332.out) | exact HB.out)⟩⟩
 case round =>
  clear H'
  try clear c1
  try clear c2
  try clear p2
  try clear c3
  try clear c4
  try clear c5
  try clear c22
  obtain ⟨x7_1, rfl, HA, HK1, BK317, BK318, BK331, BK332, HB⟩ := hrel
  cases gk with
  | zero => exact absurd HA.out (by simp [entailref1_Less.l0])
  | succ k1 =>
   have H := HA.out
   clear HA
   simp only [entailref1_Less.l0] at H
   by_cases c25 : x7_1 < 6
   ·rw [if_pos c25] at H
    have c25b0 : decide (x7_1 < 6) = true := decide_eq_true c25
    clear c25
    by_cases c26 : x7_1 = 0
    ·rw [if_pos c26] at H


     subst c26
     by_cases c27 : t319.toList = t325.toList
     ·rw [if_pos c27] at H
      have c27b0 : (t319.toList == t325.toList) = true := beq_iff_eq.mpr c27
      have c27b1 : (t319.toList != t325.toList) = false := bne_eq_false_iff_eq.mpr c27
      clear c27
      have H' := Aside0.mk H
      clear H
      try go_wp2
      have n0_ := Aside0.mk (blk_drew BK317.out)
      have n1_ := Aside0.mk (blk_drew BK318.out)
      have n2_ := Aside0.mk (blk_drew BK331.out)
      have n3_ := Aside0.mk (blk_drew BK332.out)
      have n4_ := Aside0.mk (below_drew1 HB.out)
      clear BK317
      clear BK318
      clear BK331
      clear BK332
      clear HB
      have BK317 := n0_
      have BK318 := n1_
      have BK331 := n2_
      have BK332 := n3_
      have HB := n4_
      clear n0_ n1_ n2_ n3_ n4_
      refine start_ (n := 7) (S := fun w' => w'.cell? ⟨gb331, 0, none⟩ = some (.string t319) ∧ w'.cell? ⟨gb331, 1, none⟩ = some (.string t320) ∧ w'.cell? ⟨gb331, 2, none⟩ = some (.string t321) ∧ w'.cell? ⟨gb331, 3, none⟩ = some (.string t322) ∧ w'.cell? ⟨gb331, 4, none⟩ = some (.string t323) ∧ w'.cell? ⟨gb331, 5, none⟩ = some (.string t324) ∧ w'.cell? ⟨gb332, 0, none⟩ = some (.string t325) ∧ w'.cell? ⟨gb332, 1, none⟩ = some (.string t326) ∧ w'.cell? ⟨gb332, 2, none⟩ = some (.string t327) ∧ w'.cell? ⟨gb332, 3, none⟩ = some (.string t328) ∧ w'.cell? ⟨gb332, 4, none⟩ = some (.string t329) ∧ w'.cell? ⟨gb332, 5, none⟩ = some (.string t330)) (ds := []) #[false, false, false, false, false, false, false] (by kernel_rfl) rfl rfl ⟨(blk_cell BK331.out 0).trans rfl, (blk_cell BK331.out 1).trans rfl, (blk_cell BK331.out 2).trans rfl, (blk_cell BK331.out 3).trans rfl, (blk_cell BK331.out 4).trans rfl, (blk_cell BK331.out 5).trans rfl, (blk_cell BK332.out 0).trans rfl, (blk_cell BK332.out 1).trans rfl, (blk_cell BK332.out 2).trans rfl, (blk_cell BK332.out 3).trans rfl, (blk_cell BK332.out 4).trans rfl, (blk_cell BK332.out 5).trans rfl⟩ (fun hHeld => ?_)
      generalize wr.drew = w28 at BK317 BK318 BK331 BK332 HB hHeld ⊢
      refine pure_ (i := 0) (N := some 16) (v := ?_) (a' := ?_) #[true, false, false, false, false, false, false] rfl rfl (by kernel_rfl) (fun _ _ _ h => h) (Or.inl ⟨by rfl, ?_⟩) ?_ ?_
      rotate_left
      ·intro w'
       go_simp
       with_reducible rfl
      rotate_left
      ·simp only [Act.put, List.setIfInBounds_toArray, List.set_cons_zero, List.set_cons_succ, i64_w, i32_w]
       rfl
      refine pure_ (i := 1) (N := some 17) (v := ?_) (a' := ?_) #[true, true, false, false, false, false, false] rfl rfl (by kernel_rfl) (fun _ _ _ h => h) (Or.inl ⟨by rfl, ?_⟩) ?_ ?_
      rotate_left
      ·intro w'
       go_simp
       with_reducible rfl
      rotate_left
      ·simp only [Act.put, List.setIfInBounds_toArray, List.set_cons_zero, List.set_cons_succ, i64_w, i32_w]
       rfl
      refine pure_ (i := 3) (N := some 19) (v := ?_) (a' := ?_) #[true, true, false, true, false, false, false] rfl rfl (by kernel_rfl) (fun _ _ _ h => h) (Or.inl ⟨by rfl, ?_⟩) ?_ ?_
      rotate_left
      ·intro w'
       go_simp
       with_reducible rfl
      rotate_left
      ·simp only [Act.put, List.setIfInBounds_toArray, List.set_cons_zero, List.set_cons_succ, i64_w, i32_w]
       rfl
      refine pure_ (i := 4) (N := some 20) (v := ?_) (a' := ?_) #[true, true, false, true, true, false, false] rfl rfl (by kernel_rfl) (fun _ _ _ h => h) (Or.inl ⟨by rfl, ?_⟩) ?_ ?_
      rotate_left
      ·intro w'
       go_simp
       with_reducible rfl
      rotate_left
      ·simp only [Act.put, List.setIfInBounds_toArray, List.set_cons_zero, List.set_cons_succ, i64_w, i32_w]
       rfl
      refine take_ (i := 2) (N := some 18) (v := ?_) (a' := ?_) #[true, true, true, true, true, false, false] rfl rfl (by kernel_rfl) (fun _ _ _ h => h) (Or.inl ⟨by rfl, ?_⟩) hHeld ?_ ?_
      rotate_left
      ·rintro w' ⟨s0, s1, s2, s3, s4, s5, s6, s7, s8, s9, s10, s11⟩
       go_simp
       with_reducible rfl
      rotate_left
      ·simp only [Act.put, List.setIfInBounds_toArray, List.set_cons_zero, List.set_cons_succ, i64_w, i32_w]
       rfl
      refine take_ (i := 5) (N := some 21) (v := ?_) (a' := ?_) #[true, true, true, true, true, true, false] rfl rfl (by kernel_rfl) (fun _ _ _ h => h) (Or.inl ⟨by rfl, ?_⟩) hHeld ?_ ?_
      rotate_left
      ·rintro w' ⟨s0, s1, s2, s3, s4, s5, s6, s7, s8, s9, s10, s11⟩
       go_simp
       with_reducible rfl
      rotate_left
      ·simp only [Act.put, List.setIfInBounds_toArray, List.set_cons_zero, List.set_cons_succ, i64_w, i32_w]
       rfl
      refine pure_ (i := 6) (N := some 22) (v := ?_) (a' := ?_) #[true, true, true, true, true, true, true] rfl rfl (by kernel_rfl) (fun _ _ _ h => h) (Or.inl ⟨by rfl, ?_⟩) ?_ ?_
      rotate_left
      ·intro w'
       go_simp
       with_reducible rfl
      rotate_left
      ·simp only [Act.put, List.setIfInBounds_toArray, List.set_cons_zero, List.set_cons_succ, i64_w, i32_w]
       rfl
      refine done_ (by kernel_rfl) ?_
      try go_wp2
      go_roundg k1
      case measure => have := HK1.out; omega
      case rel => exact ⟨(wrap64 (0 + 1)), (by first | rfl | (simp; done) | (simp; decide +kernel) | (simp [*]; done)), H', ⟨by have := HK1.out; omega⟩, ⟨by (with_reducible repeat (first | refine blk_drewN ?_ _ | refine blk_drew ?_ | refine blk_alloc ?_ _)); exact BK317.out⟩, ⟨by (with_reducible repeat (first | refine blk_drewN ?_ _ | refine blk_drew ?_ | refine blk_alloc ?_ _)); exact BK318.out⟩, ⟨by (with_reducible repeat (first | refine blk_drewN ?_ _ | refine blk_drew ?_ | refine blk_alloc ?_ _)); exact BK331.out⟩, ⟨by (with_reducible repeat (first | refine blk_drewN ?_ _ | refine blk_drew ?_ | refine blk_alloc ?_ _)); exact BK332.out⟩, ⟨by repeat (first | (with_reducible first | exact HB.out | apply below_alloc | apply pw_below_drewN | apply below_drew1 | refine below_set ?_ GE317.out | refine below_set ?_ GE318.out | refine below_set ?_ GE331.out | refine below_set ?_ GE332.out) | exact HB.out)⟩⟩
     ·rw [if_neg c27] at H
      have c27b0 : (t319.toList == t325.toList) = false := beq_eq_false_iff_ne.mpr c27
      have c27b1 : (t319.toList != t325.toList) = true := bne_iff_ne.mpr c27
      obtain rfl := Option.some.inj H
      try go_wp2
      have n0_ := Aside0.mk (blk_drew BK317.out)
      have n1_ := Aside0.mk (blk_drew BK318.out)
      have n2_ := Aside0.mk (blk_drew BK331.out)
      have n3_ := Aside0.mk (blk_drew BK332.out)
      have n4_ := Aside0.mk (below_drew1 HB.out)
      clear BK317
      clear BK318
      clear BK331
      clear BK332
      clear HB
      have BK317 := n0_
      have BK318 := n1_
      have BK331 := n2_
      have BK332 := n3_
      have HB := n4_
      clear n0_ n1_ n2_ n3_ n4_
      refine start_ (n := 7) (S := fun w' => w'.cell? ⟨gb331, 0, none⟩ = some (.string t319) ∧ w'.cell? ⟨gb331, 1, none⟩ = some (.string t320) ∧ w'.cell? ⟨gb331, 2, none⟩ = some (.string t321) ∧ w'.cell? ⟨gb331, 3, none⟩ = some (.string t322) ∧ w'.cell? ⟨gb331, 4, none⟩ = some (.string t323) ∧ w'.cell? ⟨gb331, 5, none⟩ = some (.string t324) ∧ w'.cell? ⟨gb332, 0, none⟩ = some (.string t325) ∧ w'.cell? ⟨gb332, 1, none⟩ = some (.string t326) ∧ w'.cell? ⟨gb332, 2, none⟩ = some (.string t327) ∧ w'.cell? ⟨gb332, 3, none⟩ = some (.string t328) ∧ w'.cell? ⟨gb332, 4, none⟩ = some (.string t329) ∧ w'.cell? ⟨gb332, 5, none⟩ = some (.string t330)) (ds := []) #[false, false, false, false, false, false, false] (by kernel_rfl) rfl rfl ⟨(blk_cell BK331.out 0).trans rfl, (blk_cell BK331.out 1).trans rfl, (blk_cell BK331.out 2).trans rfl, (blk_cell BK331.out 3).trans rfl, (blk_cell BK331.out 4).trans rfl, (blk_cell BK331.out 5).trans rfl, (blk_cell BK332.out 0).trans rfl, (blk_cell BK332.out 1).trans rfl, (blk_cell BK332.out 2).trans rfl, (blk_cell BK332.out 3).trans rfl, (blk_cell BK332.out 4).trans rfl, (blk_cell BK332.out 5).trans rfl⟩ (fun hHeld => ?_)
      generalize wr.drew = w29 at BK317 BK318 BK331 BK332 HB hHeld ⊢
      refine pure_ (i := 0) (N := some 16) (v := ?_) (a' := ?_) #[true, false, false, false, false, false, false] rfl rfl (by kernel_rfl) (fun _ _ _ h => h) (Or.inl ⟨by rfl, ?_⟩) ?_ ?_
      rotate_left
      ·intro w'
       go_simp
       with_reducible rfl
      rotate_left
      ·simp only [Act.put, List.setIfInBounds_toArray, List.set_cons_zero, List.set_cons_succ, i64_w, i32_w]
       rfl
      refine pure_ (i := 1) (N := some 17) (v := ?_) (a' := ?_) #[true, true, false, false, false, false, false] rfl rfl (by kernel_rfl) (fun _ _ _ h => h) (Or.inl ⟨by rfl, ?_⟩) ?_ ?_
      rotate_left
      ·intro w'
       go_simp
       with_reducible rfl
      rotate_left
      ·simp only [Act.put, List.setIfInBounds_toArray, List.set_cons_zero, List.set_cons_succ, i64_w, i32_w]
       rfl
      refine pure_ (i := 3) (N := some 19) (v := ?_) (a' := ?_) #[true, true, false, true, false, false, false] rfl rfl (by kernel_rfl) (fun _ _ _ h => h) (Or.inl ⟨by rfl, ?_⟩) ?_ ?_
      rotate_left
      ·intro w'
       go_simp
       with_reducible rfl
      rotate_left
      ·simp only [Act.put, List.setIfInBounds_toArray, List.set_cons_zero, List.set_cons_succ, i64_w, i32_w]
       rfl
      refine pure_ (i := 4) (N := some 20) (v := ?_) (a' := ?_) #[true, true, false, true, true, false, false] rfl rfl (by kernel_rfl) (fun _ _ _ h => h) (Or.inl ⟨by rfl, ?_⟩) ?_ ?_
      rotate_left
      ·intro w'
       go_simp
       with_reducible rfl
      rotate_left
      ·simp only [Act.put, List.setIfInBounds_toArray, List.set_cons_zero, List.set_cons_succ, i64_w, i32_w]
       rfl
      refine take_ (i := 2) (N := some 18) (v := ?_) (a' := ?_) #[true, true, true, true, true, false, false] rfl rfl (by kernel_rfl) (fun _ _ _ h => h) (Or.inl ⟨by rfl, ?_⟩) hHeld ?_ ?_
      rotate_left
      ·rintro w' ⟨s0, s1, s2, s3, s4, s5, s6, s7, s8, s9, s10, s11⟩
       go_simp
       with_reducible rfl
      rotate_left
      ·simp only [Act.put, List.setIfInBounds_toArray, List.set_cons_zero, List.set_cons_succ, i64_w, i32_w]
       rfl
      refine take_ (i := 5) (N := some 21) (v := ?_) (a' := ?_) #[true, true, true, true, true, true, false] rfl rfl (by kernel_rfl) (fun _ _ _ h => h) (Or.inl ⟨by rfl, ?_⟩) hHeld ?_ ?_
      rotate_left
      ·rintro w' ⟨s0, s1, s2, s3, s4, s5, s6, s7, s8, s9, s10, s11⟩
       go_simp
       with_reducible rfl
      rotate_left
      ·simp only [Act.put, List.setIfInBounds_toArray, List.set_cons_zero, List.set_cons_succ, i64_w, i32_w]
       rfl
      refine pure_ (i := 6) (N := some 22) (v := ?_) (a' := ?_) #[true, true, true, true, true, true, true] rfl rfl (by kernel_rfl) (fun _ _ _ h => h) (Or.inl ⟨by rfl, ?_⟩) ?_ ?_
      rotate_left
      ·intro w'
       go_simp
       with_reducible rfl
      rotate_left
      ·simp only [Act.put, List.setIfInBounds_toArray, List.set_cons_zero, List.set_cons_succ, i64_w, i32_w]
       rfl
      refine done_ (by kernel_rfl) ?_
      try go_wp2
      have n0_ := Aside0.mk (blk_drew BK317.out)
      have n1_ := Aside0.mk (blk_drew BK318.out)
      have n2_ := Aside0.mk (blk_drew BK331.out)
      have n3_ := Aside0.mk (blk_drew BK332.out)
      have n4_ := Aside0.mk (below_drew1 HB.out)
      clear BK317
      clear BK318
      clear BK331
      clear BK332
      clear HB
      have BK317 := n0_
      have BK318 := n1_
      have BK331 := n2_
      have BK332 := n3_
      have HB := n4_
      clear n0_ n1_ n2_ n3_ n4_
      refine start_ (n := 8) (S := fun w' => w'.cell? ⟨gb331, 0, none⟩ = some (.string t319) ∧ w'.cell? ⟨gb331, 1, none⟩ = some (.string t320) ∧ w'.cell? ⟨gb331, 2, none⟩ = some (.string t321) ∧ w'.cell? ⟨gb331, 3, none⟩ = some (.string t322) ∧ w'.cell? ⟨gb331, 4, none⟩ = some (.string t323) ∧ w'.cell? ⟨gb331, 5, none⟩ = some (.string t324) ∧ w'.cell? ⟨gb332, 0, none⟩ = some (.string t325) ∧ w'.cell? ⟨gb332, 1, none⟩ = some (.string t326) ∧ w'.cell? ⟨gb332, 2, none⟩ = some (.string t327) ∧ w'.cell? ⟨gb332, 3, none⟩ = some (.string t328) ∧ w'.cell? ⟨gb332, 4, none⟩ = some (.string t329) ∧ w'.cell? ⟨gb332, 5, none⟩ = some (.string t330)) (ds := []) #[false, false, false, false, false, false, false, false] (by kernel_rfl) rfl rfl ⟨(blk_cell BK331.out 0).trans rfl, (blk_cell BK331.out 1).trans rfl, (blk_cell BK331.out 2).trans rfl, (blk_cell BK331.out 3).trans rfl, (blk_cell BK331.out 4).trans rfl, (blk_cell BK331.out 5).trans rfl, (blk_cell BK332.out 0).trans rfl, (blk_cell BK332.out 1).trans rfl, (blk_cell BK332.out 2).trans rfl, (blk_cell BK332.out 3).trans rfl, (blk_cell BK332.out 4).trans rfl, (blk_cell BK332.out 5).trans rfl⟩ (fun hHeld => ?_); refine with_tabW entailref1_Less.tab6 entailref1_Less.bits6 (fun HT_ HW_ => ?_)
      generalize w29.drew = w30 at BK317 BK318 BK331 BK332 HB hHeld ⊢
      refine pure_ (i := 0) (N := some 23) (v := ?_) (a' := ?_) #[true, false, false, false, false, false, false, false] rfl rfl (any_of HT_.out (by kernel_rfl)) (fun _ _ _ h => h) (Or.inl ⟨by rfl, ?_⟩) ?_ ?_
      rotate_left
      ·intro w'
       go_simp
       with_reducible rfl
      rotate_left
      ·simp only [Act.put, List.setIfInBounds_toArray, List.set_cons_zero, List.set_cons_succ, i64_w, i32_w]
       rfl
      refine pure_ (i := 1) (N := some 24) (v := ?_) (a' := ?_) #[true, true, false, false, false, false, false, false] rfl rfl (any_of HT_.out (by kernel_rfl)) (fun _ _ _ h => h) (Or.inl ⟨by rfl, ?_⟩) ?_ ?_
      rotate_left
      ·intro w'
       go_simp
       with_reducible rfl
      rotate_left
      ·simp only [Act.put, List.setIfInBounds_toArray, List.set_cons_zero, List.set_cons_succ, i64_w, i32_w]
       rfl
      refine pure_ (i := 3) (N := some 26) (v := ?_) (a' := ?_) #[true, true, false, true, false, false, false, false] rfl rfl (any_of HT_.out (by kernel_rfl)) (fun _ _ _ h => h) (Or.inl ⟨by rfl, ?_⟩) ?_ ?_
      rotate_left
      ·intro w'
       go_simp
       with_reducible rfl
      rotate_left
      ·simp only [Act.put, List.setIfInBounds_toArray, List.set_cons_zero, List.set_cons_succ, i64_w, i32_w]
       rfl
      refine pure_ (i := 4) (N := some 27) (v := ?_) (a' := ?_) #[true, true, false, true, true, false, false, false] rfl rfl (any_of HT_.out (by kernel_rfl)) (fun _ _ _ h => h) (Or.inl ⟨by rfl, ?_⟩) ?_ ?_
      rotate_left
      ·intro w'
       go_simp
       with_reducible rfl
      rotate_left
      ·simp only [Act.put, List.setIfInBounds_toArray, List.set_cons_zero, List.set_cons_succ, i64_w, i32_w]
       rfl
      refine take_ (i := 2) (N := some 25) (v := ?_) (a' := ?_) #[true, true, true, true, true, false, false, false] rfl rfl (take_ofW HT_.out HW_.out (by kernel_rfl)) (fun _ _ _ h => h) (Or.inl ⟨by rfl, ?_⟩) hHeld ?_ ?_
      rotate_left
      ·rintro w' ⟨s0, s1, s2, s3, s4, s5, s6, s7, s8, s9, s10, s11⟩
       go_simp
       with_reducible rfl
      rotate_left
      ·simp only [Act.put, List.setIfInBounds_toArray, List.set_cons_zero, List.set_cons_succ, i64_w, i32_w]
       rfl
      refine take_ (i := 5) (N := some 28) (v := ?_) (a' := ?_) #[true, true, true, true, true, true, false, false] rfl rfl (take_ofW HT_.out HW_.out (by kernel_rfl)) (fun _ _ _ h => h) (Or.inl ⟨by rfl, ?_⟩) hHeld ?_ ?_
      rotate_left
      ·rintro w' ⟨s0, s1, s2, s3, s4, s5, s6, s7, s8, s9, s10, s11⟩
       go_simp
       with_reducible rfl
      rotate_left
      ·simp only [Act.put, List.setIfInBounds_toArray, List.set_cons_zero, List.set_cons_succ, i64_w, i32_w]
       rfl
      refine pure_ (i := 6) (N := some 29) (v := ?_) (a' := ?_) #[true, true, true, true, true, true, true, false] rfl rfl (any_of HT_.out (by kernel_rfl)) (fun _ _ _ h => h) (Or.inl ⟨by rfl, ?_⟩) ?_ ?_
      rotate_left
      ·intro w'
       go_simp
       with_reducible rfl
      rotate_left
      ·simp only [Act.put, List.setIfInBounds_toArray, List.set_cons_zero, List.set_cons_succ, i64_w, i32_w]
       rfl
      refine pure_ (i := 7) (N := some 4) (v := ?_) (a' := ?_) #[true, true, true, true, true, true, true, true] rfl rfl (any_of HT_.out (by kernel_rfl)) (fun _ _ _ h => h) (Or.inl ⟨by rfl, ?_⟩) ?_ ?_
      rotate_left
      ·intro w'
       go_simp
       with_reducible rfl
      rotate_left
      ·simp only [Act.put, List.setIfInBounds_toArray, List.set_cons_zero, List.set_cons_succ, i64_w, i32_w]
       rfl
      refine done_ (done_of HT_.out (by kernel_rfl)) ?_
      try go_wp2
      go_ret
      exact ⟨by first | rfl | (simp [errW_none, errW_some] <;> rfl) | (simp [*, errW_none, errW_some] <;> rfl), by repeat (first | (with_reducible first | exact HB.out | apply below_alloc | apply pw_below_drewN | apply below_drew1 | refine below_set ?_ GE317.out | refine below_set ?_ GE318.out | refine below_set ?_ GE331.out | refine below_set ?_ GE332.out) | exact HB.out)⟩
    ·rw [if_neg c26] at H
     have c26b0 : (x7_1 == 0) = false := beq_eq_false_iff_ne.mpr c26
     have c26b1 : (x7_1 != 0) = true := bne_iff_ne.mpr c26
     by_cases c31 : x7_1 = 1
     ·rw [if_pos c31] at H


      subst c31
      by_cases c32 : t320.toList = t326.toList
      ·rw [if_pos c32] at H
       have c32b0 : (t320.toList == t326.toList) = true := beq_iff_eq.mpr c32
       have c32b1 : (t320.toList != t326.toList) = false := bne_eq_false_iff_eq.mpr c32
       clear c32
       have H' := Aside0.mk H
       clear H
       try go_wp2
       have n0_ := Aside0.mk (blk_drew BK317.out)
       have n1_ := Aside0.mk (blk_drew BK318.out)
       have n2_ := Aside0.mk (blk_drew BK331.out)
       have n3_ := Aside0.mk (blk_drew BK332.out)
       have n4_ := Aside0.mk (below_drew1 HB.out)
       clear BK317
       clear BK318
       clear BK331
       clear BK332
       clear HB
       have BK317 := n0_
       have BK318 := n1_
       have BK331 := n2_
       have BK332 := n3_
       have HB := n4_
       clear n0_ n1_ n2_ n3_ n4_
       refine start_ (n := 7) (S := fun w' => w'.cell? ⟨gb331, 0, none⟩ = some (.string t319) ∧ w'.cell? ⟨gb331, 1, none⟩ = some (.string t320) ∧ w'.cell? ⟨gb331, 2, none⟩ = some (.string t321) ∧ w'.cell? ⟨gb331, 3, none⟩ = some (.string t322) ∧ w'.cell? ⟨gb331, 4, none⟩ = some (.string t323) ∧ w'.cell? ⟨gb331, 5, none⟩ = some (.string t324) ∧ w'.cell? ⟨gb332, 0, none⟩ = some (.string t325) ∧ w'.cell? ⟨gb332, 1, none⟩ = some (.string t326) ∧ w'.cell? ⟨gb332, 2, none⟩ = some (.string t327) ∧ w'.cell? ⟨gb332, 3, none⟩ = some (.string t328) ∧ w'.cell? ⟨gb332, 4, none⟩ = some (.string t329) ∧ w'.cell? ⟨gb332, 5, none⟩ = some (.string t330)) (ds := []) #[false, false, false, false, false, false, false] (by kernel_rfl) rfl rfl ⟨(blk_cell BK331.out 0).trans rfl, (blk_cell BK331.out 1).trans rfl, (blk_cell BK331.out 2).trans rfl, (blk_cell BK331.out 3).trans rfl, (blk_cell BK331.out 4).trans rfl, (blk_cell BK331.out 5).trans rfl, (blk_cell BK332.out 0).trans rfl, (blk_cell BK332.out 1).trans rfl, (blk_cell BK332.out 2).trans rfl, (blk_cell BK332.out 3).trans rfl, (blk_cell BK332.out 4).trans rfl, (blk_cell BK332.out 5).trans rfl⟩ (fun hHeld => ?_)
       generalize wr.drew = w33 at BK317 BK318 BK331 BK332 HB hHeld ⊢
       refine pure_ (i := 0) (N := some 16) (v := ?_) (a' := ?_) #[true, false, false, false, false, false, false] rfl rfl (by kernel_rfl) (fun _ _ _ h => h) (Or.inl ⟨by rfl, ?_⟩) ?_ ?_
       rotate_left
       ·intro w'
        go_simp
        with_reducible rfl
       rotate_left
       ·simp only [Act.put, List.setIfInBounds_toArray, List.set_cons_zero, List.set_cons_succ, i64_w, i32_w]
        rfl
       refine pure_ (i := 1) (N := some 17) (v := ?_) (a' := ?_) #[true, true, false, false, false, false, false] rfl rfl (by kernel_rfl) (fun _ _ _ h => h) (Or.inl ⟨by rfl, ?_⟩) ?_ ?_
       rotate_left
       ·intro w'
        go_simp
        with_reducible rfl
       rotate_left
       ·simp only [Act.put, List.setIfInBounds_toArray, List.set_cons_zero, List.set_cons_succ, i64_w, i32_w]
        rfl
       refine pure_ (i := 3) (N := some 19) (v := ?_) (a' := ?_) #[true, true, false, true, false, false, false] rfl rfl (by kernel_rfl) (fun _ _ _ h => h) (Or.inl ⟨by rfl, ?_⟩) ?_ ?_
       rotate_left
       ·intro w'
        go_simp
        with_reducible rfl
       rotate_left
       ·simp only [Act.put, List.setIfInBounds_toArray, List.set_cons_zero, List.set_cons_succ, i64_w, i32_w]
        rfl
       refine pure_ (i := 4) (N := some 20) (v := ?_) (a' := ?_) #[true, true, false, true, true, false, false] rfl rfl (by kernel_rfl) (fun _ _ _ h => h) (Or.inl ⟨by rfl, ?_⟩) ?_ ?_
       rotate_left
       ·intro w'
        go_simp
        with_reducible rfl
       rotate_left
       ·simp only [Act.put, List.setIfInBounds_toArray, List.set_cons_zero, List.set_cons_succ, i64_w, i32_w]
        rfl
       refine take_ (i := 2) (N := some 18) (v := ?_) (a' := ?_) #[true, true, true, true, true, false, false] rfl rfl (by kernel_rfl) (fun _ _ _ h => h) (Or.inl ⟨by rfl, ?_⟩) hHeld ?_ ?_
       rotate_left
       ·rintro w' ⟨s0, s1, s2, s3, s4, s5, s6, s7, s8, s9, s10, s11⟩
        go_simp
        with_reducible rfl
       rotate_left
       ·simp only [Act.put, List.setIfInBounds_toArray, List.set_cons_zero, List.set_cons_succ, i64_w, i32_w]
        rfl
       refine take_ (i := 5) (N := some 21) (v := ?_) (a' := ?_) #[true, true, true, true, true, true, false] rfl rfl (by kernel_rfl) (fun _ _ _ h => h) (Or.inl ⟨by rfl, ?_⟩) hHeld ?_ ?_
       rotate_left
       ·rintro w' ⟨s0, s1, s2, s3, s4, s5, s6, s7, s8, s9, s10, s11⟩
        go_simp
        with_reducible rfl
       rotate_left
       ·simp only [Act.put, List.setIfInBounds_toArray, List.set_cons_zero, List.set_cons_succ, i64_w, i32_w]
        rfl
       refine pure_ (i := 6) (N := some 22) (v := ?_) (a' := ?_) #[true, true, true, true, true, true, true] rfl rfl (by kernel_rfl) (fun _ _ _ h => h) (Or.inl ⟨by rfl, ?_⟩) ?_ ?_
       rotate_left
       ·intro w'
        go_simp
        with_reducible rfl
       rotate_left
       ·simp only [Act.put, List.setIfInBounds_toArray, List.set_cons_zero, List.set_cons_succ, i64_w, i32_w]
        rfl
       refine done_ (by kernel_rfl) ?_
       try go_wp2
       go_roundg k1
       case measure => have := HK1.out; omega
       case rel => exact ⟨(wrap64 (1 + 1)), (by first | rfl | (simp; done) | (simp; decide +kernel) | (simp [*]; done)), H', ⟨by have := HK1.out; omega⟩, ⟨by (with_reducible repeat (first | refine blk_drewN ?_ _ | refine blk_drew ?_ | refine blk_alloc ?_ _)); exact BK317.out⟩, ⟨by (with_reducible repeat (first | refine blk_drewN ?_ _ | refine blk_drew ?_ | refine blk_alloc ?_ _)); exact BK318.out⟩, ⟨by (with_reducible repeat (first | refine blk_drewN ?_ _ | refine blk_drew ?_ | refine blk_alloc ?_ _)); exact BK331.out⟩, ⟨by (with_reducible repeat (first | refine blk_drewN ?_ _ | refine blk_drew ?_ | refine blk_alloc ?_ _)); exact BK332.out⟩, ⟨by repeat (first | (with_reducible first | exact HB.out | apply below_alloc | apply pw_below_drewN | apply below_drew1 | refine below_set ?_ GE317.out | refine below_set ?_ GE318.out | refine below_set ?_ GE331.out | refine below_set ?_ GE332.out) | exact HB.out)⟩⟩
      ·rw [if_neg c32] at H
       have c32b0 : (t320.toList == t326.toList) = false := beq_eq_false_iff_ne.mpr c32
       have c32b1 : (t320.toList != t326.toList) = true := bne_iff_ne.mpr c32
       obtain rfl := Option.some.inj H
       try go_wp2
       have n0_ := Aside0.mk (blk_drew BK317.out)
       have n1_ := Aside0.mk (blk_drew BK318.out)
       have n2_ := Aside0.mk (blk_drew BK331.out)
       have n3_ := Aside0.mk (blk_drew BK332.out)
       have n4_ := Aside0.mk (below_drew1 HB.out)
       clear BK317
       clear BK318
       clear BK331
       clear BK332
       clear HB
       have BK317 := n0_
       have BK318 := n1_
       have BK331 := n2_
       have BK332 := n3_
       have HB := n4_
       clear n0_ n1_ n2_ n3_ n4_
       refine start_ (n := 7) (S := fun w' => w'.cell? ⟨gb331, 0, none⟩ = some (.string t319) ∧ w'.cell? ⟨gb331, 1, none⟩ = some (.string t320) ∧ w'.cell? ⟨gb331, 2, none⟩ = some (.string t321) ∧ w'.cell? ⟨gb331, 3, none⟩ = some (.string t322) ∧ w'.cell? ⟨gb331, 4, none⟩ = some (.string t323) ∧ w'.cell? ⟨gb331, 5, none⟩ = some (.string t324) ∧ w'.cell? ⟨gb332, 0, none⟩ = some (.string t325) ∧ w'.cell? ⟨gb332, 1, none⟩ = some (.string t326) ∧ w'.cell? ⟨gb332, 2, none⟩ = some (.string t327) ∧ w'.cell? ⟨gb332, 3, none⟩ = some (.string t328) ∧ w'.cell? ⟨gb332, 4, none⟩ = some (.string t329) ∧ w'.cell? ⟨gb332, 5, none⟩ = some (.string t330)) (ds := []) #[false, false, false, false, false, false, false] (by kernel_rfl) rfl rfl ⟨(blk_cell BK331.out 0).trans rfl, (blk_cell BK331.out 1).trans rfl, (blk_cell BK331.out 2).trans rfl, (blk_cell BK331.out 3).trans rfl, (blk_cell BK331.out 4).trans rfl, (blk_cell BK331.out 5).trans rfl, (blk_cell BK332.out 0).trans rfl, (blk_cell BK332.out 1).trans rfl, (blk_cell BK332.out 2).trans rfl, (blk_cell BK332.out 3).trans rfl, (blk_cell BK332.out 4).trans rfl, (blk_cell BK332.out 5).trans rfl⟩ (fun hHeld => ?_)
       generalize wr.drew = w34 at BK317 BK318 BK331 BK332 HB hHeld ⊢
       refine pure_ (i := 0) (N := some 16) (v := ?_) (a' := ?_) #[true, false, false, false, false, false, false] rfl rfl (by kernel_rfl) (fun _ _ _ h => h) (Or.inl ⟨by rfl, ?_⟩) ?_ ?_
       rotate_left
       ·intro w'
        go_simp
        with_reducible rfl
       rotate_left
       ·simp only [Act.put, List.setIfInBounds_toArray, List.set_cons_zero, List.set_cons_succ, i64_w, i32_w]
        rfl
       refine pure_ (i := 1) (N := some 17) (v := ?_) (a' := ?_) #[true, true, false, false, false, false, false] rfl rfl (by kernel_rfl) (fun _ _ _ h => h) (Or.inl ⟨by rfl, ?_⟩) ?_ ?_
       rotate_left
       ·intro w'
        go_simp
        with_reducible rfl
       rotate_left
       ·simp only [Act.put, List.setIfInBounds_toArray, List.set_cons_zero, List.set_cons_succ, i64_w, i32_w]
        rfl
       refine pure_ (i := 3) (N := some 19) (v := ?_) (a' := ?_) #[true, true, false, true, false, false, false] rfl rfl (by kernel_rfl) (fun _ _ _ h => h) (Or.inl ⟨by rfl, ?_⟩) ?_ ?_
       rotate_left
       ·intro w'
        go_simp
        with_reducible rfl
       rotate_left
       ·simp only [Act.put, List.setIfInBounds_toArray, List.set_cons_zero, List.set_cons_succ, i64_w, i32_w]
        rfl
       refine pure_ (i := 4) (N := some 20) (v := ?_) (a' := ?_) #[true, true, false, true, true, false, false] rfl rfl (by kernel_rfl) (fun _ _ _ h => h) (Or.inl ⟨by rfl, ?_⟩) ?_ ?_
       rotate_left
       ·intro w'
        go_simp
        with_reducible rfl
       rotate_left
       ·simp only [Act.put, List.setIfInBounds_toArray, List.set_cons_zero, List.set_cons_succ, i64_w, i32_w]
        rfl
       refine take_ (i := 2) (N := some 18) (v := ?_) (a' := ?_) #[true, true, true, true, true, false, false] rfl rfl (by kernel_rfl) (fun _ _ _ h => h) (Or.inl ⟨by rfl, ?_⟩) hHeld ?_ ?_
       rotate_left
       ·rintro w' ⟨s0, s1, s2, s3, s4, s5, s6, s7, s8, s9, s10, s11⟩
        go_simp
        with_reducible rfl
       rotate_left
       ·simp only [Act.put, List.setIfInBounds_toArray, List.set_cons_zero, List.set_cons_succ, i64_w, i32_w]
        rfl
       refine take_ (i := 5) (N := some 21) (v := ?_) (a' := ?_) #[true, true, true, true, true, true, false] rfl rfl (by kernel_rfl) (fun _ _ _ h => h) (Or.inl ⟨by rfl, ?_⟩) hHeld ?_ ?_
       rotate_left
       ·rintro w' ⟨s0, s1, s2, s3, s4, s5, s6, s7, s8, s9, s10, s11⟩
        go_simp
        with_reducible rfl
       rotate_left
       ·simp only [Act.put, List.setIfInBounds_toArray, List.set_cons_zero, List.set_cons_succ, i64_w, i32_w]
        rfl
       refine pure_ (i := 6) (N := some 22) (v := ?_) (a' := ?_) #[true, true, true, true, true, true, true] rfl rfl (by kernel_rfl) (fun _ _ _ h => h) (Or.inl ⟨by rfl, ?_⟩) ?_ ?_
       rotate_left
       ·intro w'
        go_simp
        with_reducible rfl
       rotate_left
       ·simp only [Act.put, List.setIfInBounds_toArray, List.set_cons_zero, List.set_cons_succ, i64_w, i32_w]
        rfl
       refine done_ (by kernel_rfl) ?_
       try go_wp2
       have n0_ := Aside0.mk (blk_drew BK317.out)
       have n1_ := Aside0.mk (blk_drew BK318.out)
       have n2_ := Aside0.mk (blk_drew BK331.out)
       have n3_ := Aside0.mk (blk_drew BK332.out)
       have n4_ := Aside0.mk (below_drew1 HB.out)
       clear BK317
       clear BK318
       clear BK331
       clear BK332
       clear HB
       have BK317 := n0_
       have BK318 := n1_
       have BK331 := n2_
       have BK332 := n3_
       have HB := n4_
       clear n0_ n1_ n2_ n3_ n4_
       refine start_ (n := 8) (S := fun w' => w'.cell? ⟨gb331, 0, none⟩ = some (.string t319) ∧ w'.cell? ⟨gb331, 1, none⟩ = some (.string t320) ∧ w'.cell? ⟨gb331, 2, none⟩ = some (.string t321) ∧ w'.cell? ⟨gb331, 3, none⟩ = some (.string t322) ∧ w'.cell? ⟨gb331, 4, none⟩ = some (.string t323) ∧ w'.cell? ⟨gb331, 5, none⟩ = some (.string t324) ∧ w'.cell? ⟨gb332, 0, none⟩ = some (.string t325) ∧ w'.cell? ⟨gb332, 1, none⟩ = some (.string t326) ∧ w'.cell? ⟨gb332, 2, none⟩ = some (.string t327) ∧ w'.cell? ⟨gb332, 3, none⟩ = some (.string t328) ∧ w'.cell? ⟨gb332, 4, none⟩ = some (.string t329) ∧ w'.cell? ⟨gb332, 5, none⟩ = some (.string t330)) (ds := []) #[false, false, false, false, false, false, false, false] (by kernel_rfl) rfl rfl ⟨(blk_cell BK331.out 0).trans rfl, (blk_cell BK331.out 1).trans rfl, (blk_cell BK331.out 2).trans rfl, (blk_cell BK331.out 3).trans rfl, (blk_cell BK331.out 4).trans rfl, (blk_cell BK331.out 5).trans rfl, (blk_cell BK332.out 0).trans rfl, (blk_cell BK332.out 1).trans rfl, (blk_cell BK332.out 2).trans rfl, (blk_cell BK332.out 3).trans rfl, (blk_cell BK332.out 4).trans rfl, (blk_cell BK332.out 5).trans rfl⟩ (fun hHeld => ?_); refine with_tabW entailref1_Less.tab6 entailref1_Less.bits6 (fun HT_ HW_ => ?_)
       generalize w34.drew = w35 at BK317 BK318 BK331 BK332 HB hHeld ⊢
       refine pure_ (i := 0) (N := some 23) (v := ?_) (a' := ?_) #[true, false, false, false, false, false, false, false] rfl rfl (any_of HT_.out (by kernel_rfl)) (fun _ _ _ h => h) (Or.inl ⟨by rfl, ?_⟩) ?_ ?_
       rotate_left
       ·intro w'
        go_simp
        with_reducible rfl
       rotate_left
       ·simp only [Act.put, List.setIfInBounds_toArray, List.set_cons_zero, List.set_cons_succ, i64_w, i32_w]
        rfl
       refine pure_ (i := 1) (N := some 24) (v := ?_) (a' := ?_) #[true, true, false, false, false, false, false, false] rfl rfl (any_of HT_.out (by kernel_rfl)) (fun _ _ _ h => h) (Or.inl ⟨by rfl, ?_⟩) ?_ ?_
       rotate_left
       ·intro w'
        go_simp
        with_reducible rfl
       rotate_left
       ·simp only [Act.put, List.setIfInBounds_toArray, List.set_cons_zero, List.set_cons_succ, i64_w, i32_w]
        rfl
       refine pure_ (i := 3) (N := some 26) (v := ?_) (a' := ?_) #[true, true, false, true, false, false, false, false] rfl rfl (any_of HT_.out (by kernel_rfl)) (fun _ _ _ h => h) (Or.inl ⟨by rfl, ?_⟩) ?_ ?_
       rotate_left
       ·intro w'
        go_simp
        with_reducible rfl
       rotate_left
       ·simp only [Act.put, List.setIfInBounds_toArray, List.set_cons_zero, List.set_cons_succ, i64_w, i32_w]
        rfl
       refine pure_ (i := 4) (N := some 27) (v := ?_) (a' := ?_) #[true, true, false, true, true, false, false, false] rfl rfl (any_of HT_.out (by kernel_rfl)) (fun _ _ _ h => h) (Or.inl ⟨by rfl, ?_⟩) ?_ ?_
       rotate_left
       ·intro w'
        go_simp
        with_reducible rfl
       rotate_left
       ·simp only [Act.put, List.setIfInBounds_toArray, List.set_cons_zero, List.set_cons_succ, i64_w, i32_w]
        rfl
       refine take_ (i := 2) (N := some 25) (v := ?_) (a' := ?_) #[true, true, true, true, true, false, false, false] rfl rfl (take_ofW HT_.out HW_.out (by kernel_rfl)) (fun _ _ _ h => h) (Or.inl ⟨by rfl, ?_⟩) hHeld ?_ ?_
       rotate_left
       ·rintro w' ⟨s0, s1, s2, s3, s4, s5, s6, s7, s8, s9, s10, s11⟩
        go_simp
        with_reducible rfl
       rotate_left
       ·simp only [Act.put, List.setIfInBounds_toArray, List.set_cons_zero, List.set_cons_succ, i64_w, i32_w]
        rfl
       refine take_ (i := 5) (N := some 28) (v := ?_) (a' := ?_) #[true, true, true, true, true, true, false, false] rfl rfl (take_ofW HT_.out HW_.out (by kernel_rfl)) (fun _ _ _ h => h) (Or.inl ⟨by rfl, ?_⟩) hHeld ?_ ?_
       rotate_left
       ·rintro w' ⟨s0, s1, s2, s3, s4, s5, s6, s7, s8, s9, s10, s11⟩
        go_simp
        with_reducible rfl
       rotate_left
       ·simp only [Act.put, List.setIfInBounds_toArray, List.set_cons_zero, List.set_cons_succ, i64_w, i32_w]
        rfl
       refine pure_ (i := 6) (N := some 29) (v := ?_) (a' := ?_) #[true, true, true, true, true, true, true, false] rfl rfl (any_of HT_.out (by kernel_rfl)) (fun _ _ _ h => h) (Or.inl ⟨by rfl, ?_⟩) ?_ ?_
       rotate_left
       ·intro w'
        go_simp
        with_reducible rfl
       rotate_left
       ·simp only [Act.put, List.setIfInBounds_toArray, List.set_cons_zero, List.set_cons_succ, i64_w, i32_w]
        rfl
       refine pure_ (i := 7) (N := some 4) (v := ?_) (a' := ?_) #[true, true, true, true, true, true, true, true] rfl rfl (any_of HT_.out (by kernel_rfl)) (fun _ _ _ h => h) (Or.inl ⟨by rfl, ?_⟩) ?_ ?_
       rotate_left
       ·intro w'
        go_simp
        with_reducible rfl
       rotate_left
       ·simp only [Act.put, List.setIfInBounds_toArray, List.set_cons_zero, List.set_cons_succ, i64_w, i32_w]
        rfl
       refine done_ (done_of HT_.out (by kernel_rfl)) ?_
       try go_wp2
       go_ret
       exact ⟨by first | rfl | (simp [errW_none, errW_some] <;> rfl) | (simp [*, errW_none, errW_some] <;> rfl), by repeat (first | (with_reducible first | exact HB.out | apply below_alloc | apply pw_below_drewN | apply below_drew1 | refine below_set ?_ GE317.out | refine below_set ?_ GE318.out | refine below_set ?_ GE331.out | refine below_set ?_ GE332.out) | exact HB.out)⟩
     ·rw [if_neg c31] at H
      have c31b0 : (x7_1 == 1) = false := beq_eq_false_iff_ne.mpr c31
      have c31b1 : (x7_1 != 1) = true := bne_iff_ne.mpr c31
      by_cases c36 : x7_1 = 2
      ·rw [if_pos c36] at H


       subst c36
       by_cases c37 : t321.toList = t327.toList
       ·rw [if_pos c37] at H
        have c37b0 : (t321.toList == t327.toList) = true := beq_iff_eq.mpr c37
        have c37b1 : (t321.toList != t327.toList) = false := bne_eq_false_iff_eq.mpr c37
        clear c37
        have H' := Aside0.mk H
        clear H
        try go_wp2
        have n0_ := Aside0.mk (blk_drew BK317.out)
        have n1_ := Aside0.mk (blk_drew BK318.out)
        have n2_ := Aside0.mk (blk_drew BK331.out)
        have n3_ := Aside0.mk (blk_drew BK332.out)
        have n4_ := Aside0.mk (below_drew1 HB.out)
        clear BK317
        clear BK318
        clear BK331
        clear BK332
        clear HB
        have BK317 := n0_
        have BK318 := n1_
        have BK331 := n2_
        have BK332 := n3_
        have HB := n4_
        clear n0_ n1_ n2_ n3_ n4_
        refine start_ (n := 7) (S := fun w' => w'.cell? ⟨gb331, 0, none⟩ = some (.string t319) ∧ w'.cell? ⟨gb331, 1, none⟩ = some (.string t320) ∧ w'.cell? ⟨gb331, 2, none⟩ = some (.string t321) ∧ w'.cell? ⟨gb331, 3, none⟩ = some (.string t322) ∧ w'.cell? ⟨gb331, 4, none⟩ = some (.string t323) ∧ w'.cell? ⟨gb331, 5, none⟩ = some (.string t324) ∧ w'.cell? ⟨gb332, 0, none⟩ = some (.string t325) ∧ w'.cell? ⟨gb332, 1, none⟩ = some (.string t326) ∧ w'.cell? ⟨gb332, 2, none⟩ = some (.string t327) ∧ w'.cell? ⟨gb332, 3, none⟩ = some (.string t328) ∧ w'.cell? ⟨gb332, 4, none⟩ = some (.string t329) ∧ w'.cell? ⟨gb332, 5, none⟩ = some (.string t330)) (ds := []) #[false, false, false, false, false, false, false] (by kernel_rfl) rfl rfl ⟨(blk_cell BK331.out 0).trans rfl, (blk_cell BK331.out 1).trans rfl, (blk_cell BK331.out 2).trans rfl, (blk_cell BK331.out 3).trans rfl, (blk_cell BK331.out 4).trans rfl, (blk_cell BK331.out 5).trans rfl, (blk_cell BK332.out 0).trans rfl, (blk_cell BK332.out 1).trans rfl, (blk_cell BK332.out 2).trans rfl, (blk_cell BK332.out 3).trans rfl, (blk_cell BK332.out 4).trans rfl, (blk_cell BK332.out 5).trans rfl⟩ (fun hHeld => ?_)
        generalize wr.drew = w38 at BK317 BK318 BK331 BK332 HB hHeld ⊢
        refine pure_ (i := 0) (N := some 16) (v := ?_) (a' := ?_) #[true, false, false, false, false, false, false] rfl rfl (by kernel_rfl) (fun _ _ _ h => h) (Or.inl ⟨by rfl, ?_⟩) ?_ ?_
        rotate_left
        ·intro w'
         go_simp
         with_reducible rfl
        rotate_left
        ·simp only [Act.put, List.setIfInBounds_toArray, List.set_cons_zero, List.set_cons_succ, i64_w, i32_w]
         rfl
        refine pure_ (i := 1) (N := some 17) (v := ?_) (a' := ?_) #[true, true, false, false, false, false, false] rfl rfl (by kernel_rfl) (fun _ _ _ h => h) (Or.inl ⟨by rfl, ?_⟩) ?_ ?_
        rotate_left
        ·intro w'
         go_simp
         with_reducible rfl
        rotate_left
        ·simp only [Act.put, List.setIfInBounds_toArray, List.set_cons_zero, List.set_cons_succ, i64_w, i32_w]
         rfl
        refine pure_ (i := 3) (N := some 19) (v := ?_) (a' := ?_) #[true, true, false, true, false, false, false] rfl rfl (by kernel_rfl) (fun _ _ _ h => h) (Or.inl ⟨by rfl, ?_⟩) ?_ ?_
        rotate_left
        ·intro w'
         go_simp
         with_reducible rfl
        rotate_left
        ·simp only [Act.put, List.setIfInBounds_toArray, List.set_cons_zero, List.set_cons_succ, i64_w, i32_w]
         rfl
        refine pure_ (i := 4) (N := some 20) (v := ?_) (a' := ?_) #[true, true, false, true, true, false, false] rfl rfl (by kernel_rfl) (fun _ _ _ h => h) (Or.inl ⟨by rfl, ?_⟩) ?_ ?_
        rotate_left
        ·intro w'
         go_simp
         with_reducible rfl
        rotate_left
        ·simp only [Act.put, List.setIfInBounds_toArray, List.set_cons_zero, List.set_cons_succ, i64_w, i32_w]
         rfl
        refine take_ (i := 2) (N := some 18) (v := ?_) (a' := ?_) #[true, true, true, true, true, false, false] rfl rfl (by kernel_rfl) (fun _ _ _ h => h) (Or.inl ⟨by rfl, ?_⟩) hHeld ?_ ?_
        rotate_left
        ·rintro w' ⟨s0, s1, s2, s3, s4, s5, s6, s7, s8, s9, s10, s11⟩
         go_simp
         with_reducible rfl
        rotate_left
        ·simp only [Act.put, List.setIfInBounds_toArray, List.set_cons_zero, List.set_cons_succ, i64_w, i32_w]
         rfl
        refine take_ (i := 5) (N := some 21) (v := ?_) (a' := ?_) #[true, true, true, true, true, true, false] rfl rfl (by kernel_rfl) (fun _ _ _ h => h) (Or.inl ⟨by rfl, ?_⟩) hHeld ?_ ?_
        rotate_left
        ·rintro w' ⟨s0, s1, s2, s3, s4, s5, s6, s7, s8, s9, s10, s11⟩
         go_simp
         with_reducible rfl
        rotate_left
        ·simp only [Act.put, List.setIfInBounds_toArray, List.set_cons_zero, List.set_cons_succ, i64_w, i32_w]
         rfl
        refine pure_ (i := 6) (N := some 22) (v := ?_) (a' := ?_) #[true, true, true, true, true, true, true] rfl rfl (by kernel_rfl) (fun _ _ _ h => h) (Or.inl ⟨by rfl, ?_⟩) ?_ ?_
        rotate_left
        ·intro w'
         go_simp
         with_reducible rfl
        rotate_left
        ·simp only [Act.put, List.setIfInBounds_toArray, List.set_cons_zero, List.set_cons_succ, i64_w, i32_w]
         rfl
        refine done_ (by kernel_rfl) ?_
        try go_wp2
        go_roundg k1
        case measure => have := HK1.out; omega
        case rel => exact ⟨(wrap64 (2 + 1)), (by first | rfl | (simp; done) | (simp; decide +kernel) | (simp [*]; done)), H', ⟨by have := HK1.out; omega⟩, ⟨by (with_reducible repeat (first | refine blk_drewN ?_ _ | refine blk_drew ?_ | refine blk_alloc ?_ _)); exact BK317.out⟩, ⟨by (with_reducible repeat (first | refine blk_drewN ?_ _ | refine blk_drew ?_ | refine blk_alloc ?_ _)); exact BK318.out⟩, ⟨by (with_reducible repeat (first | refine blk_drewN ?_ _ | refine blk_drew ?_ | refine blk_alloc ?_ _)); exact BK331.out⟩, ⟨by (with_reducible repeat (first | refine blk_drewN ?_ _ | refine blk_drew ?_ | refine blk_alloc ?_ _)); exact BK332.out⟩, ⟨by repeat (first | (with_reducible first | exact HB.out | apply below_alloc | apply pw_below_drewN | apply below_drew1 | refine below_set ?_ GE317.out | refine below_set ?_ GE318.out | refine below_set ?_ GE331.out | refine below_set ?_ GE332.out) | exact HB.out)⟩⟩
       ·rw [if_neg c37] at H
        have c37b0 : (t321.toList == t327.toList) = false := beq_eq_false_iff_ne.mpr c37
        have c37b1 : (t321.toList != t327.toList) = true := bne_iff_ne.mpr c37
        obtain rfl := Option.some.inj H
        try go_wp2
        have n0_ := Aside0.mk (blk_drew BK317.out)
        have n1_ := Aside0.mk (blk_drew BK318.out)
        have n2_ := Aside0.mk (blk_drew BK331.out)
        have n3_ := Aside0.mk (blk_drew BK332.out)
        have n4_ := Aside0.mk (below_drew1 HB.out)
        clear BK317
        clear BK318
        clear BK331
        clear BK332
        clear HB
        have BK317 := n0_
        have BK318 := n1_
        have BK331 := n2_
        have BK332 := n3_
        have HB := n4_
        clear n0_ n1_ n2_ n3_ n4_
        refine start_ (n := 7) (S := fun w' => w'.cell? ⟨gb331, 0, none⟩ = some (.string t319) ∧ w'.cell? ⟨gb331, 1, none⟩ = some (.string t320) ∧ w'.cell? ⟨gb331, 2, none⟩ = some (.string t321) ∧ w'.cell? ⟨gb331, 3, none⟩ = some (.string t322) ∧ w'.cell? ⟨gb331, 4, none⟩ = some (.string t323) ∧ w'.cell? ⟨gb331, 5, none⟩ = some (.string t324) ∧ w'.cell? ⟨gb332, 0, none⟩ = some (.string t325) ∧ w'.cell? ⟨gb332, 1, none⟩ = some (.string t326) ∧ w'.cell? ⟨gb332, 2, none⟩ = some (.string t327) ∧ w'.cell? ⟨gb332, 3, none⟩ = some (.string t328) ∧ w'.cell? ⟨gb332, 4, none⟩ = some (.string t329) ∧ w'.cell? ⟨gb332, 5, none⟩ = some (.string t330)) (ds := []) #[false, false, false, false, false, false, false] (by kernel_rfl) rfl rfl ⟨(blk_cell BK331.out 0).trans rfl, (blk_cell BK331.out 1).trans rfl, (blk_cell BK331.out 2).trans rfl, (blk_cell BK331.out 3).trans rfl, (blk_cell BK331.out 4).trans rfl, (blk_cell BK331.out 5).trans rfl, (blk_cell BK332.out 0).trans rfl, (blk_cell BK332.out 1).trans rfl, (blk_cell BK332.out 2).trans rfl, (blk_cell BK332.out 3).trans rfl, (blk_cell BK332.out 4).trans rfl, (blk_cell BK332.out 5).trans rfl⟩ (fun hHeld => ?_)
        generalize wr.drew = w39 at BK317 BK318 BK331 BK332 HB hHeld ⊢
        refine pure_ (i := 0) (N := some 16) (v := ?_) (a' := ?_) #[true, false, false, false, false, false, false] rfl rfl (by kernel_rfl) (fun _ _ _ h => h) (Or.inl ⟨by rfl, ?_⟩) ?_ ?_
        rotate_left
        ·intro w'
         go_simp
         with_reducible rfl
        rotate_left
        ·simp only [Act.put, List.setIfInBounds_toArray, List.set_cons_zero, List.set_cons_succ, i64_w, i32_w]
         rfl
        refine pure_ (i := 1) (N := some 17) (v := ?_) (a' := ?_) #[true, true, false, false, false, false, false] rfl rfl (by kernel_rfl) (fun _ _ _ h => h) (Or.inl ⟨by rfl, ?_⟩) ?_ ?_
        rotate_left
        ·intro w'
         go_simp
         with_reducible rfl
        rotate_left
        ·simp only [Act.put, List.setIfInBounds_toArray, List.set_cons_zero, List.set_cons_succ, i64_w, i32_w]
         rfl
        refine pure_ (i := 3) (N := some 19) (v := ?_) (a' := ?_) #[true, true, false, true, false, false, false] rfl rfl (by kernel_rfl) (fun _ _ _ h => h) (Or.inl ⟨by rfl, ?_⟩) ?_ ?_
        rotate_left
        ·intro w'
         go_simp
         with_reducible rfl
        rotate_left
        ·simp only [Act.put, List.setIfInBounds_toArray, List.set_cons_zero, List.set_cons_succ, i64_w, i32_w]
         rfl
        refine pure_ (i := 4) (N := some 20) (v := ?_) (a' := ?_) #[true, true, false, true, true, false, false] rfl rfl (by kernel_rfl) (fun _ _ _ h => h) (Or.inl ⟨by rfl, ?_⟩) ?_ ?_
        rotate_left
        ·intro w'
         go_simp
         with_reducible rfl
        rotate_left
        ·simp only [Act.put, List.setIfInBounds_toArray, List.set_cons_zero, List.set_cons_succ, i64_w, i32_w]
         rfl
        refine take_ (i := 2) (N := some 18) (v := ?_) (a' := ?_) #[true, true, true, true, true, false, false] rfl rfl (by kernel_rfl) (fun _ _ _ h => h) (Or.inl ⟨by rfl, ?_⟩) hHeld ?_ ?_
        rotate_left
        ·rintro w' ⟨s0, s1, s2, s3, s4, s5, s6, s7, s8, s9, s10, s11⟩
         go_simp
         with_reducible rfl
        rotate_left
        ·simp only [Act.put, List.setIfInBounds_toArray, List.set_cons_zero, List.set_cons_succ, i64_w, i32_w]
         rfl
        refine take_ (i := 5) (N := some 21) (v := ?_) (a' := ?_) #[true, true, true, true, true, true, false] rfl rfl (by kernel_rfl) (fun _ _ _ h => h) (Or.inl ⟨by rfl, ?_⟩) hHeld ?_ ?_
        rotate_left
        ·rintro w' ⟨s0, s1, s2, s3, s4, s5, s6, s7, s8, s9, s10, s11⟩
         go_simp
         with_reducible rfl
        rotate_left
        ·simp only [Act.put, List.setIfInBounds_toArray, List.set_cons_zero, List.set_cons_succ, i64_w, i32_w]
         rfl
        refine pure_ (i := 6) (N := some 22) (v := ?_) (a' := ?_) #[true, true, true, true, true, true, true] rfl rfl (by kernel_rfl) (fun _ _ _ h => h) (Or.inl ⟨by rfl, ?_⟩) ?_ ?_
        rotate_left
        ·intro w'
         go_simp
         with_reducible rfl
        rotate_left
        ·simp only [Act.put, List.setIfInBounds_toArray, List.set_cons_zero, List.set_cons_succ, i64_w, i32_w]
         rfl
        refine done_ (by kernel_rfl) ?_
        try go_wp2
        have n0_ := Aside0.mk (blk_drew BK317.out)
        have n1_ := Aside0.mk (blk_drew BK318.out)
        have n2_ := Aside0.mk (blk_drew BK331.out)
        have n3_ := Aside0.mk (blk_drew BK332.out)
        have n4_ := Aside0.mk (below_drew1 HB.out)
        clear BK317
        clear BK318
        clear BK331
        clear BK332
        clear HB
        have BK317 := n0_
        have BK318 := n1_
        have BK331 := n2_
        have BK332 := n3_
        have HB := n4_
        clear n0_ n1_ n2_ n3_ n4_
        refine start_ (n := 8) (S := fun w' => w'.cell? ⟨gb331, 0, none⟩ = some (.string t319) ∧ w'.cell? ⟨gb331, 1, none⟩ = some (.string t320) ∧ w'.cell? ⟨gb331, 2, none⟩ = some (.string t321) ∧ w'.cell? ⟨gb331, 3, none⟩ = some (.string t322) ∧ w'.cell? ⟨gb331, 4, none⟩ = some (.string t323) ∧ w'.cell? ⟨gb331, 5, none⟩ = some (.string t324) ∧ w'.cell? ⟨gb332, 0, none⟩ = some (.string t325) ∧ w'.cell? ⟨gb332, 1, none⟩ = some (.string t326) ∧ w'.cell? ⟨gb332, 2, none⟩ = some (.string t327) ∧ w'.cell? ⟨gb332, 3, none⟩ = some (.string t328) ∧ w'.cell? ⟨gb332, 4, none⟩ = some (.string t329) ∧ w'.cell? ⟨gb332, 5, none⟩ = some (.string t330)) (ds := []) #[false, false, false, false, false, false, false, false] (by kernel_rfl) rfl rfl ⟨(blk_cell BK331.out 0).trans rfl, (blk_cell BK331.out 1).trans rfl, (blk_cell BK331.out 2).trans rfl, (blk_cell BK331.out 3).trans rfl, (blk_cell BK331.out 4).trans rfl, (blk_cell BK331.out 5).trans rfl, (blk_cell BK332.out 0).trans rfl, (blk_cell BK332.out 1).trans rfl, (blk_cell BK332.out 2).trans rfl, (blk_cell BK332.out 3).trans rfl, (blk_cell BK332.out 4).trans rfl, (blk_cell BK332.out 5).trans rfl⟩ (fun hHeld => ?_); refine with_tabW entailref1_Less.tab6 entailref1_Less.bits6 (fun HT_ HW_ => ?_)
        generalize w39.drew = w40 at BK317 BK318 BK331 BK332 HB hHeld ⊢
        refine pure_ (i := 0) (N := some 23) (v := ?_) (a' := ?_) #[true, false, false, false, false, false, false, false] rfl rfl (any_of HT_.out (by kernel_rfl)) (fun _ _ _ h => h) (Or.inl ⟨by rfl, ?_⟩) ?_ ?_
        rotate_left
        ·intro w'
         go_simp
         with_reducible rfl
        rotate_left
        ·simp only [Act.put, List.setIfInBounds_toArray, List.set_cons_zero, List.set_cons_succ, i64_w, i32_w]
         rfl
        refine pure_ (i := 1) (N := some 24) (v := ?_) (a' := ?_) #[true, true, false, false, false, false, false, false] rfl rfl (any_of HT_.out (by kernel_rfl)) (fun _ _ _ h => h) (Or.inl ⟨by rfl, ?_⟩) ?_ ?_
        rotate_left
        ·intro w'
         go_simp
         with_reducible rfl
        rotate_left
        ·simp only [Act.put, List.setIfInBounds_toArray, List.set_cons_zero, List.set_cons_succ, i64_w, i32_w]
         rfl
        refine pure_ (i := 3) (N := some 26) (v := ?_) (a' := ?_) #[true, true, false, true, false, false, false, false] rfl rfl (any_of HT_.out (by kernel_rfl)) (fun _ _ _ h => h) (Or.inl ⟨by rfl, ?_⟩) ?_ ?_
        rotate_left
        ·intro w'
         go_simp
         with_reducible rfl
        rotate_left
        ·simp only [Act.put, List.setIfInBounds_toArray, List.set_cons_zero, List.set_cons_succ, i64_w, i32_w]
         rfl
        refine pure_ (i := 4) (N := some 27) (v := ?_) (a' := ?_) #[true, true, false, true, true, false, false, false] rfl rfl (any_of HT_.out (by kernel_rfl)) (fun _ _ _ h => h) (Or.inl ⟨by rfl, ?_⟩) ?_ ?_
        rotate_left
        ·intro w'
         go_simp
         with_reducible rfl
        rotate_left
        ·simp only [Act.put, List.setIfInBounds_toArray, List.set_cons_zero, List.set_cons_succ, i64_w, i32_w]
         rfl
        refine take_ (i := 2) (N := some 25) (v := ?_) (a' := ?_) #[true, true, true, true, true, false, false, false] rfl rfl (take_ofW HT_.out HW_.out (by kernel_rfl)) (fun _ _ _ h => h) (Or.inl ⟨by rfl, ?_⟩) hHeld ?_ ?_
        rotate_left
        ·rintro w' ⟨s0, s1, s2, s3, s4, s5, s6, s7, s8, s9, s10, s11⟩
         go_simp
         with_reducible rfl
        rotate_left
        ·simp only [Act.put, List.setIfInBounds_toArray, List.set_cons_zero, List.set_cons_succ, i64_w, i32_w]
         rfl
        refine take_ (i := 5) (N := some 28) (v := ?_) (a' := ?_) #[true, true, true, true, true, true, false, false] rfl rfl (take_ofW HT_.out HW_.out (by kernel_rfl)) (fun _ _ _ h => h) (Or.inl ⟨by rfl, ?_⟩) hHeld ?_ ?_
        rotate_left
        ·rintro w' ⟨s0, s1, s2, s3, s4, s5, s6, s7, s8, s9, s10, s11⟩
         go_simp
         with_reducible rfl
        rotate_left
        ·simp only [Act.put, List.setIfInBounds_toArray, List.set_cons_zero, List.set_cons_succ, i64_w, i32_w]
         rfl
        refine pure_ (i := 6) (N := some 29) (v := ?_) (a' := ?_) #[true, true, true, true, true, true, true, false] rfl rfl (any_of HT_.out (by kernel_rfl)) (fun _ _ _ h => h) (Or.inl ⟨by rfl, ?_⟩) ?_ ?_
        rotate_left
        ·intro w'
         go_simp
         with_reducible rfl
        rotate_left
        ·simp only [Act.put, List.setIfInBounds_toArray, List.set_cons_zero, List.set_cons_succ, i64_w, i32_w]
         rfl
        refine pure_ (i := 7) (N := some 4) (v := ?_) (a' := ?_) #[true, true, true, true, true, true, true, true] rfl rfl (any_of HT_.out (by kernel_rfl)) (fun _ _ _ h => h) (Or.inl ⟨by rfl, ?_⟩) ?_ ?_
        rotate_left
        ·intro w'
         go_simp
         with_reducible rfl
        rotate_left
        ·simp only [Act.put, List.setIfInBounds_toArray, List.set_cons_zero, List.set_cons_succ, i64_w, i32_w]
         rfl
        refine done_ (done_of HT_.out (by kernel_rfl)) ?_
        try go_wp2
        go_ret
        exact ⟨by first | rfl | (simp [errW_none, errW_some] <;> rfl) | (simp [*, errW_none, errW_some] <;> rfl), by repeat (first | (with_reducible first | exact HB.out | apply below_alloc | apply pw_below_drewN | apply below_drew1 | refine below_set ?_ GE317.out | refine below_set ?_ GE318.out | refine below_set ?_ GE331.out | refine below_set ?_ GE332.out) | exact HB.out)⟩
      ·rw [if_neg c36] at H
       have c36b0 : (x7_1 == 2) = false := beq_eq_false_iff_ne.mpr c36
       have c36b1 : (x7_1 != 2) = true := bne_iff_ne.mpr c36
       by_cases c41 : x7_1 = 3
       ·rw [if_pos c41] at H


        subst c41
        by_cases c42 : t322.toList = t328.toList
        ·rw [if_pos c42] at H
         have c42b0 : (t322.toList == t328.toList) = true := beq_iff_eq.mpr c42
         have c42b1 : (t322.toList != t328.toList) = false := bne_eq_false_iff_eq.mpr c42
         clear c42
         have H' := Aside0.mk H
         clear H
         try go_wp2
         have n0_ := Aside0.mk (blk_drew BK317.out)
         have n1_ := Aside0.mk (blk_drew BK318.out)
         have n2_ := Aside0.mk (blk_drew BK331.out)
         have n3_ := Aside0.mk (blk_drew BK332.out)
         have n4_ := Aside0.mk (below_drew1 HB.out)
         clear BK317
         clear BK318
         clear BK331
         clear BK332
         clear HB
         have BK317 := n0_
         have BK318 := n1_
         have BK331 := n2_
         have BK332 := n3_
         have HB := n4_
         clear n0_ n1_ n2_ n3_ n4_
         refine start_ (n := 7) (S := fun w' => w'.cell? ⟨gb331, 0, none⟩ = some (.string t319) ∧ w'.cell? ⟨gb331, 1, none⟩ = some (.string t320) ∧ w'.cell? ⟨gb331, 2, none⟩ = some (.string t321) ∧ w'.cell? ⟨gb331, 3, none⟩ = some (.string t322) ∧ w'.cell? ⟨gb331, 4, none⟩ = some (.string t323) ∧ w'.cell? ⟨gb331, 5, none⟩ = some (.string t324) ∧ w'.cell? ⟨gb332, 0, none⟩ = some (.string t325) ∧ w'.cell? ⟨gb332, 1, none⟩ = some (.string t326) ∧ w'.cell? ⟨gb332, 2, none⟩ = some (.string t327) ∧ w'.cell? ⟨gb332, 3, none⟩ = some (.string t328) ∧ w'.cell? ⟨gb332, 4, none⟩ = some (.string t329) ∧ w'.cell? ⟨gb332, 5, none⟩ = some (.string t330)) (ds := []) #[false, false, false, false, false, false, false] (by kernel_rfl) rfl rfl ⟨(blk_cell BK331.out 0).trans rfl, (blk_cell BK331.out 1).trans rfl, (blk_cell BK331.out 2).trans rfl, (blk_cell BK331.out 3).trans rfl, (blk_cell BK331.out 4).trans rfl, (blk_cell BK331.out 5).trans rfl, (blk_cell BK332.out 0).trans rfl, (blk_cell BK332.out 1).trans rfl, (blk_cell BK332.out 2).trans rfl, (blk_cell BK332.out 3).trans rfl, (blk_cell BK332.out 4).trans rfl, (blk_cell BK332.out 5).trans rfl⟩ (fun hHeld => ?_)
         generalize wr.drew = w43 at BK317 BK318 BK331 BK332 HB hHeld ⊢
         refine pure_ (i := 0) (N := some 16) (v := ?_) (a' := ?_) #[true, false, false, false, false, false, false] rfl rfl (by kernel_rfl) (fun _ _ _ h => h) (Or.inl ⟨by rfl, ?_⟩) ?_ ?_
         rotate_left
         ·intro w'
          go_simp
          with_reducible rfl
         rotate_left
         ·simp only [Act.put, List.setIfInBounds_toArray, List.set_cons_zero, List.set_cons_succ, i64_w, i32_w]
          rfl
         refine pure_ (i := 1) (N := some 17) (v := ?_) (a' := ?_) #[true, true, false, false, false, false, false] rfl rfl (by kernel_rfl) (fun _ _ _ h => h) (Or.inl ⟨by rfl, ?_⟩) ?_ ?_
         rotate_left
         ·intro w'
          go_simp
          with_reducible rfl
         rotate_left
         ·simp only [Act.put, List.setIfInBounds_toArray, List.set_cons_zero, List.set_cons_succ, i64_w, i32_w]
          rfl
         refine pure_ (i := 3) (N := some 19) (v := ?_) (a' := ?_) #[true, true, false, true, false, false, false] rfl rfl (by kernel_rfl) (fun _ _ _ h => h) (Or.inl ⟨by rfl, ?_⟩) ?_ ?_
         rotate_left
         ·intro w'
          go_simp
          with_reducible rfl
         rotate_left
         ·simp only [Act.put, List.setIfInBounds_toArray, List.set_cons_zero, List.set_cons_succ, i64_w, i32_w]
          rfl
         refine pure_ (i := 4) (N := some 20) (v := ?_) (a' := ?_) #[true, true, false, true, true, false, false] rfl rfl (by kernel_rfl) (fun _ _ _ h => h) (Or.inl ⟨by rfl, ?_⟩) ?_ ?_
         rotate_left
         ·intro w'
          go_simp
          with_reducible rfl
         rotate_left
         ·simp only [Act.put, List.setIfInBounds_toArray, List.set_cons_zero, List.set_cons_succ, i64_w, i32_w]
          rfl
         refine take_ (i := 2) (N := some 18) (v := ?_) (a' := ?_) #[true, true, true, true, true, false, false] rfl rfl (by kernel_rfl) (fun _ _ _ h => h) (Or.inl ⟨by rfl, ?_⟩) hHeld ?_ ?_
         rotate_left
         ·rintro w' ⟨s0, s1, s2, s3, s4, s5, s6, s7, s8, s9, s10, s11⟩
          go_simp
          with_reducible rfl
         rotate_left
         ·simp only [Act.put, List.setIfInBounds_toArray, List.set_cons_zero, List.set_cons_succ, i64_w, i32_w]
          rfl
         refine take_ (i := 5) (N := some 21) (v := ?_) (a' := ?_) #[true, true, true, true, true, true, false] rfl rfl (by kernel_rfl) (fun _ _ _ h => h) (Or.inl ⟨by rfl, ?_⟩) hHeld ?_ ?_
         rotate_left
         ·rintro w' ⟨s0, s1, s2, s3, s4, s5, s6, s7, s8, s9, s10, s11⟩
          go_simp
          with_reducible rfl
         rotate_left
         ·simp only [Act.put, List.setIfInBounds_toArray, List.set_cons_zero, List.set_cons_succ, i64_w, i32_w]
          rfl
         refine pure_ (i := 6) (N := some 22) (v := ?_) (a' := ?_) #[true, true, true, true, true, true, true] rfl rfl (by kernel_rfl) (fun _ _ _ h => h) (Or.inl ⟨by rfl, ?_⟩) ?_ ?_
         rotate_left
         ·intro w'
          go_simp
          with_reducible rfl
         rotate_left
         ·simp only [Act.put, List.setIfInBounds_toArray, List.set_cons_zero, List.set_cons_succ, i64_w, i32_w]
          rfl
         refine done_ (by kernel_rfl) ?_
         try go_wp2
         go_roundg k1
         case measure => have := HK1.out; omega
         case rel => exact ⟨(wrap64 (3 + 1)), (by first | rfl | (simp; done) | (simp; decide +kernel) | (simp [*]; done)), H', ⟨by have := HK1.out; omega⟩, ⟨by (with_reducible repeat (first | refine blk_drewN ?_ _ | refine blk_drew ?_ | refine blk_alloc ?_ _)); exact BK317.out⟩, ⟨by (with_reducible repeat (first | refine blk_drewN ?_ _ | refine blk_drew ?_ | refine blk_alloc ?_ _)); exact BK318.out⟩, ⟨by (with_reducible repeat (first | refine blk_drewN ?_ _ | refine blk_drew ?_ | refine blk_alloc ?_ _)); exact BK331.out⟩, ⟨by (with_reducible repeat (first | refine blk_drewN ?_ _ | refine blk_drew ?_ | refine blk_alloc ?_ _)); exact BK332.out⟩, ⟨by repeat (first | (with_reducible first | exact HB.out | apply below_alloc | apply pw_below_drewN | apply below_drew1 | refine below_set ?_ GE317.out | refine below_set ?_ GE318.out | refine below_set ?_ GE331.out | refine below_set ?_ GE332.out) | exact HB.out)⟩⟩
        ·rw [if_neg c42] at H
         have c42b0 : (t322.toList == t328.toList) = false := beq_eq_false_iff_ne.mpr c42
         have c42b1 : (t322.toList != t328.toList) = true := bne_iff_ne.mpr c42
         obtain rfl := Option.some.inj H
         try go_wp2
         have n0_ := Aside0.mk (blk_drew BK317.out)
         have n1_ := Aside0.mk (blk_drew BK318.out)
         have n2_ := Aside0.mk (blk_drew BK331.out)
         have n3_ := Aside0.mk (blk_drew BK332.out)
         have n4_ := Aside0.mk (below_drew1 HB.out)
         clear BK317
         clear BK318
         clear BK331
         clear BK332
         clear HB
         have BK317 := n0_
         have BK318 := n1_
         have BK331 := n2_
         have BK332 := n3_
         have HB := n4_
         clear n0_ n1_ n2_ n3_ n4_
         refine start_ (n := 7) (S := fun w' => w'.cell? ⟨gb331, 0, none⟩ = some (.string t319) ∧ w'.cell? ⟨gb331, 1, none⟩ = some (.string t320) ∧ w'.cell? ⟨gb331, 2, none⟩ = some (.string t321) ∧ w'.cell? ⟨gb331, 3, none⟩ = some (.string t322) ∧ w'.cell? ⟨gb331, 4, none⟩ = some (.string t323) ∧ w'.cell? ⟨gb331, 5, none⟩ = some (.string t324) ∧ w'.cell? ⟨gb332, 0, none⟩ = some (.string t325) ∧ w'.cell? ⟨gb332, 1, none⟩ = some (.string t326) ∧ w'.cell? ⟨gb332, 2, none⟩ = some (.string t327) ∧ w'.cell? ⟨gb332, 3, none⟩ = some (.string t328) ∧ w'.cell? ⟨gb332, 4, none⟩ = some (.string t329) ∧ w'.cell? ⟨gb332, 5, none⟩ = some (.string t330)) (ds := []) #[false, false, false, false, false, false, false] (by kernel_rfl) rfl rfl ⟨(blk_cell BK331.out 0).trans rfl, (blk_cell BK331.out 1).trans rfl, (blk_cell BK331.out 2).trans rfl, (blk_cell BK331.out 3).trans rfl, (blk_cell BK331.out 4).trans rfl, (blk_cell BK331.out 5).trans rfl, (blk_cell BK332.out 0).trans rfl, (blk_cell BK332.out 1).trans rfl, (blk_cell BK332.out 2).trans rfl, (blk_cell BK332.out 3).trans rfl, (blk_cell BK332.out 4).trans rfl, (blk_cell BK332.out 5).trans rfl⟩ (fun hHeld => ?_)
         generalize wr.drew = w44 at BK317 BK318 BK331 BK332 HB hHeld ⊢
         refine pure_ (i := 0) (N := some 16) (v := ?_) (a' := ?_) #[true, false, false, false, false, false, false] rfl rfl (by kernel_rfl) (fun _ _ _ h => h) (Or.inl ⟨by rfl, ?_⟩) ?_ ?_
         rotate_left
         ·intro w'
          go_simp
          with_reducible rfl
         rotate_left
         ·simp only [Act.put, List.setIfInBounds_toArray, List.set_cons_zero, List.set_cons_succ, i64_w, i32_w]
          rfl
         refine pure_ (i := 1) (N := some 17) (v := ?_) (a' := ?_) #[true, true, false, false, false, false, false] rfl rfl (by kernel_rfl) (fun _ _ _ h => h) (Or.inl ⟨by rfl, ?_⟩) ?_ ?_
         rotate_left
         ·intro w'
          go_simp
          with_reducible rfl
         rotate_left
         ·simp only [Act.put, List.setIfInBounds_toArray, List.set_cons_zero, List.set_cons_succ, i64_w, i32_w]
          rfl
         refine pure_ (i := 3) (N := some 19) (v := ?_) (a' := ?_) #[true, true, false, true, false, false, false] rfl rfl (by kernel_rfl) (fun _ _ _ h => h) (Or.inl ⟨by rfl, ?_⟩) ?_ ?_
         rotate_left
         ·intro w'
          go_simp
          with_reducible rfl
         rotate_left
         ·simp only [Act.put, List.setIfInBounds_toArray, List.set_cons_zero, List.set_cons_succ, i64_w, i32_w]
          rfl
         refine pure_ (i := 4) (N := some 20) (v := ?_) (a' := ?_) #[true, true, false, true, true, false, false] rfl rfl (by kernel_rfl) (fun _ _ _ h => h) (Or.inl ⟨by rfl, ?_⟩) ?_ ?_
         rotate_left
         ·intro w'
          go_simp
          with_reducible rfl
         rotate_left
         ·simp only [Act.put, List.setIfInBounds_toArray, List.set_cons_zero, List.set_cons_succ, i64_w, i32_w]
          rfl
         refine take_ (i := 2) (N := some 18) (v := ?_) (a' := ?_) #[true, true, true, true, true, false, false] rfl rfl (by kernel_rfl) (fun _ _ _ h => h) (Or.inl ⟨by rfl, ?_⟩) hHeld ?_ ?_
         rotate_left
         ·rintro w' ⟨s0, s1, s2, s3, s4, s5, s6, s7, s8, s9, s10, s11⟩
          go_simp
          with_reducible rfl
         rotate_left
         ·simp only [Act.put, List.setIfInBounds_toArray, List.set_cons_zero, List.set_cons_succ, i64_w, i32_w]
          rfl
         refine take_ (i := 5) (N := some 21) (v := ?_) (a' := ?_) #[true, true, true, true, true, true, false] rfl rfl (by kernel_rfl) (fun _ _ _ h => h) (Or.inl ⟨by rfl, ?_⟩) hHeld ?_ ?_
         rotate_left
         ·rintro w' ⟨s0, s1, s2, s3, s4, s5, s6, s7, s8, s9, s10, s11⟩
          go_simp
          with_reducible rfl
         rotate_left
         ·simp only [Act.put, List.setIfInBounds_toArray, List.set_cons_zero, List.set_cons_succ, i64_w, i32_w]
          rfl
         refine pure_ (i := 6) (N := some 22) (v := ?_) (a' := ?_) #[true, true, true, true, true, true, true] rfl rfl (by kernel_rfl) (fun _ _ _ h => h) (Or.inl ⟨by rfl, ?_⟩) ?_ ?_
         rotate_left
         ·intro w'
          go_simp
          with_reducible rfl
         rotate_left
         ·simp only [Act.put, List.setIfInBounds_toArray, List.set_cons_zero, List.set_cons_succ, i64_w, i32_w]
          rfl
         refine done_ (by kernel_rfl) ?_
         try go_wp2
         have n0_ := Aside0.mk (blk_drew BK317.out)
         have n1_ := Aside0.mk (blk_drew BK318.out)
         have n2_ := Aside0.mk (blk_drew BK331.out)
         have n3_ := Aside0.mk (blk_drew BK332.out)
         have n4_ := Aside0.mk (below_drew1 HB.out)
         clear BK317
         clear BK318
         clear BK331
         clear BK332
         clear HB
         have BK317 := n0_
         have BK318 := n1_
         have BK331 := n2_
         have BK332 := n3_
         have HB := n4_
         clear n0_ n1_ n2_ n3_ n4_
         refine start_ (n := 8) (S := fun w' => w'.cell? ⟨gb331, 0, none⟩ = some (.string t319) ∧ w'.cell? ⟨gb331, 1, none⟩ = some (.string t320) ∧ w'.cell? ⟨gb331, 2, none⟩ = some (.string t321) ∧ w'.cell? ⟨gb331, 3, none⟩ = some (.string t322) ∧ w'.cell? ⟨gb331, 4, none⟩ = some (.string t323) ∧ w'.cell? ⟨gb331, 5, none⟩ = some (.string t324) ∧ w'.cell? ⟨gb332, 0, none⟩ = some (.string t325) ∧ w'.cell? ⟨gb332, 1, none⟩ = some (.string t326) ∧ w'.cell? ⟨gb332, 2, none⟩ = some (.string t327) ∧ w'.cell? ⟨gb332, 3, none⟩ = some (.string t328) ∧ w'.cell? ⟨gb332, 4, none⟩ = some (.string t329) ∧ w'.cell? ⟨gb332, 5, none⟩ = some (.string t330)) (ds := []) #[false, false, false, false, false, false, false, false] (by kernel_rfl) rfl rfl ⟨(blk_cell BK331.out 0).trans rfl, (blk_cell BK331.out 1).trans rfl, (blk_cell BK331.out 2).trans rfl, (blk_cell BK331.out 3).trans rfl, (blk_cell BK331.out 4).trans rfl, (blk_cell BK331.out 5).trans rfl, (blk_cell BK332.out 0).trans rfl, (blk_cell BK332.out 1).trans rfl, (blk_cell BK332.out 2).trans rfl, (blk_cell BK332.out 3).trans rfl, (blk_cell BK332.out 4).trans rfl, (blk_cell BK332.out 5).trans rfl⟩ (fun hHeld => ?_); refine with_tabW entailref1_Less.tab6 entailref1_Less.bits6 (fun HT_ HW_ => ?_)
         generalize w44.drew = w45 at BK317 BK318 BK331 BK332 HB hHeld ⊢
         refine pure_ (i := 0) (N := some 23) (v := ?_) (a' := ?_) #[true, false, false, false, false, false, false, false] rfl rfl (any_of HT_.out (by kernel_rfl)) (fun _ _ _ h => h) (Or.inl ⟨by rfl, ?_⟩) ?_ ?_
         rotate_left
         ·intro w'
          go_simp
          with_reducible rfl
         rotate_left
         ·simp only [Act.put, List.setIfInBounds_toArray, List.set_cons_zero, List.set_cons_succ, i64_w, i32_w]
          rfl
         refine pure_ (i := 1) (N := some 24) (v := ?_) (a' := ?_) #[true, true, false, false, false, false, false, false] rfl rfl (any_of HT_.out (by kernel_rfl)) (fun _ _ _ h => h) (Or.inl ⟨by rfl, ?_⟩) ?_ ?_
         rotate_left
         ·intro w'
          go_simp
          with_reducible rfl
         rotate_left
         ·simp only [Act.put, List.setIfInBounds_toArray, List.set_cons_zero, List.set_cons_succ, i64_w, i32_w]
          rfl
         refine pure_ (i := 3) (N := some 26) (v := ?_) (a' := ?_) #[true, true, false, true, false, false, false, false] rfl rfl (any_of HT_.out (by kernel_rfl)) (fun _ _ _ h => h) (Or.inl ⟨by rfl, ?_⟩) ?_ ?_
         rotate_left
         ·intro w'
          go_simp
          with_reducible rfl
         rotate_left
         ·simp only [Act.put, List.setIfInBounds_toArray, List.set_cons_zero, List.set_cons_succ, i64_w, i32_w]
          rfl
         refine pure_ (i := 4) (N := some 27) (v := ?_) (a' := ?_) #[true, true, false, true, true, false, false, false] rfl rfl (any_of HT_.out (by kernel_rfl)) (fun _ _ _ h => h) (Or.inl ⟨by rfl, ?_⟩) ?_ ?_
         rotate_left
         ·intro w'
          go_simp
          with_reducible rfl
         rotate_left
         ·simp only [Act.put, List.setIfInBounds_toArray, List.set_cons_zero, List.set_cons_succ, i64_w, i32_w]
          rfl
         refine take_ (i := 2) (N := some 25) (v := ?_) (a' := ?_) #[true, true, true, true, true, false, false, false] rfl rfl (take_ofW HT_.out HW_.out (by kernel_rfl)) (fun _ _ _ h => h) (Or.inl ⟨by rfl, ?_⟩) hHeld ?_ ?_
         rotate_left
         ·rintro w' ⟨s0, s1, s2, s3, s4, s5, s6, s7, s8, s9, s10, s11⟩
          go_simp
          with_reducible rfl
         rotate_left
         ·simp only [Act.put, List.setIfInBounds_toArray, List.set_cons_zero, List.set_cons_succ, i64_w, i32_w]
          rfl
         refine take_ (i := 5) (N := some 28) (v := ?_) (a' := ?_) #[true, true, true, true, true, true, false, false] rfl rfl (take_ofW HT_.out HW_.out (by kernel_rfl)) (fun _ _ _ h => h) (Or.inl ⟨by rfl, ?_⟩) hHeld ?_ ?_
         rotate_left
         ·rintro w' ⟨s0, s1, s2, s3, s4, s5, s6, s7, s8, s9, s10, s11⟩
          go_simp
          with_reducible rfl
         rotate_left
         ·simp only [Act.put, List.setIfInBounds_toArray, List.set_cons_zero, List.set_cons_succ, i64_w, i32_w]
          rfl
         refine pure_ (i := 6) (N := some 29) (v := ?_) (a' := ?_) #[true, true, true, true, true, true, true, false] rfl rfl (any_of HT_.out (by kernel_rfl)) (fun _ _ _ h => h) (Or.inl ⟨by rfl, ?_⟩) ?_ ?_
         rotate_left
         ·intro w'
          go_simp
          with_reducible rfl
         rotate_left
         ·simp only [Act.put, List.setIfInBounds_toArray, List.set_cons_zero, List.set_cons_succ, i64_w, i32_w]
          rfl
         refine pure_ (i := 7) (N := some 4) (v := ?_) (a' := ?_) #[true, true, true, true, true, true, true, true] rfl rfl (any_of HT_.out (by kernel_rfl)) (fun _ _ _ h => h) (Or.inl ⟨by rfl, ?_⟩) ?_ ?_
         rotate_left
         ·intro w'
          go_simp
          with_reducible rfl
         rotate_left
         ·simp only [Act.put, List.setIfInBounds_toArray, List.set_cons_zero, List.set_cons_succ, i64_w, i32_w]
          rfl
         refine done_ (done_of HT_.out (by kernel_rfl)) ?_
         try go_wp2
         go_ret
         exact ⟨by first | rfl | (simp [errW_none, errW_some] <;> rfl) | (simp [*, errW_none, errW_some] <;> rfl), by repeat (first | (with_reducible first | exact HB.out | apply below_alloc | apply pw_below_drewN | apply below_drew1 | refine below_set ?_ GE317.out | refine below_set ?_ GE318.out | refine below_set ?_ GE331.out | refine below_set ?_ GE332.out) | exact HB.out)⟩
       ·rw [if_neg c41] at H
        have c41b0 : (x7_1 == 3) = false := beq_eq_false_iff_ne.mpr c41
        have c41b1 : (x7_1 != 3) = true := bne_iff_ne.mpr c41
        by_cases c46 : x7_1 = 4
        ·rw [if_pos c46] at H


         subst c46
         by_cases c47 : t323.toList = t329.toList
         ·rw [if_pos c47] at H
          have c47b0 : (t323.toList == t329.toList) = true := beq_iff_eq.mpr c47
          have c47b1 : (t323.toList != t329.toList) = false := bne_eq_false_iff_eq.mpr c47
          clear c47
          have H' := Aside0.mk H
          clear H
          try go_wp2
          have n0_ := Aside0.mk (blk_drew BK317.out)
          have n1_ := Aside0.mk (blk_drew BK318.out)
          have n2_ := Aside0.mk (blk_drew BK331.out)
          have n3_ := Aside0.mk (blk_drew BK332.out)
          have n4_ := Aside0.mk (below_drew1 HB.out)
          clear BK317
          clear BK318
          clear BK331
          clear BK332
          clear HB
          have BK317 := n0_
          have BK318 := n1_
          have BK331 := n2_
          have BK332 := n3_
          have HB := n4_
          clear n0_ n1_ n2_ n3_ n4_
          refine start_ (n := 7) (S := fun w' => w'.cell? ⟨gb331, 0, none⟩ = some (.string t319) ∧ w'.cell? ⟨gb331, 1, none⟩ = some (.string t320) ∧ w'.cell? ⟨gb331, 2, none⟩ = some (.string t321) ∧ w'.cell? ⟨gb331, 3, none⟩ = some (.string t322) ∧ w'.cell? ⟨gb331, 4, none⟩ = some (.string t323) ∧ w'.cell? ⟨gb331, 5, none⟩ = some (.string t324) ∧ w'.cell? ⟨gb332, 0, none⟩ = some (.string t325) ∧ w'.cell? ⟨gb332, 1, none⟩ = some (.string t326) ∧ w'.cell? ⟨gb332, 2, none⟩ = some (.string t327) ∧ w'.cell? ⟨gb332, 3, none⟩ = some (.string t328) ∧ w'.cell? ⟨gb332, 4, none⟩ = some (.string t329) ∧ w'.cell? ⟨gb332, 5, none⟩ = some (.string t330)) (ds := []) #[false, false, false, false, false, false, false] (by kernel_rfl) rfl rfl ⟨(blk_cell BK331.out 0).trans rfl, (blk_cell BK331.out 1).trans rfl, (blk_cell BK331.out 2).trans rfl, (blk_cell BK331.out 3).trans rfl, (blk_cell BK331.out 4).trans rfl, (blk_cell BK331.out 5).trans rfl, (blk_cell BK332.out 0).trans rfl, (blk_cell BK332.out 1).trans rfl, (blk_cell BK332.out 2).trans rfl, (blk_cell BK332.out 3).trans rfl, (blk_cell BK332.out 4).trans rfl, (blk_cell BK332.out 5).trans rfl⟩ (fun hHeld => ?_)
          generalize wr.drew = w48 at BK317 BK318 BK331 BK332 HB hHeld ⊢
          refine pure_ (i := 0) (N := some 16) (v := ?_) (a' := ?_) #[true, false, false, false, false, false, false] rfl rfl (by kernel_rfl) (fun _ _ _ h => h) (Or.inl ⟨by rfl, ?_⟩) ?_ ?_
          rotate_left
          ·intro w'
           go_simp
           with_reducible rfl
          rotate_left
          ·simp only [Act.put, List.setIfInBounds_toArray, List.set_cons_zero, List.set_cons_succ, i64_w, i32_w]
           rfl
          refine pure_ (i := 1) (N := some 17) (v := ?_) (a' := ?_) #[true, true, false, false, false, false, false] rfl rfl (by kernel_rfl) (fun _ _ _ h => h) (Or.inl ⟨by rfl, ?_⟩) ?_ ?_
          rotate_left
          ·intro w'
           go_simp
           with_reducible rfl
          rotate_left
          ·simp only [Act.put, List.setIfInBounds_toArray, List.set_cons_zero, List.set_cons_succ, i64_w, i32_w]
           rfl
          refine pure_ (i := 3) (N := some 19) (v := ?_) (a' := ?_) #[true, true, false, true, false, false, false] rfl rfl (by kernel_rfl) (fun _ _ _ h => h) (Or.inl ⟨by rfl, ?_⟩) ?_ ?_
          rotate_left
          ·intro w'
           go_simp
           with_reducible rfl
          rotate_left
          ·simp only [Act.put, List.setIfInBounds_toArray, List.set_cons_zero, List.set_cons_succ, i64_w, i32_w]
           rfl
          refine pure_ (i := 4) (N := some 20) (v := ?_) (a' := ?_) #[true, true, false, true, true, false, false] rfl rfl (by kernel_rfl) (fun _ _ _ h => h) (Or.inl ⟨by rfl, ?_⟩) ?_ ?_
          rotate_left
          ·intro w'
           go_simp
           with_reducible rfl
          rotate_left
          ·simp only [Act.put, List.setIfInBounds_toArray, List.set_cons_zero, List.set_cons_succ, i64_w, i32_w]
           rfl
          refine take_ (i := 2) (N := some 18) (v := ?_) (a' := ?_) #[true, true, true, true, true, false, false] rfl rfl (by kernel_rfl) (fun _ _ _ h => h) (Or.inl ⟨by rfl, ?_⟩) hHeld ?_ ?_
          rotate_left
          ·rintro w' ⟨s0, s1, s2, s3, s4, s5, s6, s7, s8, s9, s10, s11⟩
           go_simp
           with_reducible rfl
          rotate_left
          ·simp only [Act.put, List.setIfInBounds_toArray, List.set_cons_zero, List.set_cons_succ, i64_w, i32_w]
           rfl
          refine take_ (i := 5) (N := some 21) (v := ?_) (a' := ?_) #[true, true, true, true, true, true, false] rfl rfl (by kernel_rfl) (fun _ _ _ h => h) (Or.inl ⟨by rfl, ?_⟩) hHeld ?_ ?_
          rotate_left
          ·rintro w' ⟨s0, s1, s2, s3, s4, s5, s6, s7, s8, s9, s10, s11⟩
           go_simp
           with_reducible rfl
          rotate_left
          ·simp only [Act.put, List.setIfInBounds_toArray, List.set_cons_zero, List.set_cons_succ, i64_w, i32_w]
           rfl
          refine pure_ (i := 6) (N := some 22) (v := ?_) (a' := ?_) #[true, true, true, true, true, true, true] rfl rfl (by kernel_rfl) (fun _ _ _ h => h) (Or.inl ⟨by rfl, ?_⟩) ?_ ?_
          rotate_left
          ·intro w'
           go_simp
           with_reducible rfl
          rotate_left
          ·simp only [Act.put, List.setIfInBounds_toArray, List.set_cons_zero, List.set_cons_succ, i64_w, i32_w]
           rfl
          refine done_ (by kernel_rfl) ?_
          try go_wp2
          go_roundg k1
          case measure => have := HK1.out; omega
          case rel => exact ⟨(wrap64 (4 + 1)), (by first | rfl | (simp; done) | (simp; decide +kernel) | (simp [*]; done)), H', ⟨by have := HK1.out; omega⟩, ⟨by (with_reducible repeat (first | refine blk_drewN ?_ _ | refine blk_drew ?_ | refine blk_alloc ?_ _)); exact BK317.out⟩, ⟨by (with_reducible repeat (first | refine blk_drewN ?_ _ | refine blk_drew ?_ | refine blk_alloc ?_ _)); exact BK318.out⟩, ⟨by (with_reducible repeat (first | refine blk_drewN ?_ _ | refine blk_drew ?_ | refine blk_alloc ?_ _)); exact BK331.out⟩, ⟨by (with_reducible repeat (first | refine blk_drewN ?_ _ | refine blk_drew ?_ | refine blk_alloc ?_ _)); exact BK332.out⟩, ⟨by repeat (first | (with_reducible first | exact HB.out | apply below_alloc | apply pw_below_drewN | apply below_drew1 | refine below_set ?_ GE317.out | refine below_set ?_ GE318.out | refine below_set ?_ GE331.out | refine below_set ?_ GE332.out) | exact HB.out)⟩⟩
         ·rw [if_neg c47] at H
          have c47b0 : (t323.toList == t329.toList) = false := beq_eq_false_iff_ne.mpr c47
          have c47b1 : (t323.toList != t329.toList) = true := bne_iff_ne.mpr c47
          obtain rfl := Option.some.inj H
          try go_wp2
          have n0_ := Aside0.mk (blk_drew BK317.out)
          have n1_ := Aside0.mk (blk_drew BK318.out)
          have n2_ := Aside0.mk (blk_drew BK331.out)
          have n3_ := Aside0.mk (blk_drew BK332.out)
          have n4_ := Aside0.mk (below_drew1 HB.out)
          clear BK317
          clear BK318
          clear BK331
          clear BK332
          clear HB
          have BK317 := n0_
          have BK318 := n1_
          have BK331 := n2_
          have BK332 := n3_
          have HB := n4_
          clear n0_ n1_ n2_ n3_ n4_
          refine start_ (n := 7) (S := fun w' => w'.cell? ⟨gb331, 0, none⟩ = some (.string t319) ∧ w'.cell? ⟨gb331, 1, none⟩ = some (.string t320) ∧ w'.cell? ⟨gb331, 2, none⟩ = some (.string t321) ∧ w'.cell? ⟨gb331, 3, none⟩ = some (.string t322) ∧ w'.cell? ⟨gb331, 4, none⟩ = some (.string t323) ∧ w'.cell? ⟨gb331, 5, none⟩ = some (.string t324) ∧ w'.cell? ⟨gb332, 0, none⟩ = some (.string t325) ∧ w'.cell? ⟨gb332, 1, none⟩ = some (.string t326) ∧ w'.cell? ⟨gb332, 2, none⟩ = some (.string t327) ∧ w'.cell? ⟨gb332, 3, none⟩ = some (.string t328) ∧ w'.cell? ⟨gb332, 4, none⟩ = some (.string t329) ∧ w'.cell? ⟨gb332, 5, none⟩ = some (.string t330)) (ds := []) #[false, false, false, false, false, false, false] (by kernel_rfl) rfl rfl ⟨(blk_cell BK331.out 0).trans rfl, (blk_cell BK331.out 1).trans rfl, (blk_cell BK331.out 2).trans rfl, (blk_cell BK331.out 3).trans rfl, (blk_cell BK331.out 4).trans rfl, (blk_cell BK331.out 5).trans rfl, (blk_cell BK332.out 0).trans rfl, (blk_cell BK332.out 1).trans rfl, (blk_cell BK332.out 2).trans rfl, (blk_cell BK332.out 3).trans rfl, (blk_cell BK332.out 4).trans rfl, (blk_cell BK332.out 5).trans rfl⟩ (fun hHeld => ?_)
          generalize wr.drew = w49 at BK317 BK318 BK331 BK332 HB hHeld ⊢
          refine pure_ (i := 0) (N := some 16) (v := ?_) (a' := ?_) #[true, false, false, false, false, false, false] rfl rfl (by kernel_rfl) (fun _ _ _ h => h) (Or.inl ⟨by rfl, ?_⟩) ?_ ?_
          rotate_left
          ·intro w'
           go_simp
           with_reducible rfl
          rotate_left
          ·simp only [Act.put, List.setIfInBounds_toArray, List.set_cons_zero, List.set_cons_succ, i64_w, i32_w]
           rfl
          refine pure_ (i := 1) (N := some 17) (v := ?_) (a' := ?_) #[true, true, false, false, false, false, false] rfl rfl (by kernel_rfl) (fun _ _ _ h => h) (Or.inl ⟨by rfl, ?_⟩) ?_ ?_
          rotate_left
          ·intro w'
           go_simp
           with_reducible rfl
          rotate_left
          ·simp only [Act.put, List.setIfInBounds_toArray, List.set_cons_zero, List.set_cons_succ, i64_w, i32_w]
           rfl
          refine pure_ (i := 3) (N := some 19) (v := ?_) (a' := ?_) #[true, true, false, true, false, false, false] rfl rfl (by kernel_rfl) (fun _ _ _ h => h) (Or.inl ⟨by rfl, ?_⟩) ?_ ?_
          rotate_left
          ·intro w'
           go_simp
           with_reducible rfl
          rotate_left
          ·simp only [Act.put, List.setIfInBounds_toArray, List.set_cons_zero, List.set_cons_succ, i64_w, i32_w]
           rfl
          refine pure_ (i := 4) (N := some 20) (v := ?_) (a' := ?_) #[true, true, false, true, true, false, false] rfl rfl (by kernel_rfl) (fun _ _ _ h => h) (Or.inl ⟨by rfl, ?_⟩) ?_ ?_
          rotate_left
          ·intro w'
           go_simp
           with_reducible rfl
          rotate_left
          ·simp only [Act.put, List.setIfInBounds_toArray, List.set_cons_zero, List.set_cons_succ, i64_w, i32_w]
           rfl
          refine take_ (i := 2) (N := some 18) (v := ?_) (a' := ?_) #[true, true, true, true, true, false, false] rfl rfl (by kernel_rfl) (fun _ _ _ h => h) (Or.inl ⟨by rfl, ?_⟩) hHeld ?_ ?_
          rotate_left
          ·rintro w' ⟨s0, s1, s2, s3, s4, s5, s6, s7, s8, s9, s10, s11⟩
           go_simp
           with_reducible rfl
          rotate_left
          ·simp only [Act.put, List.setIfInBounds_toArray, List.set_cons_zero, List.set_cons_succ, i64_w, i32_w]
           rfl
          refine take_ (i := 5) (N := some 21) (v := ?_) (a' := ?_) #[true, true, true, true, true, true, false] rfl rfl (by kernel_rfl) (fun _ _ _ h => h) (Or.inl ⟨by rfl, ?_⟩) hHeld ?_ ?_
          rotate_left
          ·rintro w' ⟨s0, s1, s2, s3, s4, s5, s6, s7, s8, s9, s10, s11⟩
           go_simp
           with_reducible rfl
          rotate_left
          ·simp only [Act.put, List.setIfInBounds_toArray, List.set_cons_zero, List.set_cons_succ, i64_w, i32_w]
           rfl
          refine pure_ (i := 6) (N := some 22) (v := ?_) (a' := ?_) #[true, true, true, true, true, true, true] rfl rfl (by kernel_rfl) (fun _ _ _ h => h) (Or.inl ⟨by rfl, ?_⟩) ?_ ?_
          rotate_left
          ·intro w'
           go_simp
           with_reducible rfl
          rotate_left
          ·simp only [Act.put, List.setIfInBounds_toArray, List.set_cons_zero, List.set_cons_succ, i64_w, i32_w]
           rfl
          refine done_ (by kernel_rfl) ?_
          try go_wp2
          have n0_ := Aside0.mk (blk_drew BK317.out)
          have n1_ := Aside0.mk (blk_drew BK318.out)
          have n2_ := Aside0.mk (blk_drew BK331.out)
          have n3_ := Aside0.mk (blk_drew BK332.out)
          have n4_ := Aside0.mk (below_drew1 HB.out)
          clear BK317
          clear BK318
          clear BK331
          clear BK332
          clear HB
          have BK317 := n0_
          have BK318 := n1_
          have BK331 := n2_
          have BK332 := n3_
          have HB := n4_
          clear n0_ n1_ n2_ n3_ n4_
          refine start_ (n := 8) (S := fun w' => w'.cell? ⟨gb331, 0, none⟩ = some (.string t319) ∧ w'.cell? ⟨gb331, 1, none⟩ = some (.string t320) ∧ w'.cell? ⟨gb331, 2, none⟩ = some (.string t321) ∧ w'.cell? ⟨gb331, 3, none⟩ = some (.string t322) ∧ w'.cell? ⟨gb331, 4, none⟩ = some (.string t323) ∧ w'.cell? ⟨gb331, 5, none⟩ = some (.string t324) ∧ w'.cell? ⟨gb332, 0, none⟩ = some (.string t325) ∧ w'.cell? ⟨gb332, 1, none⟩ = some (.string t326) ∧ w'.cell? ⟨gb332, 2, none⟩ = some (.string t327) ∧ w'.cell? ⟨gb332, 3, none⟩ = some (.string t328) ∧ w'.cell? ⟨gb332, 4, none⟩ = some (.string t329) ∧ w'.cell? ⟨gb332, 5, none⟩ = some (.string t330)) (ds := []) #[false, false, false, false, false, false, false, false] (by kernel_rfl) rfl rfl ⟨(blk_cell BK331.out 0).trans rfl, (blk_cell BK331.out 1).trans rfl, (blk_cell BK331.out 2).trans rfl, (blk_cell BK331.out 3).trans rfl, (blk_cell BK331.out 4).trans rfl, (blk_cell BK331.out 5).trans rfl, (blk_cell BK332.out 0).trans rfl, (blk_cell BK332.out 1).trans rfl, (blk_cell BK332.out 2).trans rfl, (blk_cell BK332.out 3).trans rfl, (blk_cell BK332.out 4).trans rfl, (blk_cell BK332.out 5).trans rfl⟩ (fun hHeld => ?_); refine with_tabW entailref1_Less.tab6 entailref1_Less.bits6 (fun HT_ HW_ => ?_)
          generalize w49.drew = w50 at BK317 BK318 BK331 BK332 HB hHeld ⊢
          refine pure_ (i := 0) (N := some 23) (v := ?_) (a' := ?_) #[true, false, false, false, false, false, false, false] rfl rfl (any_of HT_.out (by kernel_rfl)) (fun _ _ _ h => h) (Or.inl ⟨by rfl, ?_⟩) ?_ ?_
          rotate_left
          ·intro w'
           go_simp
           with_reducible rfl
          rotate_left
          ·simp only [Act.put, List.setIfInBounds_toArray, List.set_cons_zero, List.set_cons_succ, i64_w, i32_w]
           rfl
          refine pure_ (i := 1) (N := some 24) (v := ?_) (a' := ?_) #[true, true, false, false, false, false, false, false] rfl rfl (any_of HT_.out (by kernel_rfl)) (fun _ _ _ h => h) (Or.inl ⟨by rfl, ?_⟩) ?_ ?_
          rotate_left
          ·intro w'
           go_simp
           with_reducible rfl
          rotate_left
          ·simp only [Act.put, List.setIfInBounds_toArray, List.set_cons_zero, List.set_cons_succ, i64_w, i32_w]
           rfl
          refine pure_ (i := 3) (N := some 26) (v := ?_) (a' := ?_) #[true, true, false, true, false, false, false, false] rfl rfl (any_of HT_.out (by kernel_rfl)) (fun _ _ _ h => h) (Or.inl ⟨by rfl, ?_⟩) ?_ ?_
          rotate_left
          ·intro w'
           go_simp
           with_reducible rfl
          rotate_left
          ·simp only [Act.put, List.setIfInBounds_toArray, List.set_cons_zero, List.set_cons_succ, i64_w, i32_w]
           rfl
          refine pure_ (i := 4) (N := some 27) (v := ?_) (a' := ?_) #[true, true, false, true, true, false, false, false] rfl rfl (any_of HT_.out (by kernel_rfl)) (fun _ _ _ h => h) (Or.inl ⟨by rfl, ?_⟩) ?_ ?_
          rotate_left
          ·intro w'
           go_simp
           with_reducible rfl
          rotate_left
          ·simp only [Act.put, List.setIfInBounds_toArray, List.set_cons_zero, List.set_cons_succ, i64_w, i32_w]
           rfl
          refine take_ (i := 2) (N := some 25) (v := ?_) (a' := ?_) #[true, true, true, true, true, false, false, false] rfl rfl (take_ofW HT_.out HW_.out (by kernel_rfl)) (fun _ _ _ h => h) (Or.inl ⟨by rfl, ?_⟩) hHeld ?_ ?_
          rotate_left
          ·rintro w' ⟨s0, s1, s2, s3, s4, s5, s6, s7, s8, s9, s10, s11⟩
           go_simp
           with_reducible rfl
          rotate_left
          ·simp only [Act.put, List.setIfInBounds_toArray, List.set_cons_zero, List.set_cons_succ, i64_w, i32_w]
           rfl
          refine take_ (i := 5) (N := some 28) (v := ?_) (a' := ?_) #[true, true, true, true, true, true, false, false] rfl rfl (take_ofW HT_.out HW_.out (by kernel_rfl)) (fun _ _ _ h => h) (Or.inl ⟨by rfl, ?_⟩) hHeld ?_ ?_
          rotate_left
          ·rintro w' ⟨s0, s1, s2, s3, s4, s5, s6, s7, s8, s9, s10, s11⟩
           go_simp
           with_reducible rfl
          rotate_left
          ·simp only [Act.put, List.setIfInBounds_toArray, List.set_cons_zero, List.set_cons_succ, i64_w, i32_w]
           rfl
          refine pure_ (i := 6) (N := some 29) (v := ?_) (a' := ?_) #[true, true, true, true, true, true, true, false] rfl rfl (any_of HT_.out (by kernel_rfl)) (fun _ _ _ h => h) (Or.inl ⟨by rfl, ?_⟩) ?_ ?_
          rotate_left
          ·intro w'
           go_simp
           with_reducible rfl
          rotate_left
          ·simp only [Act.put, List.setIfInBounds_toArray, List.set_cons_zero, List.set_cons_succ, i64_w, i32_w]
           rfl
          refine pure_ (i := 7) (N := some 4) (v := ?_) (a' := ?_) #[true, true, true, true, true, true, true, true] rfl rfl (any_of HT_.out (by kernel_rfl)) (fun _ _ _ h => h) (Or.inl ⟨by rfl, ?_⟩) ?_ ?_
          rotate_left
          ·intro w'
           go_simp
           with_reducible rfl
          rotate_left
          ·simp only [Act.put, List.setIfInBounds_toArray, List.set_cons_zero, List.set_cons_succ, i64_w, i32_w]
           rfl
          refine done_ (done_of HT_.out (by kernel_rfl)) ?_
          try go_wp2
          go_ret
          exact ⟨by first | rfl | (simp [errW_none, errW_some] <;> rfl) | (simp [*, errW_none, errW_some] <;> rfl), by repeat (first | (with_reducible first | exact HB.out | apply below_alloc | apply pw_below_drewN | apply below_drew1 | refine below_set ?_ GE317.out | refine below_set ?_ GE318.out | refine below_set ?_ GE331.out | refine below_set ?_ GE332.out) | exact HB.out)⟩
        ·rw [if_neg c46] at H
         have c46b0 : (x7_1 == 4) = false := beq_eq_false_iff_ne.mpr c46
         have c46b1 : (x7_1 != 4) = true := bne_iff_ne.mpr c46
         by_cases c51 : x7_1 = 5
         ·rw [if_pos c51] at H


          subst c51
          by_cases c52 : t324.toList = t330.toList
          ·rw [if_pos c52] at H
           have c52b0 : (t324.toList == t330.toList) = true := beq_iff_eq.mpr c52
           have c52b1 : (t324.toList != t330.toList) = false := bne_eq_false_iff_eq.mpr c52
           clear c52
           have H' := Aside0.mk H
           clear H
           try go_wp2
           have n0_ := Aside0.mk (blk_drew BK317.out)
           have n1_ := Aside0.mk (blk_drew BK318.out)
           have n2_ := Aside0.mk (blk_drew BK331.out)
           have n3_ := Aside0.mk (blk_drew BK332.out)
           have n4_ := Aside0.mk (below_drew1 HB.out)
           clear BK317
           clear BK318
           clear BK331
           clear BK332
           clear HB
           have BK317 := n0_
           have BK318 := n1_
           have BK331 := n2_
           have BK332 := n3_
           have HB := n4_
           clear n0_ n1_ n2_ n3_ n4_
           refine start_ (n := 7) (S := fun w' => w'.cell? ⟨gb331, 0, none⟩ = some (.string t319) ∧ w'.cell? ⟨gb331, 1, none⟩ = some (.string t320) ∧ w'.cell? ⟨gb331, 2, none⟩ = some (.string t321) ∧ w'.cell? ⟨gb331, 3, none⟩ = some (.string t322) ∧ w'.cell? ⟨gb331, 4, none⟩ = some (.string t323) ∧ w'.cell? ⟨gb331, 5, none⟩ = some (.string t324) ∧ w'.cell? ⟨gb332, 0, none⟩ = some (.string t325) ∧ w'.cell? ⟨gb332, 1, none⟩ = some (.string t326) ∧ w'.cell? ⟨gb332, 2, none⟩ = some (.string t327) ∧ w'.cell? ⟨gb332, 3, none⟩ = some (.string t328) ∧ w'.cell? ⟨gb332, 4, none⟩ = some (.string t329) ∧ w'.cell? ⟨gb332, 5, none⟩ = some (.string t330)) (ds := []) #[false, false, false, false, false, false, false] (by kernel_rfl) rfl rfl ⟨(blk_cell BK331.out 0).trans rfl, (blk_cell BK331.out 1).trans rfl, (blk_cell BK331.out 2).trans rfl, (blk_cell BK331.out 3).trans rfl, (blk_cell BK331.out 4).trans rfl, (blk_cell BK331.out 5).trans rfl, (blk_cell BK332.out 0).trans rfl, (blk_cell BK332.out 1).trans rfl, (blk_cell BK332.out 2).trans rfl, (blk_cell BK332.out 3).trans rfl, (blk_cell BK332.out 4).trans rfl, (blk_cell BK332.out 5).trans rfl⟩ (fun hHeld => ?_)
           generalize wr.drew = w53 at BK317 BK318 BK331 BK332 HB hHeld ⊢
           refine pure_ (i := 0) (N := some 16) (v := ?_) (a' := ?_) #[true, false, false, false, false, false, false] rfl rfl (by kernel_rfl) (fun _ _ _ h => h) (Or.inl ⟨by rfl, ?_⟩) ?_ ?_
           rotate_left
           ·intro w'
            go_simp
            with_reducible rfl
           rotate_left
           ·simp only [Act.put, List.setIfInBounds_toArray, List.set_cons_zero, List.set_cons_succ, i64_w, i32_w]
            rfl
           refine pure_ (i := 1) (N := some 17) (v := ?_) (a' := ?_) #[true, true, false, false, false, false, false] rfl rfl (by kernel_rfl) (fun _ _ _ h => h) (Or.inl ⟨by rfl, ?_⟩) ?_ ?_
           rotate_left
           ·intro w'
            go_simp
            with_reducible rfl
           rotate_left
           ·simp only [Act.put, List.setIfInBounds_toArray, List.set_cons_zero, List.set_cons_succ, i64_w, i32_w]
            rfl
           refine pure_ (i := 3) (N := some 19) (v := ?_) (a' := ?_) #[true, true, false, true, false, false, false] rfl rfl (by kernel_rfl) (fun _ _ _ h => h) (Or.inl ⟨by rfl, ?_⟩) ?_ ?_
           rotate_left
           ·intro w'
            go_simp
            with_reducible rfl
           rotate_left
           ·simp only [Act.put, List.setIfInBounds_toArray, List.set_cons_zero, List.set_cons_succ, i64_w, i32_w]
            rfl
           refine pure_ (i := 4) (N := some 20) (v := ?_) (a' := ?_) #[true, true, false, true, true, false, false] rfl rfl (by kernel_rfl) (fun _ _ _ h => h) (Or.inl ⟨by rfl, ?_⟩) ?_ ?_
           rotate_left
           ·intro w'
            go_simp
            with_reducible rfl
           rotate_left
           ·simp only [Act.put, List.setIfInBounds_toArray, List.set_cons_zero, List.set_cons_succ, i64_w, i32_w]
            rfl
           refine take_ (i := 2) (N := some 18) (v := ?_) (a' := ?_) #[true, true, true, true, true, false, false] rfl rfl (by kernel_rfl) (fun _ _ _ h => h) (Or.inl ⟨by rfl, ?_⟩) hHeld ?_ ?_
           rotate_left
           ·rintro w' ⟨s0, s1, s2, s3, s4, s5, s6, s7, s8, s9, s10, s11⟩
            go_simp
            with_reducible rfl
           rotate_left
           ·simp only [Act.put, List.setIfInBounds_toArray, List.set_cons_zero, List.set_cons_succ, i64_w, i32_w]
            rfl
           refine take_ (i := 5) (N := some 21) (v := ?_) (a' := ?_) #[true, true, true, true, true, true, false] rfl rfl (by kernel_rfl) (fun _ _ _ h => h) (Or.inl ⟨by rfl, ?_⟩) hHeld ?_ ?_
           rotate_left
           ·rintro w' ⟨s0, s1, s2, s3, s4, s5, s6, s7, s8, s9, s10, s11⟩
            go_simp
            with_reducible rfl
           rotate_left
           ·simp only [Act.put, List.setIfInBounds_toArray, List.set_cons_zero, List.set_cons_succ, i64_w, i32_w]
            rfl
           refine pure_ (i := 6) (N := some 22) (v := ?_) (a' := ?_) #[true, true, true, true, true, true, true] rfl rfl (by kernel_rfl) (fun _ _ _ h => h) (Or.inl ⟨by rfl, ?_⟩) ?_ ?_
           rotate_left
           ·intro w'
            go_simp
            with_reducible rfl
           rotate_left
           ·simp only [Act.put, List.setIfInBounds_toArray, List.set_cons_zero, List.set_cons_succ, i64_w, i32_w]
            rfl
           refine done_ (by kernel_rfl) ?_
           try go_wp2
           go_roundg k1
           case measure => have := HK1.out; omega
           case rel => exact ⟨(wrap64 (5 + 1)), (by first | rfl | (simp; done) | (simp; decide +kernel) | (simp [*]; done)), H', ⟨by have := HK1.out; omega⟩, ⟨by (with_reducible repeat (first | refine blk_drewN ?_ _ | refine blk_drew ?_ | refine blk_alloc ?_ _)); exact BK317.out⟩, ⟨by (with_reducible repeat (first | refine blk_drewN ?_ _ | refine blk_drew ?_ | refine blk_alloc ?_ _)); exact BK318.out⟩, ⟨by (with_reducible repeat (first | refine blk_drewN ?_ _ | refine blk_drew ?_ | refine blk_alloc ?_ _)); exact BK331.out⟩, ⟨by (with_reducible repeat (first | refine blk_drewN ?_ _ | refine blk_drew ?_ | refine blk_alloc ?_ _)); exact BK332.out⟩, ⟨by repeat (first | (with_reducible first | exact HB.out | apply below_alloc | apply pw_below_drewN | apply below_drew1 | refine below_set ?_ GE317.out | refine below_set ?_ GE318.out | refine below_set ?_ GE331.out | refine below_set ?_ GE332.out) | exact HB.out)⟩⟩
          ·rw [if_neg c52] at H
           have c52b0 : (t324.toList == t330.toList) = false := beq_eq_false_iff_ne.mpr c52
           have c52b1 : (t324.toList != t330.toList) = true := bne_iff_ne.mpr c52
           obtain rfl := Option.some.inj H
           try go_wp2
           have n0_ := Aside0.mk (blk_drew BK317.out)
           have n1_ := Aside0.mk (blk_drew BK318.out)
           have n2_ := Aside0.mk (blk_drew BK331.out)
           have n3_ := Aside0.mk (blk_drew BK332.out)
           have n4_ := Aside0.mk (below_drew1 HB.out)
           clear BK317
           clear BK318
           clear BK331
           clear BK332
           clear HB
           have BK317 := n0_
           have BK318 := n1_
           have BK331 := n2_
           have BK332 := n3_
           have HB := n4_
           clear n0_ n1_ n2_ n3_ n4_
           refine start_ (n := 7) (S := fun w' => w'.cell? ⟨gb331, 0, none⟩ = some (.string t319) ∧ w'.cell? ⟨gb331, 1, none⟩ = some (.string t320) ∧ w'.cell? ⟨gb331, 2, none⟩ = some (.string t321) ∧ w'.cell? ⟨gb331, 3, none⟩ = some (.string t322) ∧ w'.cell? ⟨gb331, 4, none⟩ = some (.string t323) ∧ w'.cell? ⟨gb331, 5, none⟩ = some (.string t324) ∧ w'.cell? ⟨gb332, 0, none⟩ = some (.string t325) ∧ w'.cell? ⟨gb332, 1, none⟩ = some (.string t326) ∧ w'.cell? ⟨gb332, 2, none⟩ = some (.string t327) ∧ w'.cell? ⟨gb332, 3, none⟩ = some (.string t328) ∧ w'.cell? ⟨gb332, 4, none⟩ = some (.string t329) ∧ w'.cell? ⟨gb332, 5, none⟩ = some (.string t330)) (ds := []) #[false, false, false, false, false, false, false] (by kernel_rfl) rfl rfl ⟨(blk_cell BK331.out 0).trans rfl, (blk_cell BK331.out 1).trans rfl, (blk_cell BK331.out 2).trans rfl, (blk_cell BK331.out 3).trans rfl, (blk_cell BK331.out 4).trans rfl, (blk_cell BK331.out 5).trans rfl, (blk_cell BK332.out 0).trans rfl, (blk_cell BK332.out 1).trans rfl, (blk_cell BK332.out 2).trans rfl, (blk_cell BK332.out 3).trans rfl, (blk_cell BK332.out 4).trans rfl, (blk_cell BK332.out 5).trans rfl⟩ (fun hHeld => ?_)
           generalize wr.drew = w54 at BK317 BK318 BK331 BK332 HB hHeld ⊢
           refine pure_ (i := 0) (N := some 16) (v := ?_) (a' := ?_) #[true, false, false, false, false, false, false] rfl rfl (by kernel_rfl) (fun _ _ _ h => h) (Or.inl ⟨by rfl, ?_⟩) ?_ ?_
           rotate_left
           ·intro w'
            go_simp
            with_reducible rfl
           rotate_left
           ·simp only [Act.put, List.setIfInBounds_toArray, List.set_cons_zero, List.set_cons_succ, i64_w, i32_w]
            rfl
           refine pure_ (i := 1) (N := some 17) (v := ?_) (a' := ?_) #[true, true, false, false, false, false, false] rfl rfl (by kernel_rfl) (fun _ _ _ h => h) (Or.inl ⟨by rfl, ?_⟩) ?_ ?_
           rotate_left
           ·intro w'
            go_simp
            with_reducible rfl
           rotate_left
           ·simp only [Act.put, List.setIfInBounds_toArray, List.set_cons_zero, List.set_cons_succ, i64_w, i32_w]
            rfl
           refine pure_ (i := 3) (N := some 19) (v := ?_) (a' := ?_) #[true, true, false, true, false, false, false] rfl rfl (by kernel_rfl) (fun _ _ _ h => h) (Or.inl ⟨by rfl, ?_⟩) ?_ ?_
           rotate_left
           ·intro w'
            go_simp
            with_reducible rfl
           rotate_left
           ·simp only [Act.put, List.setIfInBounds_toArray, List.set_cons_zero, List.set_cons_succ, i64_w, i32_w]
            rfl
           refine pure_ (i := 4) (N := some 20) (v := ?_) (a' := ?_) #[true, true, false, true, true, false, false] rfl rfl (by kernel_rfl) (fun _ _ _ h => h) (Or.inl ⟨by rfl, ?_⟩) ?_ ?_
           rotate_left
           ·intro w'
            go_simp
            with_reducible rfl
           rotate_left
           ·simp only [Act.put, List.setIfInBounds_toArray, List.set_cons_zero, List.set_cons_succ, i64_w, i32_w]
            rfl
           refine take_ (i := 2) (N := some 18) (v := ?_) (a' := ?_) #[true, true, true, true, true, false, false] rfl rfl (by kernel_rfl) (fun _ _ _ h => h) (Or.inl ⟨by rfl, ?_⟩) hHeld ?_ ?_
           rotate_left
           ·rintro w' ⟨s0, s1, s2, s3, s4, s5, s6, s7, s8, s9, s10, s11⟩
            go_simp
            with_reducible rfl
           rotate_left
           ·simp only [Act.put, List.setIfInBounds_toArray, List.set_cons_zero, List.set_cons_succ, i64_w, i32_w]
            rfl
           refine take_ (i := 5) (N := some 21) (v := ?_) (a' := ?_) #[true, true, true, true, true, true, false] rfl rfl (by kernel_rfl) (fun _ _ _ h => h) (Or.inl ⟨by rfl, ?_⟩) hHeld ?_ ?_
           rotate_left
           ·rintro w' ⟨s0, s1, s2, s3, s4, s5, s6, s7, s8, s9, s10, s11⟩
            go_simp
            with_reducible rfl
           rotate_left
           ·simp only [Act.put, List.setIfInBounds_toArray, List.set_cons_zero, List.set_cons_succ, i64_w, i32_w]
            rfl
           refine pure_ (i := 6) (N := some 22) (v := ?_) (a' := ?_) #[true, true, true, true, true, true, true] rfl rfl (by kernel_rfl) (fun _ _ _ h => h) (Or.inl ⟨by rfl, ?_⟩) ?_ ?_
           rotate_left
           ·intro w'
            go_simp
            with_reducible rfl
           rotate_left
           ·simp only [Act.put, List.setIfInBounds_toArray, List.set_cons_zero, List.set_cons_succ, i64_w, i32_w]
            rfl
           refine done_ (by kernel_rfl) ?_
           try go_wp2
           have n0_ := Aside0.mk (blk_drew BK317.out)
           have n1_ := Aside0.mk (blk_drew BK318.out)
           have n2_ := Aside0.mk (blk_drew BK331.out)
           have n3_ := Aside0.mk (blk_drew BK332.out)
           have n4_ := Aside0.mk (below_drew1 HB.out)
           clear BK317
           clear BK318
           clear BK331
           clear BK332
           clear HB
           have BK317 := n0_
           have BK318 := n1_
           have BK331 := n2_
           have BK332 := n3_
           have HB := n4_
           clear n0_ n1_ n2_ n3_ n4_
           refine start_ (n := 8) (S := fun w' => w'.cell? ⟨gb331, 0, none⟩ = some (.string t319) ∧ w'.cell? ⟨gb331, 1, none⟩ = some (.string t320) ∧ w'.cell? ⟨gb331, 2, none⟩ = some (.string t321) ∧ w'.cell? ⟨gb331, 3, none⟩ = some (.string t322) ∧ w'.cell? ⟨gb331, 4, none⟩ = some (.string t323) ∧ w'.cell? ⟨gb331, 5, none⟩ = some (.string t324) ∧ w'.cell? ⟨gb332, 0, none⟩ = some (.string t325) ∧ w'.cell? ⟨gb332, 1, none⟩ = some (.string t326) ∧ w'.cell? ⟨gb332, 2, none⟩ = some (.string t327) ∧ w'.cell? ⟨gb332, 3, none⟩ = some (.string t328) ∧ w'.cell? ⟨gb332, 4, none⟩ = some (.string t329) ∧ w'.cell? ⟨gb332, 5, none⟩ = some (.string t330)) (ds := []) #[false, false, false, false, false, false, false, false] (by kernel_rfl) rfl rfl ⟨(blk_cell BK331.out 0).trans rfl, (blk_cell BK331.out 1).trans rfl, (blk_cell BK331.out 2).trans rfl, (blk_cell BK331.out 3).trans rfl, (blk_cell BK331.out 4).trans rfl, (blk_cell BK331.out 5).trans rfl, (blk_cell BK332.out 0).trans rfl, (blk_cell BK332.out 1).trans rfl, (blk_cell BK332.out 2).trans rfl, (blk_cell BK332.out 3).trans rfl, (blk_cell BK332.out 4).trans rfl, (blk_cell BK332.out 5).trans rfl⟩ (fun hHeld => ?_); refine with_tabW entailref1_Less.tab6 entailref1_Less.bits6 (fun HT_ HW_ => ?_)
           generalize w54.drew = w55 at BK317 BK318 BK331 BK332 HB hHeld ⊢
           refine pure_ (i := 0) (N := some 23) (v := ?_) (a' := ?_) #[true, false, false, false, false, false, false, false] rfl rfl (any_of HT_.out (by kernel_rfl)) (fun _ _ _ h => h) (Or.inl ⟨by rfl, ?_⟩) ?_ ?_
           rotate_left
           ·intro w'
            go_simp
            with_reducible rfl
           rotate_left
           ·simp only [Act.put, List.setIfInBounds_toArray, List.set_cons_zero, List.set_cons_succ, i64_w, i32_w]
            rfl
           refine pure_ (i := 1) (N := some 24) (v := ?_) (a' := ?_) #[true, true, false, false, false, false, false, false] rfl rfl (any_of HT_.out (by kernel_rfl)) (fun _ _ _ h => h) (Or.inl ⟨by rfl, ?_⟩) ?_ ?_
           rotate_left
           ·intro w'
            go_simp
            with_reducible rfl
           rotate_left
           ·simp only [Act.put, List.setIfInBounds_toArray, List.set_cons_zero, List.set_cons_succ, i64_w, i32_w]
            rfl
           refine pure_ (i := 3) (N := some 26) (v := ?_) (a' := ?_) #[true, true, false, true, false, false, false, false] rfl rfl (any_of HT_.out (by kernel_rfl)) (fun _ _ _ h => h) (Or.inl ⟨by rfl, ?_⟩) ?_ ?_
           rotate_left
           ·intro w'
            go_simp
            with_reducible rfl
           rotate_left
           ·simp only [Act.put, List.setIfInBounds_toArray, List.set_cons_zero, List.set_cons_succ, i64_w, i32_w]
            rfl
           refine pure_ (i := 4) (N := some 27) (v := ?_) (a' := ?_) #[true, true, false, true, true, false, false, false] rfl rfl (any_of HT_.out (by kernel_rfl)) (fun _ _ _ h => h) (Or.inl ⟨by rfl, ?_⟩) ?_ ?_
           rotate_left
           ·intro w'
            go_simp
            with_reducible rfl
           rotate_left
           ·simp only [Act.put, List.setIfInBounds_toArray, List.set_cons_zero, List.set_cons_succ, i64_w, i32_w]
            rfl
           refine take_ (i := 2) (N := some 25) (v := ?_) (a' := ?_) #[true, true, true, true, true, false, false, false] rfl rfl (take_ofW HT_.out HW_.out (by kernel_rfl)) (fun _ _ _ h => h) (Or.inl ⟨by rfl, ?_⟩) hHeld ?_ ?_
           rotate_left
           ·rintro w' ⟨s0, s1, s2, s3, s4, s5, s6, s7, s8, s9, s10, s11⟩
            go_simp
            with_reducible rfl
           rotate_left
           ·simp only [Act.put, List.setIfInBounds_toArray, List.set_cons_zero, List.set_cons_succ, i64_w, i32_w]
            rfl
           refine take_ (i := 5) (N := some 28) (v := ?_) (a' := ?_) #[true, true, true, true, true, true, false, false] rfl rfl (take_ofW HT_.out HW_.out (by kernel_rfl)) (fun _ _ _ h => h) (Or.inl ⟨by rfl, ?_⟩) hHeld ?_ ?_
           rotate_left
           ·rintro w' ⟨s0, s1, s2, s3, s4, s5, s6, s7, s8, s9, s10, s11⟩
            go_simp
            with_reducible rfl
           rotate_left
           ·simp only [Act.put, List.setIfInBounds_toArray, List.set_cons_zero, List.set_cons_succ, i64_w, i32_w]
            rfl
           refine pure_ (i := 6) (N := some 29) (v := ?_) (a' := ?_) #[true, true, true, true, true, true, true, false] rfl rfl (any_of HT_.out (by kernel_rfl)) (fun _ _ _ h => h) (Or.inl ⟨by rfl, ?_⟩) ?_ ?_
           rotate_left
           ·intro w'
            go_simp
            with_reducible rfl
           rotate_left
           ·simp only [Act.put, List.setIfInBounds_toArray, List.set_cons_zero, List.set_cons_succ, i64_w, i32_w]
            rfl
           refine pure_ (i := 7) (N := some 4) (v := ?_) (a' := ?_) #[true, true, true, true, true, true, true, true] rfl rfl (any_of HT_.out (by kernel_rfl)) (fun _ _ _ h => h) (Or.inl ⟨by rfl, ?_⟩) ?_ ?_
           rotate_left
           ·intro w'
            go_simp
            with_reducible rfl
           rotate_left
           ·simp only [Act.put, List.setIfInBounds_toArray, List.set_cons_zero, List.set_cons_succ, i64_w, i32_w]
            rfl
           refine done_ (done_of HT_.out (by kernel_rfl)) ?_
           try go_wp2
           go_ret
           exact ⟨by first | rfl | (simp [errW_none, errW_some] <;> rfl) | (simp [*, errW_none, errW_some] <;> rfl), by repeat (first | (with_reducible first | exact HB.out | apply below_alloc | apply pw_below_drewN | apply below_drew1 | refine below_set ?_ GE317.out | refine below_set ?_ GE318.out | refine below_set ?_ GE331.out | refine below_set ?_ GE332.out) | exact HB.out)⟩
         ·rw [if_neg c51] at H
          exact absurd H (by simp)
   ·rw [if_neg c25] at H
    have c25b0 : decide (x7_1 < 6) = false := decide_eq_false c25
    clear c25
    obtain rfl := Option.some.inj H
    go_wp2
    go_ret
    exact ⟨by first | rfl | (simp [errW_none, errW_some] <;> rfl) | (simp [*, errW_none, errW_some] <;> rfl), by repeat (first | (with_reducible first | exact HB.out | apply below_alloc | apply pw_below_drewN | apply below_drew1 | refine below_set ?_ GE317.out | refine below_set ?_ GE318.out | refine below_set ?_ GE331.out | refine below_set ?_ GE332.out) | exact HB.out)⟩
end Go.Proofs.Ytjmlloiolppoiaa.P
end
section
namespace Go.Proofs.Ytjmlloiolppoiaa.Tupl
open Go.RowKit Go.Proofs.Ytjmlloiolppoiaa.P Go.Proofs.YtjmlloiolppoiaaW.PrintWords Go.Proofs.YtjmlloiolppoiaaW.PrintLast Go.Proofs.Ytjmlloiolppoiaa.Base Go.Proofs.Ytjmlloiolppoiaa.Atom Go.Proofs.Ytjmlloiolppoiaa.TuplLess
theorem rok_ev (a b c d e f : ByteArray) (hb : b.size ≤ 1000000000000) (he : e.size ≤ 1000000000000) :
    Ev (fun k => entailref1_Ok.f k a b c d e f) (okL (A a) (A b) (A c) (A d) (A e) (A f)) := by
  obtain ⟨K1, h1⟩ := rname_ev a; obtain ⟨K2, h2⟩ := rid_ev b hb; obtain ⟨K3, h3⟩ := rname_ev c
  obtain ⟨K4, h4⟩ := rname_ev d; obtain ⟨K5, h5⟩ := rid_ev e he; obtain ⟨K6, h6⟩ := rname_ev f
  refine ⟨K1 + K2 + K3 + K4 + K5 + K6, fun k hk => ?_⟩
  have q1 : entailref1_Name.f k a = some (nameL (A a)) := h1 k (by omega)
  have q2 : entailref1_ID.f k b = some (idL (A b)) := h2 k (by omega)
  have q3 : entailref1_Name.f k c = some (nameL (A c)) := h3 k (by omega)
  have q4 : entailref1_Name.f k d = some (nameL (A d)) := h4 k (by omega)
  have q5 : entailref1_ID.f k e = some (idL (A e)) := h5 k (by omega)
  have q6 : entailref1_Name.f k f = some (nameL (A f)) := h6 k (by omega)
  show entailref1_Ok.f k a b c d e f = _
  unfold entailref1_Ok.f okL
  rw [q1, q2, q3, q4, q5, q6, A_toList]
  simp only [Option.bind_some]
  cases nameL (A a) <;> cases idL (A b) <;> cases nameL (A c) <;> cases nameL (A d) <;> cases idL (A e) <;> by_cases g : A f = [] <;> simp [g]
theorem rtext_ev (a b c d e f : ByteArray) (hb : b.size ≤ 1000000000000) (he : e.size ≤ 1000000000000) :
    Ev (fun k => entailref1_Text.f k a b c d e f) (toB (textR (A a) (A b) (A c) (A d) (A e) (A f))) := by
  obtain ⟨K, h⟩ := rok_ev a b c d e f hb he
  refine ⟨K, fun k hk => ?_⟩
  have q : entailref1_Ok.f k a b c d e f = some (okL (A a) (A b) (A c) (A d) (A e) (A f)) := h k hk
  show entailref1_Text.f k a b c d e f = _
  unfold entailref1_Text.f textR
  rw [q, Option.bind_some]
  by_cases g : okL (A a) (A b) (A c) (A d) (A e) (A f) = true
  · have g' := okd.1 g
    have z1 := (name_le g'.a).1; have z2 := (id_le g'.b).1; have z3 := (name_le g'.c).1; have z4 := (name_le g'.d).1; have z5 := (id_le g'.e).1
    have z6 : (A f).length ≤ 30 := by rcases g'.f with h | h; (rw [h]; exact Nat.zero_le _); exact (name_le h).1
    rw [A_len] at z1 z2 z3 z4 z5 z6
    rw [if_pos g, if_pos g, A_toList]
    iterate 8 rw [if_pos (by (try simp only [ByteArray.size_append, siz1]); omega)]
    by_cases n : A f = []
    · rw [if_pos n]
      refine congrArg some (A_inj ?_)
      unfold textL
      rw [if_pos n]
      simp only [A_append, A_toB, lit1, List.append_assoc, List.nil_append, List.cons_append, List.append_nil]
    · rw [if_neg n]
      iterate 2 rw [if_pos (by (try simp only [ByteArray.size_append, siz1]); omega)]
      refine congrArg some (A_inj ?_)
      unfold textL
      rw [if_neg n]
      simp only [A_append, A_toB, lit1, List.append_assoc, List.nil_append, List.cons_append]
  · rw [if_neg g, if_neg g]; rfl
theorem bl : ∀ x y : List UInt8, Op.bytesLess x y = decide (Lib.compareBytes x y < 0)
  | [], [] => by simp [Op.bytesLess, Lib.compareBytes]
  | [], _ :: _ => by simp [Op.bytesLess, Lib.compareBytes]
  | _ :: _, [] => by simp [Op.bytesLess, Lib.compareBytes]
  | a :: x, b :: y => by
    unfold Op.bytesLess Lib.compareBytes
    have ih := bl x y
    by_cases h : a < b
    · simp [h]
    · by_cases g : b < a
      · simp only [h, g]
        have e : ¬ a = b := fun e => by rw [e] at g; exact absurd g (by simp)
        simp [e]
      · have e : a = b := by
          rw [UInt8.lt_iff_toNat_lt] at h g
          exact UInt8.toNat_inj.1 (by omega)
        simp [e, ih]
theorem cmps_step (x y : List UInt8) (X Y : List (List UInt8)) : decide (cmps (x :: X) (y :: Y) < 0) = if x = y then decide (cmps X Y < 0) else Op.bytesLess x y := by
  show decide ((if Lib.compareBytes x y = 0 then cmps X Y else Lib.compareBytes x y) < 0) = _
  by_cases h : x = y
  · subst h; rw [if_pos (cb_self x), if_pos rfl]
  · rw [if_neg h, if_neg (fun e => h (cb_zero x y e)), bl]
theorem rless_ev (a0 a1 a2 a3 a4 a5 b0 b1 b2 b3 b4 b5 : ByteArray) :
    Ev (fun k => entailref1_Less.f k a0 a1 a2 a3 a4 a5 b0 b1 b2 b3 b4 b5) (decide (cmps [A a0, A a1, A a2, A a3, A a4, A a5] [A b0, A b1, A b2, A b3, A b4, A b5] < 0)) := by
  have w1 : wrap64 (0 + 1) = 1 := wrap_id (by decide) (by decide)
  have w2 : wrap64 (1 + 1) = 2 := wrap_id (by decide) (by decide)
  have w3 : wrap64 (2 + 1) = 3 := wrap_id (by decide) (by decide)
  have w4 : wrap64 (3 + 1) = 4 := wrap_id (by decide) (by decide)
  have w5 : wrap64 (4 + 1) = 5 := wrap_id (by decide) (by decide)
  have w6 : wrap64 (5 + 1) = 6 := wrap_id (by decide) (by decide)
  refine ⟨7, fun k hk => ?_⟩
  obtain ⟨k, rfl⟩ : ∃ j, k = j + 7 := ⟨k - 7, by omega⟩
  show entailref1_Less.f (k + 7) a0 a1 a2 a3 a4 a5 b0 b1 b2 b3 b4 b5 = _
  unfold entailref1_Less.f entailref1_six.f
  have e6 : decide (cmps [] [] < 0) = false := rfl
  simp only [Option.bind_some, cmps_step, e6]
  have s0 : ∀ k, entailref1_Less.l0 (k + 1) 0 a0 a1 a2 a3 a4 a5 b0 b1 b2 b3 b4 b5 = if A a0 = A b0 then entailref1_Less.l0 k 1 a0 a1 a2 a3 a4 a5 b0 b1 b2 b3 b4 b5 else some (Op.bytesLess (A a0) (A b0)) := by
    intro k; simp only [entailref1_Less.l0, A_toList, w1]; simp
  have s1 : ∀ k, entailref1_Less.l0 (k + 1) 1 a0 a1 a2 a3 a4 a5 b0 b1 b2 b3 b4 b5 = if A a1 = A b1 then entailref1_Less.l0 k 2 a0 a1 a2 a3 a4 a5 b0 b1 b2 b3 b4 b5 else some (Op.bytesLess (A a1) (A b1)) := by
    intro k; simp only [entailref1_Less.l0, A_toList, w2]; simp
  have s2 : ∀ k, entailref1_Less.l0 (k + 1) 2 a0 a1 a2 a3 a4 a5 b0 b1 b2 b3 b4 b5 = if A a2 = A b2 then entailref1_Less.l0 k 3 a0 a1 a2 a3 a4 a5 b0 b1 b2 b3 b4 b5 else some (Op.bytesLess (A a2) (A b2)) := by
    intro k; simp only [entailref1_Less.l0, A_toList, w3]; simp
  have s3 : ∀ k, entailref1_Less.l0 (k + 1) 3 a0 a1 a2 a3 a4 a5 b0 b1 b2 b3 b4 b5 = if A a3 = A b3 then entailref1_Less.l0 k 4 a0 a1 a2 a3 a4 a5 b0 b1 b2 b3 b4 b5 else some (Op.bytesLess (A a3) (A b3)) := by
    intro k; simp only [entailref1_Less.l0, A_toList, w4]; simp
  have s4 : ∀ k, entailref1_Less.l0 (k + 1) 4 a0 a1 a2 a3 a4 a5 b0 b1 b2 b3 b4 b5 = if A a4 = A b4 then entailref1_Less.l0 k 5 a0 a1 a2 a3 a4 a5 b0 b1 b2 b3 b4 b5 else some (Op.bytesLess (A a4) (A b4)) := by
    intro k; simp only [entailref1_Less.l0, A_toList, w5]; simp
  have s5 : ∀ k, entailref1_Less.l0 (k + 1) 5 a0 a1 a2 a3 a4 a5 b0 b1 b2 b3 b4 b5 = if A a5 = A b5 then entailref1_Less.l0 k 6 a0 a1 a2 a3 a4 a5 b0 b1 b2 b3 b4 b5 else some (Op.bytesLess (A a5) (A b5)) := by
    intro k; simp only [entailref1_Less.l0, A_toList, w6]; simp
  have s6 : ∀ k, entailref1_Less.l0 (k + 1) 6 a0 a1 a2 a3 a4 a5 b0 b1 b2 b3 b4 b5 = some false := by
    intro k; simp only [entailref1_Less.l0]; simp
  rw [show k + 7 = (k + 6) + 1 by omega, s0]
  split
  · rw [show k + 6 = (k + 5) + 1 by omega, s1]
    split
    · rw [show k + 5 = (k + 4) + 1 by omega, s2]
      split
      · rw [show k + 4 = (k + 3) + 1 by omega, s3]
        split
        · rw [show k + 3 = (k + 2) + 1 by omega, s4]
          split
          · rw [show k + 2 = (k + 1) + 1 by omega, s5]
            split
            · rw [s6]
            · rfl
          · rfl
        · rfl
      · rfl
    · rfl
  · rfl
end Go.Proofs.Ytjmlloiolppoiaa.Tupl
end
