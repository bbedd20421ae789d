/- Functions of the given program as plain Lean functions, their contracts, and the plain laws: what the row needs of them. -/
import Derived.Test.YtjmlloiolppoiaaProg
import Derived.Test.YtjmlloiolppoiaaZ3
import Derived.Below
import Derived.Deep.Draws
import Derived.Deep.AppendLies
import Derived.Maps.AppendAt
import Derived.OwnWalk
import Derived.Laws.BytesArg
import Derived.Laws.MakeOwn
import Derived.Laws.OwnMore
import Derived.Deep.OwnRows
import Derived.Tactics
import Derived.Lib.ConvBytes
import Derived.Laws.Slices
import Derived.WalkKit
import Derived.KernelRfl
import Derived.RowKit3
import Derived.Deep.LoopGhost
import Derived.Deep.QuietTactic
import Derived.BigQuiet
import Derived.WideLaws
import Derived.Deep.DeepCutAuto
import Derived.Deep.CutBlock
import Derived.Deep.RegionHeld3
import Derived.Laws.Rows
import Derived.Lib.AppendStr
import Derived.ArgAppend
import Derived.Laws.IdiomCopy
import Derived.OrdersHeld
import Derived.Laws.BitsLemmas
import Derived.RowKit
import Derived.Lib.Bytealg
import Derived.Laws.Externs
import Derived.Laws.StructEq
import Derived.Shelf.Strings.Builder1
import Derived.Shelf.Strings.Builder2
import Derived.Shelf.Strings.OnBuilder
import Derived.Shelf.Small.Strs
import Derived.Shelf.Strings.Search1
import Derived.Shelf.Strings.Search2
import Derived.Shelf.Strings.Cut
import Derived.Shelf.LaysM
import Derived.Shelf.Strings.Shaped
import Derived.Lib.IndexBytes
section
namespace Go.Proofs.Ytjmlloiolppoiaa.P
open Go.RowKit Go.Proofs.YtjmlloiolppoiaaW.PrintWords Go.Proofs.YtjmlloiolppoiaaW.PrintLast Go.Proofs.YtjmlloiolppoiaaW.PrintMore
set_option linter.unusedVariables false
set_option linter.unusedSimpArgs false
mutual
def entailref1_Parse.j0 : Nat → ByteArray → Int → Int → Int → Bool → Option (ByteArray × ByteArray × ByteArray × ByteArray × ByteArray × ByteArray × Bool)
 | 0, _, _, _, _, _ => none
 | k + 1, x0, x4, x5, x6, x27 => if x27 = true then (some ((⟨#[]⟩ : ByteArray), (⟨#[]⟩ : ByteArray), (⟨#[]⟩ : ByteArray), (⟨#[]⟩ : ByteArray), (⟨#[]⟩ : ByteArray), (⟨#[]⟩ : ByteArray), false)) else ((entailref1_Find.f k x0 58 x6).bind fun t311 => (if t311 < 0 then (some ((⟨#[]⟩ : ByteArray), (⟨#[]⟩ : ByteArray), (⟨#[]⟩ : ByteArray), (⟨#[]⟩ : ByteArray), (⟨#[]⟩ : ByteArray), (⟨#[]⟩ : ByteArray), false)) else ((entailref1_Find.f k x0 35 t311).bind fun t312 => (if 0 ≤ x4 then (if x4 ≤ (x0.size : Int) then (if 0 ≤ (wrap64 (x4 + 1)) then (if (wrap64 (x4 + 1)) ≤ x5 then (if x5 ≤ (x0.size : Int) then (if 0 ≤ (wrap64 (x5 + 1)) then (if (wrap64 (x5 + 1)) ≤ x6 then (if x6 ≤ (x0.size : Int) then (if 0 ≤ (wrap64 (x6 + 1)) then (if (wrap64 (x6 + 1)) ≤ t311 then (if t311 ≤ (x0.size : Int) then (if 0 ≤ (wrap64 (t311 + 1)) then (if (wrap64 (t311 + 1)) ≤ (x0.size : Int) then (if t312 ≥ 0 then (if (wrap64 (t311 + 1)) ≤ t312 then (if t312 ≤ (x0.size : Int) then (if 0 ≤ (wrap64 (t312 + 1)) then (if (wrap64 (t312 + 1)) ≤ (x0.size : Int) then (entailref1_Parse.j1 k x0 (x0.extract 0 (x4 : Int).toNat) (x0.extract ((wrap64 (x4 + 1)) : Int).toNat (x5 : Int).toNat) (x0.extract ((wrap64 (x5 + 1)) : Int).toNat (x6 : Int).toNat) (x0.extract ((wrap64 (x6 + 1)) : Int).toNat (t311 : Int).toNat) (x0.extract ((wrap64 (t311 + 1)) : Int).toNat (t312 : Int).toNat) (x0.extract ((wrap64 (t312 + 1)) : Int).toNat x0.size)) else (none)) else (none)) else (none)) else (none)) else (entailref1_Parse.j1 k x0 (x0.extract 0 (x4 : Int).toNat) (x0.extract ((wrap64 (x4 + 1)) : Int).toNat (x5 : Int).toNat) (x0.extract ((wrap64 (x5 + 1)) : Int).toNat (x6 : Int).toNat) (x0.extract ((wrap64 (x6 + 1)) : Int).toNat (t311 : Int).toNat) (x0.extract ((wrap64 (t311 + 1)) : Int).toNat x0.size) (⟨#[]⟩ : ByteArray))) else (none)) else (none)) else (none)) else (none)) else (none)) else (none)) else (none)) else (none)) else (none)) else (none)) else (none)) else (none)) else (none)))))
def entailref1_Parse.j1 : Nat → ByteArray → ByteArray → ByteArray → ByteArray → ByteArray → ByteArray → ByteArray → Option (ByteArray × ByteArray × ByteArray × ByteArray × ByteArray × ByteArray × Bool)
 | 0, _, _, _, _, _, _, _ => none
 | k + 1, x0, x314000, x314001, x314002, x314003, x314004, x314005 => (entailref1_Text.f k x314000 x314001 x314002 x314003 x314004 x314005).bind fun t314 => (if t314.toList = x0.toList then (if x0.toList = ([] : List UInt8) then (some ((⟨#[]⟩ : ByteArray), (⟨#[]⟩ : ByteArray), (⟨#[]⟩ : ByteArray), (⟨#[]⟩ : ByteArray), (⟨#[]⟩ : ByteArray), (⟨#[]⟩ : ByteArray), false)) else (some (x314000, x314001, x314002, x314003, x314004, x314005, true))) else (some ((⟨#[]⟩ : ByteArray), (⟨#[]⟩ : ByteArray), (⟨#[]⟩ : ByteArray), (⟨#[]⟩ : ByteArray), (⟨#[]⟩ : ByteArray), (⟨#[]⟩ : ByteArray), false)))
end
def entailref1_Parse.f (k : Nat) (a0 : ByteArray) : Option (ByteArray × ByteArray × ByteArray × ByteArray × ByteArray × ByteArray × Bool) := (entailref1_Find.f k a0 58 0).bind fun t308 => ((entailref1_Find.f k a0 35 0).bind fun t309 => ((entailref1_Find.f k a0 64 0).bind fun t310 => (if t308 < 0 then (entailref1_Parse.j0 k a0 t308 t309 t310 true) else (if t309 < t308 then (entailref1_Parse.j0 k a0 t308 t309 t310 true) else (entailref1_Parse.j0 k a0 t308 t309 t310 (decide (t310 < t309)))))))
def entailref1_Parse.T10 : Bool × List (List Nat × List Nat) := (true, [([], []), ([], []), ([0, 1], [0, 1]), ([], []), ([], []), ([4], [4]), ([], []), ([3, 5, 6], [3, 5, 6]), ([2, 7], [2, 7]), ([], []), ([], []), ([10], [10]), ([], []), ([9, 11, 12], [9, 11, 12]), ([], []), ([], []), ([15], [15]), ([], []), ([14, 16, 17], [14, 16, 17]), ([], []), ([], []), ([20], [20]), ([19, 21], [19, 21]), ([18, 22], [18, 22]), ([8, 13, 23], [8, 13, 23]), ([], []), ([25, 24, 0, 1, 2, 3, 4, 5, 6, 7, 8, 9, 10, 11, 12, 13, 14, 15, 16, 17, 18, 19, 20, 21, 22, 23, 24, 25], [24, 25])])
def entailref1_Parse.B10 : List Nat := [0, 0, 3, 0, 0, 16, 0, 120, 255, 0, 0, 1024, 0, 7680, 0, 0, 32768, 0, 245760, 0, 0, 1048576, 3670016, 8372224, 16777215, 0, 67108863]
theorem entailref1_Parse.tab10 : rtab .any (opsOf Try.f18 10) = entailref1_Parse.T10 := by kernel_rfl
theorem entailref1_Parse.bits10 : waitsOk entailref1_Parse.T10.2 entailref1_Parse.B10 = true := by kernel_rfl
def entailref1_Parse.T12 : Bool × List (List Nat × List Nat) := (true, [([], []), ([], []), ([1], [1]), ([], []), ([0, 2, 3], [0, 2, 3]), ([], []), ([], []), ([6], [6]), ([5, 7], [5, 7]), ([0, 1, 2, 3, 4], []), ([9, 0, 1, 2, 3, 4], [9]), ([10, 4, 0, 1, 2, 3, 4], [4, 10]), ([0, 1, 2, 3, 4, 5, 6, 7, 8, 9, 10, 11], []), ([12, 0, 1, 2, 3, 4, 5, 6, 7, 8, 9, 10, 11], [12]), ([13, 8, 11, 0, 1, 2, 3, 4, 5, 6, 7, 8, 9, 10, 11], [8, 13])])
def entailref1_Parse.B12 : List Nat := [0, 0, 2, 0, 15, 0, 0, 64, 224, 31, 543, 1567, 4095, 8191, 16383]
theorem entailref1_Parse.tab12 : rtab .any (opsOf Try.f18 12) = entailref1_Parse.T12 := by kernel_rfl
theorem entailref1_Parse.bits12 : waitsOk entailref1_Parse.T12.2 entailref1_Parse.B12 = true := by kernel_rfl
set_option maxHeartbeats 8000000 in
set_option maxRecDepth 100000 in
theorem entailref1_Parse.calls (k : Nat) (a0 : ByteArray) (r1 : ByteArray) (r2 : ByteArray) (r3 : ByteArray) (r4 : ByteArray) (r5 : ByteArray) (r6 : ByteArray) (r7 : Bool) (w : World) (h : entailref1_Parse.f k a0 = some (r1, r2, r3, r4, r5, r6, r7)) :
  Calls Try.prog 18 #[.string a0] w fun e w' => e = .returned (.tuple #[.agg #[.string r1, .string r2, .string r3, .string r4, .string r5, .string r6], .bool r7]) ∧ Below w.heap.size w w' := by
 have hu29 := Try.underlying29
 have hu25 := Try.underlying25
 have hu27 := Try.underlying27
 have HB := Aside0.mk (Below.refl w.heap.size w)
 have H : ((entailref1_Find.f k a0 58 0).bind fun t308 => ((entailref1_Find.f k a0 35 0).bind fun t309 => ((entailref1_Find.f k a0 64 0).bind fun t310 => (if t308 < 0 then (entailref1_Parse.j0 k a0 t308 t309 t310 true) else (if t309 < t308 then (entailref1_Parse.j0 k a0 t308 t309 t310 true) else (entailref1_Parse.j0 k a0 t308 t309 t310 (decide (t310 < t309)))))))) = some (r1, r2, r3, r4, r5, r6, r7) := h
 clear h
 replace H := Option.bind_eq_some_iff.mp H
 obtain ⟨t308, A20, H⟩ := H
 replace H : ((entailref1_Find.f k a0 35 0).bind fun t309 => ((entailref1_Find.f k a0 64 0).bind fun t310 => (if t308 < 0 then (entailref1_Parse.j0 k a0 t308 t309 t310 true) else (if t309 < t308 then (entailref1_Parse.j0 k a0 t308 t309 t310 true) else (entailref1_Parse.j0 k a0 t308 t309 t310 (decide (t310 < t309))))))) = some (r1, r2, r3, r4, r5, r6, r7) := H
 have A2 := Aside0.mk A20
 clear A20
 replace H := Option.bind_eq_some_iff.mp H
 obtain ⟨t309, A30, H⟩ := H
 replace H : ((entailref1_Find.f k a0 64 0).bind fun t310 => (if t308 < 0 then (entailref1_Parse.j0 k a0 t308 t309 t310 true) else (if t309 < t308 then (entailref1_Parse.j0 k a0 t308 t309 t310 true) else (entailref1_Parse.j0 k a0 t308 t309 t310 (decide (t310 < t309)))))) = some (r1, r2, r3, r4, r5, r6, r7) := H
 have A3 := Aside0.mk A30
 clear A30
 replace H := Option.bind_eq_some_iff.mp H
 obtain ⟨t310, A40, H⟩ := H
 replace H : (if t308 < 0 then (entailref1_Parse.j0 k a0 t308 t309 t310 true) else (if t309 < t308 then (entailref1_Parse.j0 k a0 t308 t309 t310 true) else (entailref1_Parse.j0 k a0 t308 t309 t310 (decide (t310 < t309))))) = some (r1, r2, r3, r4, r5, r6, r7) := H
 have A4 := Aside0.mk A40
 clear A40
 have HC5 := Aside0.mk H
 clear H
 go_enter Try.func18, Try.ntmps18
 go_upto_region 4 with (first | ((with_reducible refine gate_dst (N := 2) rfl ?_); refine box_event ?hg (N := 2) ?hd (cs := #[.string (⟨#[]⟩ : ByteArray), .string (⟨#[]⟩ : ByteArray), .string (⟨#[]⟩ : ByteArray), .string (⟨#[]⟩ : ByteArray), .string (⟨#[]⟩ : ByteArray), .string (⟨#[]⟩ : ByteArray)]) (t := 29) ?hr ?_; (case hd => rfl); (case hg => rfl); (case hr => first | (go_simp; done) | (go_simp; rfl)); intro gb307 hg w6 hbox hb; have n0_ := Aside0.mk (below_step (by repeat (first | (with_reducible first | exact HB.out | apply below_alloc | apply pw_below_drewN | apply below_drew1) | exact HB.out)) hb); have n1_ := Aside0.mk (hbox); have n2_ := Aside0.mk ((by rw [hg]; exact (below_size (by repeat (first | (with_reducible first | exact HB.out | apply below_alloc | apply pw_below_drewN | apply below_drew1) | exact HB.out))) : w.heap.size ≤ gb307)); have n3_ := Aside0.mk ((by rw [hg]; exact (below_size (by repeat (first | (with_reducible first | exact HB.out | apply below_alloc | apply pw_below_drewN | apply below_drew1) | exact HB.out))) : w.heap.size ≤ gb307)); clear HB; have HB := n0_; have BK307 := n1_; have GW307 := n2_; have GE307 := n3_; clear n0_ n1_ n2_ n3_; clear hb hbox hg) | ((with_reducible refine gate_callee (f := 37) rfl ?_); refine goesL_ (some 11) rfl rfl Try.func37 (by kernel_rfl) rfl #[.string a0, .int .u8 58, .int .i64 0] rfl (by (try simp only [List.map_toArray, List.map_cons, List.map_nil]); first | done | rfl | (simp only [List.length_drop, List.length_take]; rfl)) ?_; (with_reducible refine (entailref1_Find.calls k a0 58 0 t308 _ A2.out).mono ?_); rintro e w' ⟨rfl, ⟨nd, rfl⟩⟩; refine ⟨_, rfl, ?_⟩) | ((with_reducible refine gate_callee (f := 37) rfl ?_); refine goesL_ (some 13) rfl rfl Try.func37 (by kernel_rfl) rfl #[.string a0, .int .u8 35, .int .i64 0] rfl (by (try simp only [List.map_toArray, List.map_cons, List.map_nil]); first | done | rfl | (simp only [List.length_drop, List.length_take]; rfl)) ?_; (with_reducible refine (entailref1_Find.calls k a0 35 0 t309 _ A3.out).mono ?_); rintro e w' ⟨rfl, ⟨nd, rfl⟩⟩; refine ⟨_, rfl, ?_⟩) | ((with_reducible refine gate_callee (f := 37) rfl ?_); refine goesL_ (some 15) rfl rfl Try.func37 (by kernel_rfl) rfl #[.string a0, .int .u8 64, .int .i64 0] rfl (by (try simp only [List.map_toArray, List.map_cons, List.map_nil]); first | done | rfl | (simp only [List.length_drop, List.length_take]; rfl)) ?_; (with_reducible refine (entailref1_Find.calls k a0 64 0 t310 _ A4.out).mono ?_); rintro e w' ⟨rfl, ⟨nd, rfl⟩⟩; refine ⟨_, rfl, ?_⟩))
 (try simp only [Act.put, List.setIfInBounds_toArray, List.set_cons_zero, List.set_cons_succ])
 go_cut [27] (fun v27 wc => ∃ (kq : Nat) (x27_4 : Bool), v27 = .bool x27_4 ∧ Aside0 (entailref1_Parse.j0 kq a0 t308 t309 t310 x27_4 = some (r1, r2, r3, r4, r5, r6, r7)) ∧ Aside0 (kq ≤ k) ∧ Aside0 (wc.heap[gb307]? = some (.cells #[.string (⟨#[]⟩ : ByteArray), .string (⟨#[]⟩ : ByteArray), .string (⟨#[]⟩ : ByteArray), .string (⟨#[]⟩ : ByteArray), .string (⟨#[]⟩ : ByteArray), .string (⟨#[]⟩ : ByteArray)] 29 (0, 0))) ∧ Aside0 (Below w.heap.size w wc))
 case first =>
  have H := HC5.out
  clear HC5
  by_cases c7 : t308 < 0
  ·rw [if_pos c7] at H
   have c7b0 : decide (t308 < 0) = true := decide_eq_true c7
   clear c7
   (first | rw [c7b0] | (simp only [i64_w, i32_w]; rw [c7b0]) | skip)
   have H' := Aside0.mk H
   clear H
   go_wp2
   go_meet
   case rel => exact ⟨_, (true), (by first | rfl | (simp; done) | (simp [*]; done)), H', ⟨by first | omega | exact Nat.le_refl _⟩, ⟨by (with_reducible repeat (first | refine blk_drewN ?_ _ | refine blk_drew ?_ | refine blk_alloc ?_ _)); exact BK307.out⟩, ⟨by repeat (first | (with_reducible first | exact HB.out | apply below_alloc | apply pw_below_drewN | apply below_drew1 | refine below_set ?_ GE307.out) | exact HB.out)⟩⟩
  ·rw [if_neg c7] at H
   have c7b0 : decide (t308 < 0) = false := decide_eq_false c7
   clear c7
   (first | rw [c7b0] | (simp only [i64_w, i32_w]; rw [c7b0]) | skip)
   by_cases c8 : t309 < t308
   ·rw [if_pos c8] at H
    have c8b0 : decide (t309 < t308) = true := decide_eq_true c8
    clear c8
    have H' := Aside0.mk H
    clear H
    go_wp2
    go_meet
    case rel => exact ⟨_, (true), (by first | rfl | (simp; done) | (simp [*]; done)), H', ⟨by first | omega | exact Nat.le_refl _⟩, ⟨by (with_reducible repeat (first | refine blk_drewN ?_ _ | refine blk_drew ?_ | refine blk_alloc ?_ _)); exact BK307.out⟩, ⟨by repeat (first | (with_reducible first | exact HB.out | apply below_alloc | apply pw_below_drewN | apply below_drew1 | refine below_set ?_ GE307.out) | exact HB.out)⟩⟩
   ·rw [if_neg c8] at H
    have c8b0 : decide (t309 < t308) = false := decide_eq_false c8
    clear c8
    have H' := Aside0.mk H
    clear H
    go_wp2
    go_meet
    case rel => exact ⟨_, (decide (t310 < t309)), (by first | rfl | (simp; done) | (simp [*]; done)), H', ⟨by first | omega | exact Nat.le_refl _⟩, ⟨by (with_reducible repeat (first | refine blk_drewN ?_ _ | refine blk_drew ?_ | refine blk_alloc ?_ _)); exact BK307.out⟩, ⟨by repeat (first | (with_reducible first | exact HB.out | apply below_alloc | apply pw_below_drewN | apply below_drew1 | refine below_set ?_ GE307.out) | exact HB.out)⟩⟩
 case rest =>
  clear HC5
  try clear c1
  try clear p2
  try clear c3
  try clear c7
  try clear c7b0
  try clear c8
  try clear c8b0
  obtain ⟨kq, x27_4, rfl, HA, HJ4, BK307, HB⟩ := hcut
  cases kq with
  | zero => exact absurd HA.out (by simp [entailref1_Parse.j0])
  | succ kj4 =>
   have H := HA.out
   clear HA
   simp only [entailref1_Parse.j0] at H
   by_cases c9 : x27_4 = true
   ·subst c9
    have H1 : (some ((⟨#[]⟩ : ByteArray), (⟨#[]⟩ : ByteArray), (⟨#[]⟩ : ByteArray), (⟨#[]⟩ : ByteArray), (⟨#[]⟩ : ByteArray), (⟨#[]⟩ : ByteArray), false)) = some (r1, r2, r3, r4, r5, r6, r7) := by rw [if_pos rfl] at H; exact H
    clear H
    have H := H1
    clear H1
    simp only [Option.some.injEq, Prod.mk.injEq] at H
    obtain ⟨rfl, rfl, rfl, rfl, rfl, rfl, rfl⟩ := H
    have hcz10_0 : wc.cell? ⟨gb307, 0, none⟩ = some (.string (⟨#[]⟩ : ByteArray)) := (blk_cell BK307.out 0).trans rfl
    have hcz10_1 : wc.cell? ⟨gb307, 1, none⟩ = some (.string (⟨#[]⟩ : ByteArray)) := (blk_cell BK307.out 1).trans rfl
    have hcz10_2 : wc.cell? ⟨gb307, 2, none⟩ = some (.string (⟨#[]⟩ : ByteArray)) := (blk_cell BK307.out 2).trans rfl
    have hcz10_3 : wc.cell? ⟨gb307, 3, none⟩ = some (.string (⟨#[]⟩ : ByteArray)) := (blk_cell BK307.out 3).trans rfl
    have hcz10_4 : wc.cell? ⟨gb307, 4, none⟩ = some (.string (⟨#[]⟩ : ByteArray)) := (blk_cell BK307.out 4).trans rfl
    have hcz10_5 : wc.cell? ⟨gb307, 5, none⟩ = some (.string (⟨#[]⟩ : ByteArray)) := (blk_cell BK307.out 5).trans rfl
    have hfz10_0 := blk_frozen BK307.out 0
    have hfz10_1 := blk_frozen BK307.out 1
    have hfz10_2 := blk_frozen BK307.out 2
    have hfz10_3 := blk_frozen BK307.out 3
    have hfz10_4 := blk_frozen BK307.out 4
    have hfz10_5 := blk_frozen BK307.out 5
    go_wp2
    refine bodyPost_ret (results_ct rfl _ _ gb307 29 #[.string (⟨#[]⟩ : ByteArray), .string (⟨#[]⟩ : ByteArray), .string (⟨#[]⟩ : ByteArray), .string (⟨#[]⟩ : ByteArray), .string (⟨#[]⟩ : ByteArray), .string (⟨#[]⟩ : ByteArray)] (0, 0) _ rfl (by (with_reducible repeat (first | refine blk_drewN ?_ _ | refine blk_drew ?_ | refine blk_alloc ?_ _)); refine blk_put (cs := #[.string (⟨#[]⟩ : ByteArray), .string (⟨#[]⟩ : ByteArray), .string (⟨#[]⟩ : ByteArray), .string (⟨#[]⟩ : ByteArray), .string (⟨#[]⟩ : ByteArray), .string (⟨#[]⟩ : ByteArray)]) ?_ 5 _ rfl; (with_reducible repeat (first | refine blk_drewN ?_ _ | refine blk_drew ?_ | refine blk_alloc ?_ _)); refine blk_put (cs := #[.string (⟨#[]⟩ : ByteArray), .string (⟨#[]⟩ : ByteArray), .string (⟨#[]⟩ : ByteArray), .string (⟨#[]⟩ : ByteArray), .string (⟨#[]⟩ : ByteArray), .string (⟨#[]⟩ : ByteArray)]) ?_ 4 _ rfl; (with_reducible repeat (first | refine blk_drewN ?_ _ | refine blk_drew ?_ | refine blk_alloc ?_ _)); refine blk_put (cs := #[.string (⟨#[]⟩ : ByteArray), .string (⟨#[]⟩ : ByteArray), .string (⟨#[]⟩ : ByteArray), .string (⟨#[]⟩ : ByteArray), .string (⟨#[]⟩ : ByteArray), .string (⟨#[]⟩ : ByteArray)]) ?_ 3 _ rfl; (with_reducible repeat (first | refine blk_drewN ?_ _ | refine blk_drew ?_ | refine blk_alloc ?_ _)); refine blk_put (cs := #[.string (⟨#[]⟩ : ByteArray), .string (⟨#[]⟩ : ByteArray), .string (⟨#[]⟩ : ByteArray), .string (⟨#[]⟩ : ByteArray), .string (⟨#[]⟩ : ByteArray), .string (⟨#[]⟩ : ByteArray)]) ?_ 2 _ rfl; (with_reducible repeat (first | refine blk_drewN ?_ _ | refine blk_drew ?_ | refine blk_alloc ?_ _)); refine blk_put (cs := #[.string (⟨#[]⟩ : ByteArray), .string (⟨#[]⟩ : ByteArray), .string (⟨#[]⟩ : ByteArray), .string (⟨#[]⟩ : ByteArray), .string (⟨#[]⟩ : ByteArray), .string (⟨#[]⟩ : ByteArray)]) ?_ 1 _ rfl; (with_reducible repeat (first | refine blk_drewN ?_ _ | refine blk_drew ?_ | refine blk_alloc ?_ _)); refine blk_put (cs := #[.string (⟨#[]⟩ : ByteArray), .string (⟨#[]⟩ : ByteArray), .string (⟨#[]⟩ : ByteArray), .string (⟨#[]⟩ : ByteArray), .string (⟨#[]⟩ : ByteArray), .string (⟨#[]⟩ : ByteArray)]) ?_ 0 _ rfl; (with_reducible repeat (first | refine blk_drewN ?_ _ | refine blk_drew ?_ | refine blk_alloc ?_ _)); exact BK307.out) Try.underlying29 rfl (by kernel_rfl)) rfl ?_
    exact ⟨by first | rfl | (simp [errW_none, errW_some] <;> rfl) | (simp [*, errW_none, errW_some] <;> rfl), by repeat (first | (with_reducible first | exact HB.out | apply below_alloc | apply pw_below_drewN | apply below_drew1 | refine below_set ?_ GE307.out) | exact HB.out)⟩
   ·replace c9 := Bool.eq_false_iff.mpr c9
    subst c9
    have H1 : ((entailref1_Find.f kj4 a0 58 t310).bind fun t311 => (if t311 < 0 then (some ((⟨#[]⟩ : ByteArray), (⟨#[]⟩ : ByteArray), (⟨#[]⟩ : ByteArray), (⟨#[]⟩ : ByteArray), (⟨#[]⟩ : ByteArray), (⟨#[]⟩ : ByteArray), false)) else ((entailref1_Find.f kj4 a0 35 t311).bind fun t312 => (if 0 ≤ t308 then (if t308 ≤ (a0.size : Int) then (if 0 ≤ (wrap64 (t308 + 1)) then (if (wrap64 (t308 + 1)) ≤ t309 then (if t309 ≤ (a0.size : Int) then (if 0 ≤ (wrap64 (t309 + 1)) then (if (wrap64 (t309 + 1)) ≤ t310 then (if t310 ≤ (a0.size : Int) then (if 0 ≤ (wrap64 (t310 + 1)) then (if (wrap64 (t310 + 1)) ≤ t311 then (if t311 ≤ (a0.size : Int) then (if 0 ≤ (wrap64 (t311 + 1)) then (if (wrap64 (t311 + 1)) ≤ (a0.size : Int) then (if t312 ≥ 0 then (if (wrap64 (t311 + 1)) ≤ t312 then (if t312 ≤ (a0.size : Int) then (if 0 ≤ (wrap64 (t312 + 1)) then (if (wrap64 (t312 + 1)) ≤ (a0.size : Int) then (entailref1_Parse.j1 kj4 a0 (a0.extract 0 (t308 : Int).toNat) (a0.extract ((wrap64 (t308 + 1)) : Int).toNat (t309 : Int).toNat) (a0.extract ((wrap64 (t309 + 1)) : Int).toNat (t310 : Int).toNat) (a0.extract ((wrap64 (t310 + 1)) : Int).toNat (t311 : Int).toNat) (a0.extract ((wrap64 (t311 + 1)) : Int).toNat (t312 : Int).toNat) (a0.extract ((wrap64 (t312 + 1)) : Int).toNat a0.size)) else (none)) else (none)) else (none)) else (none)) else (entailref1_Parse.j1 kj4 a0 (a0.extract 0 (t308 : Int).toNat) (a0.extract ((wrap64 (t308 + 1)) : Int).toNat (t309 : Int).toNat) (a0.extract ((wrap64 (t309 + 1)) : Int).toNat (t310 : Int).toNat) (a0.extract ((wrap64 (t310 + 1)) : Int).toNat (t311 : Int).toNat) (a0.extract ((wrap64 (t311 + 1)) : Int).toNat a0.size) (⟨#[]⟩ : ByteArray))) else (none)) else (none)) else (none)) else (none)) else (none)) else (none)) else (none)) else (none)) else (none)) else (none)) else (none)) else (none)) else (none))))) = some (r1, r2, r3, r4, r5, r6, r7) := by rw [if_neg (show ¬ (false = true) by decide)] at H; exact H
    clear H
    have H := H1
    clear H1
    replace H := Option.bind_eq_some_iff.mp H
    obtain ⟨t311, A110, H⟩ := H
    replace H : (if t311 < 0 then (some ((⟨#[]⟩ : ByteArray), (⟨#[]⟩ : ByteArray), (⟨#[]⟩ : ByteArray), (⟨#[]⟩ : ByteArray), (⟨#[]⟩ : ByteArray), (⟨#[]⟩ : ByteArray), false)) else ((entailref1_Find.f kj4 a0 35 t311).bind fun t312 => (if 0 ≤ t308 then (if t308 ≤ (a0.size : Int) then (if 0 ≤ (wrap64 (t308 + 1)) then (if (wrap64 (t308 + 1)) ≤ t309 then (if t309 ≤ (a0.size : Int) then (if 0 ≤ (wrap64 (t309 + 1)) then (if (wrap64 (t309 + 1)) ≤ t310 then (if t310 ≤ (a0.size : Int) then (if 0 ≤ (wrap64 (t310 + 1)) then (if (wrap64 (t310 + 1)) ≤ t311 then (if t311 ≤ (a0.size : Int) then (if 0 ≤ (wrap64 (t311 + 1)) then (if (wrap64 (t311 + 1)) ≤ (a0.size : Int) then (if t312 ≥ 0 then (if (wrap64 (t311 + 1)) ≤ t312 then (if t312 ≤ (a0.size : Int) then (if 0 ≤ (wrap64 (t312 + 1)) then (if (wrap64 (t312 + 1)) ≤ (a0.size : Int) then (entailref1_Parse.j1 kj4 a0 (a0.extract 0 (t308 : Int).toNat) (a0.extract ((wrap64 (t308 + 1)) : Int).toNat (t309 : Int).toNat) (a0.extract ((wrap64 (t309 + 1)) : Int).toNat (t310 : Int).toNat) (a0.extract ((wrap64 (t310 + 1)) : Int).toNat (t311 : Int).toNat) (a0.extract ((wrap64 (t311 + 1)) : Int).toNat (t312 : Int).toNat) (a0.extract ((wrap64 (t312 + 1)) : Int).toNat a0.size)) else (none)) else (none)) else (none)) else (none)) else (entailref1_Parse.j1 kj4 a0 (a0.extract 0 (t308 : Int).toNat) (a0.extract ((wrap64 (t308 + 1)) : Int).toNat (t309 : Int).toNat) (a0.extract ((wrap64 (t309 + 1)) : Int).toNat (t310 : Int).toNat) (a0.extract ((wrap64 (t310 + 1)) : Int).toNat (t311 : Int).toNat) (a0.extract ((wrap64 (t311 + 1)) : Int).toNat a0.size) (⟨#[]⟩ : ByteArray))) else (none)) else (none)) else (none)) else (none)) else (none)) else (none)) else (none)) else (none)) else (none)) else (none)) else (none)) else (none)) else (none)))) = some (r1, r2, r3, r4, r5, r6, r7) := H
    have A11 := Aside0.mk A110
    clear A110
    by_cases c12 : t311 < 0
    ·rw [if_pos c12] at H
     have c12b0 : decide (t311 < 0) = true := decide_eq_true c12
     clear c12
     simp only [Option.some.injEq, Prod.mk.injEq] at H
     obtain ⟨rfl, rfl, rfl, rfl, rfl, rfl, rfl⟩ := H
     go_wp2_with (first | ((with_reducible refine gate_callee (f := 37) rfl ?_); refine goesL_ (some 31) rfl rfl Try.func37 (by kernel_rfl) rfl #[.string a0, .int .u8 58, .int .i64 t310] rfl (by (try simp only [List.map_toArray, List.map_cons, List.map_nil]); first | done | rfl | (simp only [List.length_drop, List.length_take]; rfl)) ?_; (with_reducible refine (entailref1_Find.calls kj4 a0 58 t310 t311 _ A11.out).mono ?_); rintro e w' ⟨rfl, ⟨nd, rfl⟩⟩; refine ⟨_, rfl, ?_⟩; (try (rw [drewN_self wc]; generalize hq_ : World.drewN wc _ = wc; have n0_ : Aside0 (wc.heap[gb307]? = some (.cells #[.string (⟨#[]⟩ : ByteArray), .string (⟨#[]⟩ : ByteArray), .string (⟨#[]⟩ : ByteArray), .string (⟨#[]⟩ : ByteArray), .string (⟨#[]⟩ : ByteArray), .string (⟨#[]⟩ : ByteArray)] 29 (0, 0))) := ⟨by rw [← hq_]; exact (by (with_reducible repeat (first | refine blk_drewN ?_ _ | refine blk_drew ?_ | refine blk_alloc ?_ _)); exact BK307.out)⟩; have n1_ : Aside0 (Below w.heap.size w wc) := ⟨by rw [← hq_]; exact (by repeat (first | (with_reducible first | exact HB.out | apply below_alloc | apply pw_below_drewN | apply below_drew1 | refine below_set ?_ GE307.out) | exact HB.out))⟩; clear BK307 HB hq_; have BK307 := n0_; have HB := n1_; clear n0_ n1_)); have hcz13_0 : wc.cell? ⟨gb307, 0, none⟩ = some (.string (⟨#[]⟩ : ByteArray)) := (blk_cell BK307.out 0).trans rfl; have hcz13_1 : wc.cell? ⟨gb307, 1, none⟩ = some (.string (⟨#[]⟩ : ByteArray)) := (blk_cell BK307.out 1).trans rfl; have hcz13_2 : wc.cell? ⟨gb307, 2, none⟩ = some (.string (⟨#[]⟩ : ByteArray)) := (blk_cell BK307.out 2).trans rfl; have hcz13_3 : wc.cell? ⟨gb307, 3, none⟩ = some (.string (⟨#[]⟩ : ByteArray)) := (blk_cell BK307.out 3).trans rfl; have hcz13_4 : wc.cell? ⟨gb307, 4, none⟩ = some (.string (⟨#[]⟩ : ByteArray)) := (blk_cell BK307.out 4).trans rfl; have hcz13_5 : wc.cell? ⟨gb307, 5, none⟩ = some (.string (⟨#[]⟩ : ByteArray)) := (blk_cell BK307.out 5).trans rfl; have hfz13_0 := blk_frozen BK307.out 0; have hfz13_1 := blk_frozen BK307.out 1; have hfz13_2 := blk_frozen BK307.out 2; have hfz13_3 := blk_frozen BK307.out 3; have hfz13_4 := blk_frozen BK307.out 4; have hfz13_5 := blk_frozen BK307.out 5))
     refine bodyPost_ret (results_ct rfl _ _ gb307 29 #[.string (⟨#[]⟩ : ByteArray), .string (⟨#[]⟩ : ByteArray), .string (⟨#[]⟩ : ByteArray), .string (⟨#[]⟩ : ByteArray), .string (⟨#[]⟩ : ByteArray), .string (⟨#[]⟩ : ByteArray)] (0, 0) _ rfl (by (with_reducible repeat (first | refine blk_drewN ?_ _ | refine blk_drew ?_ | refine blk_alloc ?_ _)); refine blk_put (cs := #[.string (⟨#[]⟩ : ByteArray), .string (⟨#[]⟩ : ByteArray), .string (⟨#[]⟩ : ByteArray), .string (⟨#[]⟩ : ByteArray), .string (⟨#[]⟩ : ByteArray), .string (⟨#[]⟩ : ByteArray)]) ?_ 5 _ rfl; (with_reducible repeat (first | refine blk_drewN ?_ _ | refine blk_drew ?_ | refine blk_alloc ?_ _)); refine blk_put (cs := #[.string (⟨#[]⟩ : ByteArray), .string (⟨#[]⟩ : ByteArray), .string (⟨#[]⟩ : ByteArray), .string (⟨#[]⟩ : ByteArray), .string (⟨#[]⟩ : ByteArray), .string (⟨#[]⟩ : ByteArray)]) ?_ 4 _ rfl; (with_reducible repeat (first | refine blk_drewN ?_ _ | refine blk_drew ?_ | refine blk_alloc ?_ _)); refine blk_put (cs := #[.string (⟨#[]⟩ : ByteArray), .string (⟨#[]⟩ : ByteArray), .string (⟨#[]⟩ : ByteArray), .string (⟨#[]⟩ : ByteArray), .string (⟨#[]⟩ : ByteArray), .string (⟨#[]⟩ : ByteArray)]) ?_ 3 _ rfl; (with_reducible repeat (first | refine blk_drewN ?_ _ | refine blk_drew ?_ | refine blk_alloc ?_ _)); refine blk_put (cs := #[.string (⟨#[]⟩ : ByteArray), .string (⟨#[]⟩ : ByteArray), .string (⟨#[]⟩ : ByteArray), .string (⟨#[]⟩ : ByteArray), .string (⟨#[]⟩ : ByteArray), .string (⟨#[]⟩ : ByteArray)]) ?_ 2 _ rfl; (with_reducible repeat (first | refine blk_drewN ?_ _ | refine blk_drew ?_ | refine blk_alloc ?_ _)); refine blk_put (cs := #[.string (⟨#[]⟩ : ByteArray), .string (⟨#[]⟩ : ByteArray), .string (⟨#[]⟩ : ByteArray), .string (⟨#[]⟩ : ByteArray), .string (⟨#[]⟩ : ByteArray), .string (⟨#[]⟩ : ByteArray)]) ?_ 1 _ rfl; (with_reducible repeat (first | refine blk_drewN ?_ _ | refine blk_drew ?_ | refine blk_alloc ?_ _)); refine blk_put (cs := #[.string (⟨#[]⟩ : ByteArray), .string (⟨#[]⟩ : ByteArray), .string (⟨#[]⟩ : ByteArray), .string (⟨#[]⟩ : ByteArray), .string (⟨#[]⟩ : ByteArray), .string (⟨#[]⟩ : ByteArray)]) ?_ 0 _ rfl; (with_reducible repeat (first | refine blk_drewN ?_ _ | refine blk_drew ?_ | refine blk_alloc ?_ _)); exact BK307.out) Try.underlying29 rfl (by kernel_rfl)) rfl ?_
     exact ⟨by first | rfl | (simp [errW_none, errW_some] <;> rfl) | (simp [*, errW_none, errW_some] <;> rfl), by repeat (first | (with_reducible first | exact HB.out | apply below_alloc | apply pw_below_drewN | apply below_drew1 | refine below_set ?_ GE307.out) | exact HB.out)⟩
    ·rw [if_neg c12] at H
     have c12b0 : decide (t311 < 0) = false := decide_eq_false c12
     clear c12
     replace H := Option.bind_eq_some_iff.mp H
     obtain ⟨t312, A140, H⟩ := H
     replace H : (if 0 ≤ t308 then (if t308 ≤ (a0.size : Int) then (if 0 ≤ (wrap64 (t308 + 1)) then (if (wrap64 (t308 + 1)) ≤ t309 then (if t309 ≤ (a0.size : Int) then (if 0 ≤ (wrap64 (t309 + 1)) then (if (wrap64 (t309 + 1)) ≤ t310 then (if t310 ≤ (a0.size : Int) then (if 0 ≤ (wrap64 (t310 + 1)) then (if (wrap64 (t310 + 1)) ≤ t311 then (if t311 ≤ (a0.size : Int) then (if 0 ≤ (wrap64 (t311 + 1)) then (if (wrap64 (t311 + 1)) ≤ (a0.size : Int) then (if t312 ≥ 0 then (if (wrap64 (t311 + 1)) ≤ t312 then (if t312 ≤ (a0.size : Int) then (if 0 ≤ (wrap64 (t312 + 1)) then (if (wrap64 (t312 + 1)) ≤ (a0.size : Int) then (entailref1_Parse.j1 kj4 a0 (a0.extract 0 (t308 : Int).toNat) (a0.extract ((wrap64 (t308 + 1)) : Int).toNat (t309 : Int).toNat) (a0.extract ((wrap64 (t309 + 1)) : Int).toNat (t310 : Int).toNat) (a0.extract ((wrap64 (t310 + 1)) : Int).toNat (t311 : Int).toNat) (a0.extract ((wrap64 (t311 + 1)) : Int).toNat (t312 : Int).toNat) (a0.extract ((wrap64 (t312 + 1)) : Int).toNat a0.size)) else (none)) else (none)) else (none)) else (none)) else (entailref1_Parse.j1 kj4 a0 (a0.extract 0 (t308 : Int).toNat) (a0.extract ((wrap64 (t308 + 1)) : Int).toNat (t309 : Int).toNat) (a0.extract ((wrap64 (t309 + 1)) : Int).toNat (t310 : Int).toNat) (a0.extract ((wrap64 (t310 + 1)) : Int).toNat (t311 : Int).toNat) (a0.extract ((wrap64 (t311 + 1)) : Int).toNat a0.size) (⟨#[]⟩ : ByteArray))) else (none)) else (none)) else (none)) else (none)) else (none)) else (none)) else (none)) else (none)) else (none)) else (none)) else (none)) else (none)) else (none)) = some (r1, r2, r3, r4, r5, r6, r7) := H
     have A14 := Aside0.mk A140
     clear A140
     by_cases c15 : 0 ≤ t308
     ·rw [if_pos c15] at H
      have c15b0 := eq_true c15
      have c15b1 : decide (0 ≤ t308) = true := decide_eq_true c15
      clear c15
      by_cases c16 : t308 ≤ (a0.size : Int)
      ·rw [if_pos c16] at H
       have c16b0 := eq_true c16
       have c16b1 : decide (t308 ≤ (a0.size : Int)) = true := decide_eq_true c16
       clear c16
       obtain ⟨ji17, hji17⟩ : ∃ j_ : Int, (wrap64 (t308 + 1)) = j_ := ⟨_, rfl⟩
       replace H : (if 0 ≤ (ji17) then (if (ji17) ≤ t309 then (if t309 ≤ (a0.size : Int) then (if 0 ≤ (wrap64 (t309 + 1)) then (if (wrap64 (t309 + 1)) ≤ t310 then (if t310 ≤ (a0.size : Int) then (if 0 ≤ (wrap64 (t310 + 1)) then (if (wrap64 (t310 + 1)) ≤ t311 then (if t311 ≤ (a0.size : Int) then (if 0 ≤ (wrap64 (t311 + 1)) then (if (wrap64 (t311 + 1)) ≤ (a0.size : Int) then (if t312 ≥ 0 then (if (wrap64 (t311 + 1)) ≤ t312 then (if t312 ≤ (a0.size : Int) then (if 0 ≤ (wrap64 (t312 + 1)) then (if (wrap64 (t312 + 1)) ≤ (a0.size : Int) then (entailref1_Parse.j1 kj4 a0 (a0.extract 0 (t308 : Int).toNat) (a0.extract ((ji17) : Int).toNat (t309 : Int).toNat) (a0.extract ((wrap64 (t309 + 1)) : Int).toNat (t310 : Int).toNat) (a0.extract ((wrap64 (t310 + 1)) : Int).toNat (t311 : Int).toNat) (a0.extract ((wrap64 (t311 + 1)) : Int).toNat (t312 : Int).toNat) (a0.extract ((wrap64 (t312 + 1)) : Int).toNat a0.size)) else (none)) else (none)) else (none)) else (none)) else (entailref1_Parse.j1 kj4 a0 (a0.extract 0 (t308 : Int).toNat) (a0.extract ((ji17) : Int).toNat (t309 : Int).toNat) (a0.extract ((wrap64 (t309 + 1)) : Int).toNat (t310 : Int).toNat) (a0.extract ((wrap64 (t310 + 1)) : Int).toNat (t311 : Int).toNat) (a0.extract ((wrap64 (t311 + 1)) : Int).toNat a0.size) (⟨#[]⟩ : ByteArray))) else (none)) else (none)) else (none)) else (none)) else (none)) else (none)) else (none)) else (none)) else (none)) else (none)) else (none)) = some (r1, r2, r3, r4, r5, r6, r7) := by first | (rw [hji17] at H; exact H) | (simp only [hji17] at H ⊢; exact H)
       (try rw [hji17] at A11)
       (try rw [hji17] at A14)
       have hji17w : (IntKind.i64.wrap (t308 + 1)) = ji17 := (i64_w _).trans hji17
       by_cases c18 : 0 ≤ (ji17)
       ·rw [if_pos c18] at H
        have c18b0 := eq_true c18
        have c18b1 : decide (0 ≤ (ji17)) = true := decide_eq_true c18
        clear c18
        by_cases c19 : (ji17) ≤ t309
        ·rw [if_pos c19] at H
         have c19b0 := eq_true c19
         have c19b1 : decide ((ji17) ≤ t309) = true := decide_eq_true c19
         clear c19
         by_cases c20 : t309 ≤ (a0.size : Int)
         ·rw [if_pos c20] at H
          have c20b0 := eq_true c20
          have c20b1 : decide (t309 ≤ (a0.size : Int)) = true := decide_eq_true c20
          clear c20
          obtain ⟨ji21, hji21⟩ : ∃ j_ : Int, (wrap64 (t309 + 1)) = j_ := ⟨_, rfl⟩
          replace H : (if 0 ≤ (ji21) then (if (ji21) ≤ t310 then (if t310 ≤ (a0.size : Int) then (if 0 ≤ (wrap64 (t310 + 1)) then (if (wrap64 (t310 + 1)) ≤ t311 then (if t311 ≤ (a0.size : Int) then (if 0 ≤ (wrap64 (t311 + 1)) then (if (wrap64 (t311 + 1)) ≤ (a0.size : Int) then (if t312 ≥ 0 then (if (wrap64 (t311 + 1)) ≤ t312 then (if t312 ≤ (a0.size : Int) then (if 0 ≤ (wrap64 (t312 + 1)) then (if (wrap64 (t312 + 1)) ≤ (a0.size : Int) then (entailref1_Parse.j1 kj4 a0 (a0.extract 0 (t308 : Int).toNat) (a0.extract ((ji17) : Int).toNat (t309 : Int).toNat) (a0.extract ((ji21) : Int).toNat (t310 : Int).toNat) (a0.extract ((wrap64 (t310 + 1)) : Int).toNat (t311 : Int).toNat) (a0.extract ((wrap64 (t311 + 1)) : Int).toNat (t312 : Int).toNat) (a0.extract ((wrap64 (t312 + 1)) : Int).toNat a0.size)) else (none)) else (none)) else (none)) else (none)) else (entailref1_Parse.j1 kj4 a0 (a0.extract 0 (t308 : Int).toNat) (a0.extract ((ji17) : Int).toNat (t309 : Int).toNat) (a0.extract ((ji21) : Int).toNat (t310 : Int).toNat) (a0.extract ((wrap64 (t310 + 1)) : Int).toNat (t311 : Int).toNat) (a0.extract ((wrap64 (t311 + 1)) : Int).toNat a0.size) (⟨#[]⟩ : ByteArray))) else (none)) else (none)) else (none)) else (none)) else (none)) else (none)) else (none)) else (none)) = some (r1, r2, r3, r4, r5, r6, r7) := by first | (rw [hji21] at H; exact H) | (simp only [hji21] at H ⊢; exact H)
          (try rw [hji21] at A11)
          (try rw [hji21] at A14)
          have hji21w : (IntKind.i64.wrap (t309 + 1)) = ji21 := (i64_w _).trans hji21
          by_cases c22 : 0 ≤ (ji21)
          ·rw [if_pos c22] at H
           have c22b0 := eq_true c22
           have c22b1 : decide (0 ≤ (ji21)) = true := decide_eq_true c22
           clear c22
           by_cases c23 : (ji21) ≤ t310
           ·rw [if_pos c23] at H
            have c23b0 := eq_true c23
            have c23b1 : decide ((ji21) ≤ t310) = true := decide_eq_true c23
            clear c23
            by_cases c24 : t310 ≤ (a0.size : Int)
            ·rw [if_pos c24] at H
             have c24b0 := eq_true c24
             have c24b1 : decide (t310 ≤ (a0.size : Int)) = true := decide_eq_true c24
             clear c24
             obtain ⟨ji25, hji25⟩ : ∃ j_ : Int, (wrap64 (t310 + 1)) = j_ := ⟨_, rfl⟩
             replace H : (if 0 ≤ (ji25) then (if (ji25) ≤ t311 then (if t311 ≤ (a0.size : Int) then (if 0 ≤ (wrap64 (t311 + 1)) then (if (wrap64 (t311 + 1)) ≤ (a0.size : Int) then (if t312 ≥ 0 then (if (wrap64 (t311 + 1)) ≤ t312 then (if t312 ≤ (a0.size : Int) then (if 0 ≤ (wrap64 (t312 + 1)) then (if (wrap64 (t312 + 1)) ≤ (a0.size : Int) then (entailref1_Parse.j1 kj4 a0 (a0.extract 0 (t308 : Int).toNat) (a0.extract ((ji17) : Int).toNat (t309 : Int).toNat) (a0.extract ((ji21) : Int).toNat (t310 : Int).toNat) (a0.extract ((ji25) : Int).toNat (t311 : Int).toNat) (a0.extract ((wrap64 (t311 + 1)) : Int).toNat (t312 : Int).toNat) (a0.extract ((wrap64 (t312 + 1)) : Int).toNat a0.size)) else (none)) else (none)) else (none)) else (none)) else (entailref1_Parse.j1 kj4 a0 (a0.extract 0 (t308 : Int).toNat) (a0.extract ((ji17) : Int).toNat (t309 : Int).toNat) (a0.extract ((ji21) : Int).toNat (t310 : Int).toNat) (a0.extract ((ji25) : Int).toNat (t311 : Int).toNat) (a0.extract ((wrap64 (t311 + 1)) : Int).toNat a0.size) (⟨#[]⟩ : ByteArray))) else (none)) else (none)) else (none)) else (none)) else (none)) = some (r1, r2, r3, r4, r5, r6, r7) := by first | (rw [hji25] at H; exact H) | (simp only [hji25] at H ⊢; exact H)
             (try rw [hji25] at A11)
             (try rw [hji25] at A14)
             have hji25w : (IntKind.i64.wrap (t310 + 1)) = ji25 := (i64_w _).trans hji25
             by_cases c26 : 0 ≤ (ji25)
             ·rw [if_pos c26] at H
              have c26b0 := eq_true c26
              have c26b1 : decide (0 ≤ (ji25)) = true := decide_eq_true c26
              clear c26
              by_cases c27 : (ji25) ≤ t311
              ·rw [if_pos c27] at H
               have c27b0 := eq_true c27
               have c27b1 : decide ((ji25) ≤ t311) = true := decide_eq_true c27
               clear c27
               by_cases c28 : t311 ≤ (a0.size : Int)
               ·rw [if_pos c28] at H
                have c28b0 := eq_true c28
                have c28b1 : decide (t311 ≤ (a0.size : Int)) = true := decide_eq_true c28
                clear c28
                obtain ⟨ji29, hji29⟩ : ∃ j_ : Int, (wrap64 (t311 + 1)) = j_ := ⟨_, rfl⟩
                replace H : (if 0 ≤ (ji29) then (if (ji29) ≤ (a0.size : Int) then (if t312 ≥ 0 then (if (ji29) ≤ t312 then (if t312 ≤ (a0.size : Int) then (if 0 ≤ (wrap64 (t312 + 1)) then (if (wrap64 (t312 + 1)) ≤ (a0.size : Int) then (entailref1_Parse.j1 kj4 a0 (a0.extract 0 (t308 : Int).toNat) (a0.extract ((ji17) : Int).toNat (t309 : Int).toNat) (a0.extract ((ji21) : Int).toNat (t310 : Int).toNat) (a0.extract ((ji25) : Int).toNat (t311 : Int).toNat) (a0.extract ((ji29) : Int).toNat (t312 : Int).toNat) (a0.extract ((wrap64 (t312 + 1)) : Int).toNat a0.size)) else (none)) else (none)) else (none)) else (none)) else (entailref1_Parse.j1 kj4 a0 (a0.extract 0 (t308 : Int).toNat) (a0.extract ((ji17) : Int).toNat (t309 : Int).toNat) (a0.extract ((ji21) : Int).toNat (t310 : Int).toNat) (a0.extract ((ji25) : Int).toNat (t311 : Int).toNat) (a0.extract ((ji29) : Int).toNat a0.size) (⟨#[]⟩ : ByteArray))) else (none)) else (none)) = some (r1, r2, r3, r4, r5, r6, r7) := by first | (rw [hji29] at H; exact H) | (simp only [hji29] at H ⊢; exact H)
                (try rw [hji29] at A11)
                (try rw [hji29] at A14)
                have hji29w : (IntKind.i64.wrap (t311 + 1)) = ji29 := (i64_w _).trans hji29
                by_cases c30 : 0 ≤ (ji29)
                ·rw [if_pos c30] at H
                 have c30b0 := eq_true c30
                 have c30b1 : decide (0 ≤ (ji29)) = true := decide_eq_true c30
                 clear c30
                 by_cases c31 : (ji29) ≤ (a0.size : Int)
                 ·rw [if_pos c31] at H
                  have c31b0 := eq_true c31
                  have c31b1 : decide ((ji29) ≤ (a0.size : Int)) = true := decide_eq_true c31
                  clear c31
                  have HC32 := Aside0.mk H
                  clear H
                  try go_wp2_with (first | ((with_reducible refine gate_callee (f := 37) rfl ?_); refine goesL_ (some 31) rfl rfl Try.func37 (by kernel_rfl) rfl #[.string a0, .int .u8 58, .int .i64 t310] rfl (by (try simp only [List.map_toArray, List.map_cons, List.map_nil]); first | done | rfl | (simp only [List.length_drop, List.length_take]; rfl)) ?_; (with_reducible refine (entailref1_Find.calls kj4 a0 58 t310 t311 _ A11.out).mono ?_); rintro e w' ⟨rfl, ⟨nd, rfl⟩⟩; refine ⟨_, rfl, ?_⟩; (try (rw [drewN_self wc]; generalize hq_ : World.drewN wc _ = wc; have n0_ : Aside0 (wc.heap[gb307]? = some (.cells #[.string (⟨#[]⟩ : ByteArray), .string (⟨#[]⟩ : ByteArray), .string (⟨#[]⟩ : ByteArray), .string (⟨#[]⟩ : ByteArray), .string (⟨#[]⟩ : ByteArray), .string (⟨#[]⟩ : ByteArray)] 29 (0, 0))) := ⟨by rw [← hq_]; exact (by (with_reducible repeat (first | refine blk_drewN ?_ _ | refine blk_drew ?_ | refine blk_alloc ?_ _)); exact BK307.out)⟩; have n1_ : Aside0 (Below w.heap.size w wc) := ⟨by rw [← hq_]; exact (by repeat (first | (with_reducible first | exact HB.out | apply below_alloc | apply pw_below_drewN | apply below_drew1 | refine below_set ?_ GE307.out) | exact HB.out))⟩; clear BK307 HB hq_; have BK307 := n0_; have HB := n1_; clear n0_ n1_))) | ((with_reducible refine gate_callee (f := 37) rfl ?_); refine goesL_ (some 37) rfl rfl Try.func37 (by kernel_rfl) rfl #[.string a0, .int .u8 35, .int .i64 t311] rfl (by (try simp only [List.map_toArray, List.map_cons, List.map_nil]); first | done | rfl | (simp only [List.length_drop, List.length_take]; rfl)) ?_; (with_reducible refine (entailref1_Find.calls kj4 a0 35 t311 t312 _ A14.out).mono ?_); rintro e w' ⟨rfl, ⟨nd, rfl⟩⟩; refine ⟨_, rfl, ?_⟩; (try (rw [drewN_self wc]; generalize hq_ : World.drewN wc _ = wc; have n0_ : Aside0 (wc.heap[gb307]? = some (.cells #[.string (⟨#[]⟩ : ByteArray), .string (⟨#[]⟩ : ByteArray), .string (⟨#[]⟩ : ByteArray), .string (⟨#[]⟩ : ByteArray), .string (⟨#[]⟩ : ByteArray), .string (⟨#[]⟩ : ByteArray)] 29 (0, 0))) := ⟨by rw [← hq_]; exact (by (with_reducible repeat (first | refine blk_drewN ?_ _ | refine blk_drew ?_ | refine blk_alloc ?_ _)); exact BK307.out)⟩; have n1_ : Aside0 (Below w.heap.size w wc) := ⟨by rw [← hq_]; exact (by repeat (first | (with_reducible first | exact HB.out | apply below_alloc | apply pw_below_drewN | apply below_drew1 | refine below_set ?_ GE307.out) | exact HB.out))⟩; clear BK307 HB hq_; have BK307 := n0_; have HB := n1_; clear n0_ n1_))))
                  have n0_ := Aside0.mk (blk_drew BK307.out)
                  have n1_ := Aside0.mk (below_drew1 HB.out)
                  clear BK307
                  clear HB
                  have BK307 := n0_
                  have HB := n1_
                  clear n0_ n1_
                  refine start_ (n := 27) (S := fun w' => True) (ds := []) #[false, false, false, false, false, false, false, false, false, false, false, false, false, false, false, false, false, false, false, false, false, false, false, false, false, false, false] (by kernel_rfl) rfl rfl trivial (fun hHeld => ?_); refine with_tabW entailref1_Parse.tab10 entailref1_Parse.bits10 (fun HT_ HW_ => ?_)
                  generalize wc.drew = w33 at BK307 HB hHeld ⊢
                  refine pure_ (i := 0) (N := some 38) (v := ?_) (a' := ?_) #[true, false, false, false, false, false, false, false, false, false, false, false, false, false, false, false, false, false, false, false, false, false, false, false, false, false, false] rfl rfl (any_of HT_.out (by kernel_rfl)) (fun _ _ _ h => h) (Or.inl ⟨by rfl, ?_⟩) ?_ ?_
                  rotate_left
                  ·intro w'
                   go_simp
                   with_reducible rfl
                  rotate_left
                  ·simp only [Act.put, List.setIfInBounds_toArray, List.set_cons_zero, List.set_cons_succ, i64_w, i32_w]
                   rfl
                  refine pure_ (i := 1) (N := some 39) (v := ?_) (a' := ?_) #[true, true, false, false, false, false, false, false, false, false, false, false, false, false, false, false, false, false, false, false, false, false, false, false, false, false, false] rfl rfl (any_of HT_.out (by kernel_rfl)) (fun _ _ _ h => h) (Or.inl ⟨by rfl, ?_⟩) ?_ ?_
                  rotate_left
                  ·intro w'
                   go_simp
                   with_reducible rfl
                  rotate_left
                  ·simp only [Act.put, List.setIfInBounds_toArray, List.set_cons_zero, List.set_cons_succ, i64_w, i32_w]
                   rfl
                  refine pure_ (i := 2) (N := some 40) (v := ?_) (a' := ?_) #[true, true, true, false, false, false, false, false, false, false, false, false, false, false, false, false, false, false, false, false, false, false, false, false, false, false, false] rfl rfl (any_of HT_.out (by kernel_rfl)) (fun _ _ _ h => h) (Or.inl ⟨by rfl, ?_⟩) ?_ ?_
                  rotate_left
                  ·intro w'
                   go_simp
                   with_reducible rfl
                  rotate_left
                  ·simp only [Act.put, List.setIfInBounds_toArray, List.set_cons_zero, List.set_cons_succ, i64_w, i32_w]
                   rfl
                  refine pure_ (i := 3) (N := some 41) (v := ?_) (a' := ?_) #[true, true, true, true, false, false, false, false, false, false, false, false, false, false, false, false, false, false, false, false, false, false, false, false, false, false, false] rfl rfl (any_of HT_.out (by kernel_rfl)) (fun _ _ _ h => h) (Or.inl ⟨by rfl, ?_⟩) ?_ ?_
                  rotate_left
                  ·intro w'
                   go_simp
                   with_reducible rfl
                  rotate_left
                  ·simp only [Act.put, List.setIfInBounds_toArray, List.set_cons_zero, List.set_cons_succ, i64_w, i32_w]
                   rfl
                  refine pure_ (i := 4) (N := some 42) (v := ?_) (a' := ?_) #[true, true, true, true, true, false, false, false, false, false, false, false, false, false, false, false, false, false, false, false, false, false, false, false, false, false, false] rfl rfl (any_of HT_.out (by kernel_rfl)) (fun _ _ _ h => h) (Or.inl ⟨by rfl, ?_⟩) ?_ ?_
                  rotate_left
                  ·intro w'
                   go_simp
                   with_reducible rfl
                  rotate_left
                  ·simp only [Act.put, List.setIfInBounds_toArray, List.set_cons_zero, List.set_cons_succ, i64_w, i32_w]
                   rfl
                  refine pure_ (i := 5) (N := some 43) (v := ?_) (a' := ?_) #[true, true, true, true, true, true, false, false, false, false, false, false, false, false, false, false, false, false, false, false, false, false, false, false, false, false, false] rfl rfl (any_of HT_.out (by kernel_rfl)) (fun _ _ _ h => h) (Or.inl ⟨by rfl, ?_⟩) ?_ ?_
                  rotate_left
                  ·intro w'
                   go_simp
                   with_reducible rfl
                  rotate_left
                  ·simp only [Act.put, List.setIfInBounds_toArray, List.set_cons_zero, List.set_cons_succ, i64_w, i32_w]
                   rfl
                  refine pure_ (i := 6) (N := some 44) (v := ?_) (a' := ?_) #[true, true, true, true, true, true, true, false, false, false, false, false, false, false, false, false, false, false, false, false, false, false, false, false, false, false, false] rfl rfl (any_of HT_.out (by kernel_rfl)) (fun _ _ _ h => h) (Or.inl ⟨by rfl, ?_⟩) ?_ ?_
                  rotate_left
                  ·intro w'
                   go_simp
                   with_reducible rfl
                  rotate_left
                  ·simp only [Act.put, List.setIfInBounds_toArray, List.set_cons_zero, List.set_cons_succ, i64_w, i32_w]
                   rfl
                  refine pure_ (i := 7) (N := some 45) (v := ?_) (a' := ?_) #[true, true, true, true, true, true, true, true, false, false, false, false, false, false, false, false, false, false, false, false, false, false, false, false, false, false, false] rfl rfl (any_of HT_.out (by kernel_rfl)) (fun _ _ _ h => h) (Or.inl ⟨by rfl, ?_⟩) ?_ ?_
                  rotate_left
                  ·intro w'
                   go_simp
                   with_reducible rfl
                  rotate_left
                  ·simp only [Act.put, List.setIfInBounds_toArray, List.set_cons_zero, List.set_cons_succ, i64_w, i32_w]
                   rfl
                  refine pure_ (i := 8) (N := some 46) (v := ?_) (a' := ?_) #[true, true, true, true, true, true, true, true, true, false, false, false, false, false, false, false, false, false, false, false, false, false, false, false, false, false, false] rfl rfl (any_of HT_.out (by kernel_rfl)) (fun _ _ _ h => h) (Or.inl ⟨by rfl, ?_⟩) ?_ ?_
                  rotate_left
                  ·intro w'
                   go_simp
                   with_reducible rfl
                  rotate_left
                  ·simp only [Act.put, List.setIfInBounds_toArray, List.set_cons_zero, List.set_cons_succ, i64_w, i32_w]
                   rfl
                  refine pure_ (i := 9) (N := some 47) (v := ?_) (a' := ?_) #[true, true, true, true, true, true, true, true, true, true, false, false, false, false, false, false, false, false, false, false, false, false, false, false, false, false, false] rfl rfl (any_of HT_.out (by kernel_rfl)) (fun _ _ _ h => h) (Or.inl ⟨by rfl, ?_⟩) ?_ ?_
                  rotate_left
                  ·intro w'
                   go_simp
                   with_reducible rfl
                  rotate_left
                  ·simp only [Act.put, List.setIfInBounds_toArray, List.set_cons_zero, List.set_cons_succ, i64_w, i32_w]
                   rfl
                  refine pure_ (i := 10) (N := some 48) (v := ?_) (a' := ?_) #[true, true, true, true, true, true, true, true, true, true, true, false, false, false, false, false, false, false, false, false, false, false, false, false, false, false, false] rfl rfl (any_of HT_.out (by kernel_rfl)) (fun _ _ _ h => h) (Or.inl ⟨by rfl, ?_⟩) ?_ ?_
                  rotate_left
                  ·intro w'
                   go_simp
                   with_reducible rfl
                  rotate_left
                  ·simp only [Act.put, List.setIfInBounds_toArray, List.set_cons_zero, List.set_cons_succ, i64_w, i32_w]
                   rfl
                  refine pure_ (i := 11) (N := some 49) (v := ?_) (a' := ?_) #[true, true, true, true, true, true, true, true, true, true, true, true, false, false, false, false, false, false, false, false, false, false, false, false, false, false, false] rfl rfl (any_of HT_.out (by kernel_rfl)) (fun _ _ _ h => h) (Or.inl ⟨by rfl, ?_⟩) ?_ ?_
                  rotate_left
                  ·intro w'
                   go_simp
                   with_reducible rfl
                  rotate_left
                  ·simp only [Act.put, List.setIfInBounds_toArray, List.set_cons_zero, List.set_cons_succ, i64_w, i32_w]
                   rfl
                  refine pure_ (i := 12) (N := some 50) (v := ?_) (a' := ?_) #[true, true, true, true, true, true, true, true, true, true, true, true, true, false, false, false, false, false, false, false, false, false, false, false, false, false, false] rfl rfl (any_of HT_.out (by kernel_rfl)) (fun _ _ _ h => h) (Or.inl ⟨by rfl, ?_⟩) ?_ ?_
                  rotate_left
                  ·intro w'
                   go_simp
                   with_reducible rfl
                  rotate_left
                  ·simp only [Act.put, List.setIfInBounds_toArray, List.set_cons_zero, List.set_cons_succ, i64_w, i32_w]
                   rfl
                  refine pure_ (i := 13) (N := some 51) (v := ?_) (a' := ?_) #[true, true, true, true, true, true, true, true, true, true, true, true, true, true, false, false, false, false, false, false, false, false, false, false, false, false, false] rfl rfl (any_of HT_.out (by kernel_rfl)) (fun _ _ _ h => h) (Or.inl ⟨by rfl, ?_⟩) ?_ ?_
                  rotate_left
                  ·intro w'
                   go_simp
                   with_reducible rfl
                  rotate_left
                  ·simp only [Act.put, List.setIfInBounds_toArray, List.set_cons_zero, List.set_cons_succ, i64_w, i32_w]
                   rfl
                  refine pure_ (i := 14) (N := some 52) (v := ?_) (a' := ?_) #[true, true, true, true, true, true, true, true, true, true, true, true, true, true, true, false, false, false, false, false, false, false, false, false, false, false, false] rfl rfl (any_of HT_.out (by kernel_rfl)) (fun _ _ _ h => h) (Or.inl ⟨by rfl, ?_⟩) ?_ ?_
                  rotate_left
                  ·intro w'
                   go_simp
                   with_reducible rfl
                  rotate_left
                  ·simp only [Act.put, List.setIfInBounds_toArray, List.set_cons_zero, List.set_cons_succ, i64_w, i32_w]
                   rfl
                  refine pure_ (i := 15) (N := some 53) (v := ?_) (a' := ?_) #[true, true, true, true, true, true, true, true, true, true, true, true, true, true, true, true, false, false, false, false, false, false, false, false, false, false, false] rfl rfl (any_of HT_.out (by kernel_rfl)) (fun _ _ _ h => h) (Or.inl ⟨by rfl, ?_⟩) ?_ ?_
                  rotate_left
                  ·intro w'
                   go_simp
                   with_reducible rfl
                  rotate_left
                  ·simp only [Act.put, List.setIfInBounds_toArray, List.set_cons_zero, List.set_cons_succ, i64_w, i32_w]
                   rfl
                  refine pure_ (i := 16) (N := some 54) (v := ?_) (a' := ?_) #[true, true, true, true, true, true, true, true, true, true, true, true, true, true, true, true, true, false, false, false, false, false, false, false, false, false, false] rfl rfl (any_of HT_.out (by kernel_rfl)) (fun _ _ _ h => h) (Or.inl ⟨by rfl, ?_⟩) ?_ ?_
                  rotate_left
                  ·intro w'
                   go_simp
                   with_reducible rfl
                  rotate_left
                  ·simp only [Act.put, List.setIfInBounds_toArray, List.set_cons_zero, List.set_cons_succ, i64_w, i32_w]
                   rfl
                  refine pure_ (i := 17) (N := some 55) (v := ?_) (a' := ?_) #[true, true, true, true, true, true, true, true, true, true, true, true, true, true, true, true, true, true, false, false, false, false, false, false, false, false, false] rfl rfl (any_of HT_.out (by kernel_rfl)) (fun _ _ _ h => h) (Or.inl ⟨by rfl, ?_⟩) ?_ ?_
                  rotate_left
                  ·intro w'
                   go_simp
                   with_reducible rfl
                  rotate_left
                  ·simp only [Act.put, List.setIfInBounds_toArray, List.set_cons_zero, List.set_cons_succ, i64_w, i32_w]
                   rfl
                  refine pure_ (i := 18) (N := some 56) (v := ?_) (a' := ?_) #[true, true, true, true, true, true, true, true, true, true, true, true, true, true, true, true, true, true, true, false, false, false, false, false, false, false, false] rfl rfl (any_of HT_.out (by kernel_rfl)) (fun _ _ _ h => h) (Or.inl ⟨by rfl, ?_⟩) ?_ ?_
                  rotate_left
                  ·intro w'
                   go_simp
                   with_reducible rfl
                  rotate_left
                  ·simp only [Act.put, List.setIfInBounds_toArray, List.set_cons_zero, List.set_cons_succ, i64_w, i32_w]
                   rfl
                  refine pure_ (i := 19) (N := some 57) (v := ?_) (a' := ?_) #[true, true, true, true, true, true, true, true, true, true, true, true, true, true, true, true, true, true, true, true, false, false, false, false, false, false, false] rfl rfl (any_of HT_.out (by kernel_rfl)) (fun _ _ _ h => h) (Or.inl ⟨by rfl, ?_⟩) ?_ ?_
                  rotate_left
                  ·intro w'
                   go_simp
                   with_reducible rfl
                  rotate_left
                  ·simp only [Act.put, List.setIfInBounds_toArray, List.set_cons_zero, List.set_cons_succ, i64_w, i32_w]
                   rfl
                  refine pure_ (i := 20) (N := some 58) (v := ?_) (a' := ?_) #[true, true, true, true, true, true, true, true, true, true, true, true, true, true, true, true, true, true, true, true, true, false, false, false, false, false, false] rfl rfl (any_of HT_.out (by kernel_rfl)) (fun _ _ _ h => h) (Or.inl ⟨by rfl, ?_⟩) ?_ ?_
                  rotate_left
                  ·intro w'
                   go_simp
                   with_reducible rfl
                  rotate_left
                  ·simp only [Act.put, List.setIfInBounds_toArray, List.set_cons_zero, List.set_cons_succ, i64_w, i32_w]
                   rfl
                  refine pure_ (i := 21) (N := some 59) (v := ?_) (a' := ?_) #[true, true, true, true, true, true, true, true, true, true, true, true, true, true, true, true, true, true, true, true, true, true, false, false, false, false, false] rfl rfl (any_of HT_.out (by kernel_rfl)) (fun _ _ _ h => h) (Or.inl ⟨by rfl, ?_⟩) ?_ ?_
                  rotate_left
                  ·intro w'
                   go_simp
                   with_reducible rfl
                  rotate_left
                  ·simp only [Act.put, List.setIfInBounds_toArray, List.set_cons_zero, List.set_cons_succ, i64_w, i32_w]
                   rfl
                  refine pure_ (i := 22) (N := some 60) (v := ?_) (a' := ?_) #[true, true, true, true, true, true, true, true, true, true, true, true, true, true, true, true, true, true, true, true, true, true, true, false, false, false, false] rfl rfl (any_of HT_.out (by kernel_rfl)) (fun _ _ _ h => h) (Or.inl ⟨by rfl, ?_⟩) ?_ ?_
                  rotate_left
                  ·intro w'
                   go_simp
                   with_reducible rfl
                  rotate_left
                  ·simp only [Act.put, List.setIfInBounds_toArray, List.set_cons_zero, List.set_cons_succ, i64_w, i32_w]
                   rfl
                  refine pure_ (i := 23) (N := some 61) (v := ?_) (a' := ?_) #[true, true, true, true, true, true, true, true, true, true, true, true, true, true, true, true, true, true, true, true, true, true, true, true, false, false, false] rfl rfl (any_of HT_.out (by kernel_rfl)) (fun _ _ _ h => h) (Or.inl ⟨by rfl, ?_⟩) ?_ ?_
                  rotate_left
                  ·intro w'
                   go_simp
                   with_reducible rfl
                  rotate_left
                  ·simp only [Act.put, List.setIfInBounds_toArray, List.set_cons_zero, List.set_cons_succ, i64_w, i32_w]
                   rfl
                  refine pure_ (i := 24) (N := some 62) (v := ?_) (a' := ?_) #[true, true, true, true, true, true, true, true, true, true, true, true, true, true, true, true, true, true, true, true, true, true, true, true, true, false, false] rfl rfl (any_of HT_.out (by kernel_rfl)) (fun _ _ _ h => h) (Or.inl ⟨by rfl, ?_⟩) ?_ ?_
                  rotate_left
                  ·intro w'
                   go_simp
                   with_reducible rfl
                  rotate_left
                  ·simp only [Act.put, List.setIfInBounds_toArray, List.set_cons_zero, List.set_cons_succ, i64_w, i32_w]
                   rfl
                  refine one_ (i := 25) (N := some 9) #[true, true, true, true, true, true, true, true, true, true, true, true, true, true, true, true, true, true, true, true, true, true, true, true, true, true, false] rfl rfl (one_of HT_.out (by kernel_rfl)) (by decide) (fun K hK => ?_)
                  refine box_step ?hg (N := 9) ?hd (cs := #[.string (⟨#[]⟩ : ByteArray), .string (⟨#[]⟩ : ByteArray), .string (⟨#[]⟩ : ByteArray), .string (⟨#[]⟩ : ByteArray), .string (⟨#[]⟩ : ByteArray), .string (⟨#[]⟩ : ByteArray)]) (t := 29) ?hr ?_; (case hd => rfl); (case hg => rfl); (case hr => first | (go_simp; done) | (go_simp; rfl))
                  intro gb313 hg w34 hbox hb
                  have n0_ := Aside0.mk (blk_below (g := gb307) (o := .cells #[.string (⟨#[]⟩ : ByteArray), .string (⟨#[]⟩ : ByteArray), .string (⟨#[]⟩ : ByteArray), .string (⟨#[]⟩ : ByteArray), .string (⟨#[]⟩ : ByteArray), .string (⟨#[]⟩ : ByteArray)] 29 (0, 0)) (by (with_reducible repeat (first | refine blk_drewN ?_ _ | refine blk_drew ?_ | refine blk_alloc ?_ _)); exact BK307.out) hb)
                  have n1_ := Aside0.mk (below_step (by repeat (first | (with_reducible first | exact HB.out | apply below_alloc | apply pw_below_drewN | apply below_drew1 | refine below_set ?_ GE307.out) | exact HB.out)) hb)
                  have n2_ := Aside0.mk (hbox)
                  have n3_ := Aside0.mk ((by rw [hg]; exact (below_size (by repeat (first | (with_reducible first | exact HB.out | apply below_alloc | apply pw_below_drewN | apply below_drew1 | refine below_set ?_ GE307.out) | exact HB.out))) : w.heap.size ≤ gb313))
                  have n4_ := Aside0.mk ((by rw [hg]; exact (below_size (by repeat (first | (with_reducible first | exact HB.out | apply below_alloc | apply pw_below_drewN | apply below_drew1 | refine below_set ?_ GE307.out) | exact HB.out))) : w.heap.size ≤ gb313))
                  have n5_ := Aside0.mk ((by rw [hg]; exact Nat.ne_of_lt (blk_lt (g := gb307) (o := .cells #[.string (⟨#[]⟩ : ByteArray), .string (⟨#[]⟩ : ByteArray), .string (⟨#[]⟩ : ByteArray), .string (⟨#[]⟩ : ByteArray), .string (⟨#[]⟩ : ByteArray), .string (⟨#[]⟩ : ByteArray)] 29 (0, 0)) (by (with_reducible repeat (first | refine blk_drewN ?_ _ | refine blk_drew ?_ | refine blk_alloc ?_ _)); exact BK307.out)) : gb307 ≠ gb313))
                  have n6_ := Aside0.mk ((by rw [hg]; exact Nat.ne_of_gt (blk_lt (g := gb307) (o := .cells #[.string (⟨#[]⟩ : ByteArray), .string (⟨#[]⟩ : ByteArray), .string (⟨#[]⟩ : ByteArray), .string (⟨#[]⟩ : ByteArray), .string (⟨#[]⟩ : ByteArray), .string (⟨#[]⟩ : ByteArray)] 29 (0, 0)) (by (with_reducible repeat (first | refine blk_drewN ?_ _ | refine blk_drew ?_ | refine blk_alloc ?_ _)); exact BK307.out)) : gb313 ≠ gb307))
                  clear BK307
                  clear HB
                  have BK307 := n0_
                  have HB := n1_
                  have BK313 := n2_
                  have GW313 := n3_
                  have GE313 := n4_
                  have NB307_313 := n5_
                  have NB313_307 := n6_
                  clear n0_ n1_ n2_ n3_ n4_ n5_ n6_
                  clear hb hbox hg
                  refine hK.out _ _ trivial (fun hHeld => ?_)
                  clear hK K
                  refine norm_ (a' := ?_) ?_ ?_
                  rotate_left
                  ·show Act.put _ (some 9) _ = _
                   simp only [Act.put, List.setIfInBounds_toArray, List.set_cons_zero, List.set_cons_succ, i64_w, i32_w]
                   rfl
                  refine one_ (i := 26) (N := none) #[true, true, true, true, true, true, true, true, true, true, true, true, true, true, true, true, true, true, true, true, true, true, true, true, true, true, true] rfl rfl (one_of HT_.out (by kernel_rfl)) (by decide) (fun K hK => ?_)
                  have hs35 : w34.cell? ⟨gb313, 0, none⟩ = some (.string (⟨#[]⟩ : ByteArray)) := (blk_cell BK313.out 0).trans rfl
                  have hfs35 := blk_frozen BK313.out 0
                  have hns35_0 := NB307_313.out
                  have hms35_0 := NB313_307.out
                  have hs36 : w34.cell? ⟨gb313, 1, none⟩ = some (.string (⟨#[]⟩ : ByteArray)) := (blk_cell BK313.out 1).trans rfl
                  have hfs36 := blk_frozen BK313.out 1
                  have hns36_0 := NB307_313.out
                  have hms36_0 := NB313_307.out
                  have hs37 : w34.cell? ⟨gb313, 2, none⟩ = some (.string (⟨#[]⟩ : ByteArray)) := (blk_cell BK313.out 2).trans rfl
                  have hfs37 := blk_frozen BK313.out 2
                  have hns37_0 := NB307_313.out
                  have hms37_0 := NB313_307.out
                  have hs38 : w34.cell? ⟨gb313, 3, none⟩ = some (.string (⟨#[]⟩ : ByteArray)) := (blk_cell BK313.out 3).trans rfl
                  have hfs38 := blk_frozen BK313.out 3
                  have hns38_0 := NB307_313.out
                  have hms38_0 := NB313_307.out
                  have hs39 : w34.cell? ⟨gb313, 4, none⟩ = some (.string (⟨#[]⟩ : ByteArray)) := (blk_cell BK313.out 4).trans rfl
                  have hfs39 := blk_frozen BK313.out 4
                  have hns39_0 := NB307_313.out
                  have hms39_0 := NB313_307.out
                  have hs40 : w34.cell? ⟨gb313, 5, none⟩ = some (.string (⟨#[]⟩ : ByteArray)) := (blk_cell BK313.out 5).trans rfl
                  have hfs40 := blk_frozen BK313.out 5
                  have hns40_0 := NB307_313.out
                  have hms40_0 := NB313_307.out
                  refine skip_ (w1 := ?_) (by rfl) rfl ?_ ?_
                  rotate_left
                  ·go_simp
                   rfl
                  refine hK.out _ _ trivial (fun hHeld => ?_)
                  clear hK K
                  refine done_ (done_of HT_.out (by kernel_rfl)) ?_
                  go_upto_if 64 with (fail)
                  go_cut [] (fun wc => ∃ (kq : Nat) (x314004_31 : ByteArray) (x314005_31 : ByteArray), Aside0 (entailref1_Parse.j1 kq a0 (a0.extract 0 (t308 : Int).toNat) (a0.extract ((ji17) : Int).toNat (t309 : Int).toNat) (a0.extract ((ji21) : Int).toNat (t310 : Int).toNat) (a0.extract ((ji25) : Int).toNat (t311 : Int).toNat) x314004_31 x314005_31 = some (r1, r2, r3, r4, r5, r6, r7)) ∧ Aside0 (kq ≤ kj4) ∧ Aside0 (wc.heap[gb307]? = some (.cells #[.string (⟨#[]⟩ : ByteArray), .string (⟨#[]⟩ : ByteArray), .string (⟨#[]⟩ : ByteArray), .string (⟨#[]⟩ : ByteArray), .string (⟨#[]⟩ : ByteArray), .string (⟨#[]⟩ : ByteArray)] 29 (0, 0))) ∧ Aside0 (wc.heap[gb313]? = some (.cells #[.string (a0.extract 0 (t308 : Int).toNat), .string (a0.extract ((ji17) : Int).toNat (t309 : Int).toNat), .string (a0.extract ((ji21) : Int).toNat (t310 : Int).toNat), .string (a0.extract ((ji25) : Int).toNat (t311 : Int).toNat), .string x314004_31, .string x314005_31] 29 (0, 0))) ∧ Aside0 (Below w.heap.size w wc))
                  case first =>
                   have H := HC32.out
                   clear HC32
                   by_cases c41 : t312 ≥ 0
                   ·rw [if_pos c41] at H
                    have c41b0 : decide (0 ≤ t312) = true := decide_eq_true c41
                    clear c41
                    (first | rw [c41b0] | (simp only [i64_w, i32_w]; rw [c41b0]) | skip)
                    have c42b0 := eq_true (of_decide_eq_true (by first | (with_reducible assumption) | assumption) : 0 ≤ (ji29))
                    by_cases c43 : (ji29) ≤ t312
                    ·rw [if_pos c43] at H
                     have c43b0 := eq_true c43
                     have c43b1 : decide ((ji29) ≤ t312) = true := decide_eq_true c43
                     clear c43
                     by_cases c44 : t312 ≤ (a0.size : Int)
                     ·rw [if_pos c44] at H
                      have c44b0 := eq_true c44
                      have c44b1 : decide (t312 ≤ (a0.size : Int)) = true := decide_eq_true c44
                      clear c44
                      obtain ⟨ji45, hji45⟩ : ∃ j_ : Int, (wrap64 (t312 + 1)) = j_ := ⟨_, rfl⟩
                      replace H : (if 0 ≤ (ji45) then (if (ji45) ≤ (a0.size : Int) then (entailref1_Parse.j1 kj4 a0 (a0.extract 0 (t308 : Int).toNat) (a0.extract ((ji17) : Int).toNat (t309 : Int).toNat) (a0.extract ((ji21) : Int).toNat (t310 : Int).toNat) (a0.extract ((ji25) : Int).toNat (t311 : Int).toNat) (a0.extract ((ji29) : Int).toNat (t312 : Int).toNat) (a0.extract ((ji45) : Int).toNat a0.size)) else (none)) else (none)) = some (r1, r2, r3, r4, r5, r6, r7) := by first | (rw [hji45] at H; exact H) | (simp only [hji45] at H ⊢; exact H)
                      have hji45w : (IntKind.i64.wrap (t312 + 1)) = ji45 := (i64_w _).trans hji45
                      by_cases c46 : 0 ≤ (ji45)
                      ·rw [if_pos c46] at H
                       have c46b0 := eq_true c46
                       have c46b1 : decide (0 ≤ (ji45)) = true := decide_eq_true c46
                       clear c46
                       by_cases c47 : (ji45) ≤ (a0.size : Int)
                       ·rw [if_pos c47] at H
                        have c47b0 := eq_true c47
                        have c47b1 : decide ((ji45) ≤ (a0.size : Int)) = true := decide_eq_true c47
                        clear c47
                        have H' := Aside0.mk H
                        clear H
                        try go_wp2
                        have n0_ : Aside0 (((((((w34.setCell ⟨gb313, 0, none⟩ (.string (a0.extract 0 (t308 : Int).toNat))).setCell ⟨gb313, 1, none⟩ (.string (a0.extract ((ji17) : Int).toNat (t309 : Int).toNat))).setCell ⟨gb313, 2, none⟩ (.string (a0.extract ((ji21) : Int).toNat (t310 : Int).toNat))).setCell ⟨gb313, 3, none⟩ (.string (a0.extract ((ji25) : Int).toNat (t311 : Int).toNat))).setCell ⟨gb313, 4, none⟩ (.string (a0.extract ((ji29) : Int).toNat a0.size))).setCell ⟨gb313, 5, none⟩ (.string (⟨#[]⟩ : ByteArray))).heap[gb307]? = some (.cells #[.string (⟨#[]⟩ : ByteArray), .string (⟨#[]⟩ : ByteArray), .string (⟨#[]⟩ : ByteArray), .string (⟨#[]⟩ : ByteArray), .string (⟨#[]⟩ : ByteArray), .string (⟨#[]⟩ : ByteArray)] 29 (0, 0))) := ⟨by (with_reducible repeat (first | refine blk_drewN ?_ _ | refine blk_drew ?_ | refine blk_alloc ?_ _)); refine blk_far ?_ NB307_313.out _; (with_reducible repeat (first | refine blk_drewN ?_ _ | refine blk_drew ?_ | refine blk_alloc ?_ _)); refine blk_far ?_ NB307_313.out _; (with_reducible repeat (first | refine blk_drewN ?_ _ | refine blk_drew ?_ | refine blk_alloc ?_ _)); refine blk_far ?_ NB307_313.out _; (with_reducible repeat (first | refine blk_drewN ?_ _ | refine blk_drew ?_ | refine blk_alloc ?_ _)); refine blk_far ?_ NB307_313.out _; (with_reducible repeat (first | refine blk_drewN ?_ _ | refine blk_drew ?_ | refine blk_alloc ?_ _)); refine blk_far ?_ NB307_313.out _; (with_reducible repeat (first | refine blk_drewN ?_ _ | refine blk_drew ?_ | refine blk_alloc ?_ _)); refine blk_far ?_ NB307_313.out _; (with_reducible repeat (first | refine blk_drewN ?_ _ | refine blk_drew ?_ | refine blk_alloc ?_ _)); exact BK307.out⟩
                        have n1_ : Aside0 (((((((w34.setCell ⟨gb313, 0, none⟩ (.string (a0.extract 0 (t308 : Int).toNat))).setCell ⟨gb313, 1, none⟩ (.string (a0.extract ((ji17) : Int).toNat (t309 : Int).toNat))).setCell ⟨gb313, 2, none⟩ (.string (a0.extract ((ji21) : Int).toNat (t310 : Int).toNat))).setCell ⟨gb313, 3, none⟩ (.string (a0.extract ((ji25) : Int).toNat (t311 : Int).toNat))).setCell ⟨gb313, 4, none⟩ (.string (a0.extract ((ji29) : Int).toNat a0.size))).setCell ⟨gb313, 5, none⟩ (.string (⟨#[]⟩ : ByteArray))).heap[gb313]? = some (.cells #[.string (a0.extract 0 (t308 : Int).toNat), .string (a0.extract ((ji17) : Int).toNat (t309 : Int).toNat), .string (a0.extract ((ji21) : Int).toNat (t310 : Int).toNat), .string (a0.extract ((ji25) : Int).toNat (t311 : Int).toNat), .string (a0.extract ((ji29) : Int).toNat a0.size), .string (⟨#[]⟩ : ByteArray)] 29 (0, 0))) := ⟨by (with_reducible repeat (first | refine blk_drewN ?_ _ | refine blk_drew ?_ | refine blk_alloc ?_ _)); refine blk_put (cs := #[.string (a0.extract 0 (t308 : Int).toNat), .string (a0.extract ((ji17) : Int).toNat (t309 : Int).toNat), .string (a0.extract ((ji21) : Int).toNat (t310 : Int).toNat), .string (a0.extract ((ji25) : Int).toNat (t311 : Int).toNat), .string (a0.extract ((ji29) : Int).toNat a0.size), .string (⟨#[]⟩ : ByteArray)]) ?_ 5 _ rfl; (with_reducible repeat (first | refine blk_drewN ?_ _ | refine blk_drew ?_ | refine blk_alloc ?_ _)); refine blk_put (cs := #[.string (a0.extract 0 (t308 : Int).toNat), .string (a0.extract ((ji17) : Int).toNat (t309 : Int).toNat), .string (a0.extract ((ji21) : Int).toNat (t310 : Int).toNat), .string (a0.extract ((ji25) : Int).toNat (t311 : Int).toNat), .string (⟨#[]⟩ : ByteArray), .string (⟨#[]⟩ : ByteArray)]) ?_ 4 _ rfl; (with_reducible repeat (first | refine blk_drewN ?_ _ | refine blk_drew ?_ | refine blk_alloc ?_ _)); refine blk_put (cs := #[.string (a0.extract 0 (t308 : Int).toNat), .string (a0.extract ((ji17) : Int).toNat (t309 : Int).toNat), .string (a0.extract ((ji21) : Int).toNat (t310 : Int).toNat), .string (⟨#[]⟩ : ByteArray), .string (⟨#[]⟩ : ByteArray), .string (⟨#[]⟩ : ByteArray)]) ?_ 3 _ rfl; (with_reducible repeat (first | refine blk_drewN ?_ _ | refine blk_drew ?_ | refine blk_alloc ?_ _)); refine blk_put (cs := #[.string (a0.extract 0 (t308 : Int).toNat), .string (a0.extract ((ji17) : Int).toNat (t309 : Int).toNat), .string (⟨#[]⟩ : ByteArray), .string (⟨#[]⟩ : ByteArray), .string (⟨#[]⟩ : ByteArray), .string (⟨#[]⟩ : ByteArray)]) ?_ 2 _ rfl; (with_reducible repeat (first | refine blk_drewN ?_ _ | refine blk_drew ?_ | refine blk_alloc ?_ _)); refine blk_put (cs := #[.string (a0.extract 0 (t308 : Int).toNat), .string (⟨#[]⟩ : ByteArray), .string (⟨#[]⟩ : ByteArray), .string (⟨#[]⟩ : ByteArray), .string (⟨#[]⟩ : ByteArray), .string (⟨#[]⟩ : ByteArray)]) ?_ 1 _ rfl; (with_reducible repeat (first | refine blk_drewN ?_ _ | refine blk_drew ?_ | refine blk_alloc ?_ _)); refine blk_put (cs := #[.string (⟨#[]⟩ : ByteArray), .string (⟨#[]⟩ : ByteArray), .string (⟨#[]⟩ : ByteArray), .string (⟨#[]⟩ : ByteArray), .string (⟨#[]⟩ : ByteArray), .string (⟨#[]⟩ : ByteArray)]) ?_ 0 _ rfl; (with_reducible repeat (first | refine blk_drewN ?_ _ | refine blk_drew ?_ | refine blk_alloc ?_ _)); exact BK313.out⟩
                        have n2_ : Aside0 (Below w.heap.size w ((((((w34.setCell ⟨gb313, 0, none⟩ (.string (a0.extract 0 (t308 : Int).toNat))).setCell ⟨gb313, 1, none⟩ (.string (a0.extract ((ji17) : Int).toNat (t309 : Int).toNat))).setCell ⟨gb313, 2, none⟩ (.string (a0.extract ((ji21) : Int).toNat (t310 : Int).toNat))).setCell ⟨gb313, 3, none⟩ (.string (a0.extract ((ji25) : Int).toNat (t311 : Int).toNat))).setCell ⟨gb313, 4, none⟩ (.string (a0.extract ((ji29) : Int).toNat a0.size))).setCell ⟨gb313, 5, none⟩ (.string (⟨#[]⟩ : ByteArray)))) := ⟨by repeat (first | (with_reducible first | exact HB.out | apply below_alloc | apply pw_below_drewN | apply below_drew1 | refine below_set ?_ GE307.out | refine below_set ?_ GE313.out) | exact HB.out)⟩
                        (try clear BK307)
                        (try clear BK313)
                        (try clear HB)
                        generalize ((((((w34.setCell ⟨gb313, 0, none⟩ (.string (a0.extract 0 (t308 : Int).toNat))).setCell ⟨gb313, 1, none⟩ (.string (a0.extract ((ji17) : Int).toNat (t309 : Int).toNat))).setCell ⟨gb313, 2, none⟩ (.string (a0.extract ((ji21) : Int).toNat (t310 : Int).toNat))).setCell ⟨gb313, 3, none⟩ (.string (a0.extract ((ji25) : Int).toNat (t311 : Int).toNat))).setCell ⟨gb313, 4, none⟩ (.string (a0.extract ((ji29) : Int).toNat a0.size))).setCell ⟨gb313, 5, none⟩ (.string (⟨#[]⟩ : ByteArray))) = w48 at n0_ n1_ n2_ ⊢
                        have BK307 := n0_
                        have BK313 := n1_
                        have HB := n2_
                        clear n0_ n1_ n2_
                        have n0_ := Aside0.mk (blk_drew BK307.out)
                        have n1_ := Aside0.mk (blk_drew BK313.out)
                        have n2_ := Aside0.mk (below_drew1 HB.out)
                        clear BK307
                        clear BK313
                        clear HB
                        have BK307 := n0_
                        have BK313 := n1_
                        have HB := n2_
                        clear n0_ n1_ n2_
                        refine start_ (n := 15) (S := fun w' => True) (ds := []) #[false, false, false, false, false, false, false, false, false, false, false, false, false, false, false] (by kernel_rfl) rfl rfl trivial (fun hHeld => ?_); refine with_tabW entailref1_Parse.tab12 entailref1_Parse.bits12 (fun HT_ HW_ => ?_)
                        generalize w48.drew = w49 at BK307 BK313 HB hHeld ⊢
                        refine pure_ (i := 0) (N := some 65) (v := ?_) (a' := ?_) #[true, false, false, false, false, false, false, false, false, false, false, false, false, false, false] rfl rfl (any_of HT_.out (by kernel_rfl)) (fun _ _ _ h => h) (Or.inl ⟨by rfl, ?_⟩) ?_ ?_
                        rotate_left
                        ·intro w'
                         go_simp
                         with_reducible rfl
                        rotate_left
                        ·simp only [Act.put, List.setIfInBounds_toArray, List.set_cons_zero, List.set_cons_succ, i64_w, i32_w]
                         rfl
                        refine pure_ (i := 1) (N := some 66) (v := ?_) (a' := ?_) #[true, true, false, false, false, false, false, false, false, false, false, false, false, false, false] rfl rfl (any_of HT_.out (by kernel_rfl)) (fun _ _ _ h => h) (Or.inl ⟨by rfl, ?_⟩) ?_ ?_
                        rotate_left
                        ·intro w'
                         go_simp
                         with_reducible rfl
                        rotate_left
                        ·simp only [Act.put, List.setIfInBounds_toArray, List.set_cons_zero, List.set_cons_succ, i64_w, i32_w]
                         rfl
                        refine pure_ (i := 2) (N := some 67) (v := ?_) (a' := ?_) #[true, true, true, false, false, false, false, false, false, false, false, false, false, false, false] rfl rfl (any_of HT_.out (by kernel_rfl)) (fun _ _ _ h => h) (Or.inl ⟨by rfl, ?_⟩) ?_ ?_
                        rotate_left
                        ·intro w'
                         go_simp
                         with_reducible rfl
                        rotate_left
                        ·simp only [Act.put, List.setIfInBounds_toArray, List.set_cons_zero, List.set_cons_succ, i64_w, i32_w]
                         rfl
                        refine pure_ (i := 3) (N := some 68) (v := ?_) (a' := ?_) #[true, true, true, true, false, false, false, false, false, false, false, false, false, false, false] rfl rfl (any_of HT_.out (by kernel_rfl)) (fun _ _ _ h => h) (Or.inl ⟨by rfl, ?_⟩) ?_ ?_
                        rotate_left
                        ·intro w'
                         go_simp
                         with_reducible rfl
                        rotate_left
                        ·simp only [Act.put, List.setIfInBounds_toArray, List.set_cons_zero, List.set_cons_succ, i64_w, i32_w]
                         rfl
                        refine pure_ (i := 4) (N := some 69) (v := ?_) (a' := ?_) #[true, true, true, true, true, false, false, false, false, false, false, false, false, false, false] rfl rfl (any_of HT_.out (by kernel_rfl)) (fun _ _ _ h => h) (Or.inl ⟨by rfl, ?_⟩) ?_ ?_
                        rotate_left
                        ·intro w'
                         go_simp
                         with_reducible rfl
                        rotate_left
                        ·simp only [Act.put, List.setIfInBounds_toArray, List.set_cons_zero, List.set_cons_succ, i64_w, i32_w]
                         rfl
                        refine pure_ (i := 5) (N := some 70) (v := ?_) (a' := ?_) #[true, true, true, true, true, true, false, false, false, false, false, false, false, false, false] rfl rfl (any_of HT_.out (by kernel_rfl)) (fun _ _ _ h => h) (Or.inl ⟨by rfl, ?_⟩) ?_ ?_
                        rotate_left
                        ·intro w'
                         go_simp
                         with_reducible rfl
                        rotate_left
                        ·simp only [Act.put, List.setIfInBounds_toArray, List.set_cons_zero, List.set_cons_succ, i64_w, i32_w]
                         rfl
                        refine pure_ (i := 6) (N := some 71) (v := ?_) (a' := ?_) #[true, true, true, true, true, true, true, false, false, false, false, false, false, false, false] rfl rfl (any_of HT_.out (by kernel_rfl)) (fun _ _ _ h => h) (Or.inl ⟨by rfl, ?_⟩) ?_ ?_
                        rotate_left
                        ·intro w'
                         go_simp
                         with_reducible rfl
                        rotate_left
                        ·simp only [Act.put, List.setIfInBounds_toArray, List.set_cons_zero, List.set_cons_succ, i64_w, i32_w]
                         rfl
                        refine pure_ (i := 7) (N := some 72) (v := ?_) (a' := ?_) #[true, true, true, true, true, true, true, true, false, false, false, false, false, false, false] rfl rfl (any_of HT_.out (by kernel_rfl)) (fun _ _ _ h => h) (Or.inl ⟨by rfl, ?_⟩) ?_ ?_
                        rotate_left
                        ·intro w'
                         go_simp
                         with_reducible rfl
                        rotate_left
                        ·simp only [Act.put, List.setIfInBounds_toArray, List.set_cons_zero, List.set_cons_succ, i64_w, i32_w]
                         rfl
                        refine pure_ (i := 8) (N := some 73) (v := ?_) (a' := ?_) #[true, true, true, true, true, true, true, true, true, false, false, false, false, false, false] rfl rfl (any_of HT_.out (by kernel_rfl)) (fun _ _ _ h => h) (Or.inl ⟨by rfl, ?_⟩) ?_ ?_
                        rotate_left
                        ·intro w'
                         go_simp
                         with_reducible rfl
                        rotate_left
                        ·simp only [Act.put, List.setIfInBounds_toArray, List.set_cons_zero, List.set_cons_succ, i64_w, i32_w]
                         rfl
                        refine pure_ (i := 9) (N := some 74) (v := ?_) (a' := ?_) #[true, true, true, true, true, true, true, true, true, true, false, false, false, false, false] rfl rfl (any_of HT_.out (by kernel_rfl)) (fun _ _ _ h => h) (Or.inl ⟨by rfl, ?_⟩) ?_ ?_
                        rotate_left
                        ·intro w'
                         go_simp
                         with_reducible rfl
                        rotate_left
                        ·simp only [Act.put, List.setIfInBounds_toArray, List.set_cons_zero, List.set_cons_succ, i64_w, i32_w]
                         rfl
                        refine pure_ (i := 10) (N := some 75) (v := ?_) (a' := ?_) #[true, true, true, true, true, true, true, true, true, true, true, false, false, false, false] rfl rfl (any_of HT_.out (by kernel_rfl)) (fun _ _ _ h => h) (Or.inl ⟨by rfl, ?_⟩) ?_ ?_
                        rotate_left
                        ·intro w'
                         go_simp
                         with_reducible rfl
                        rotate_left
                        ·simp only [Act.put, List.setIfInBounds_toArray, List.set_cons_zero, List.set_cons_succ, i64_w, i32_w]
                         rfl
                        refine one_ (i := 11) (N := none) #[true, true, true, true, true, true, true, true, true, true, true, true, false, false, false] rfl rfl (one_of HT_.out (by kernel_rfl)) (by decide) (fun K hK => ?_)
                        have hs50 : w49.cell? ⟨gb313, 4, none⟩ = some (.string (a0.extract ((ji29) : Int).toNat a0.size)) := (blk_cell BK313.out 4).trans rfl
                        have hfs50 := blk_frozen BK313.out 4
                        have hns50_0 := NB307_313.out
                        have hms50_0 := NB313_307.out
                        refine skip_ (w1 := ?_) (by rfl) rfl ?_ ?_
                        rotate_left
                        ·go_simp
                         rfl
                        refine hK.out _ _ trivial (fun hHeld => ?_)
                        clear hK K
                        refine pure_ (i := 12) (N := some 76) (v := ?_) (a' := ?_) #[true, true, true, true, true, true, true, true, true, true, true, true, true, false, false] rfl rfl (any_of HT_.out (by kernel_rfl)) (fun _ _ _ h => h) (Or.inl ⟨by rfl, ?_⟩) ?_ ?_
                        rotate_left
                        ·intro w'
                         go_simp
                         with_reducible rfl
                        rotate_left
                        ·simp only [Act.put, List.setIfInBounds_toArray, List.set_cons_zero, List.set_cons_succ, i64_w, i32_w]
                         rfl
                        refine pure_ (i := 13) (N := some 77) (v := ?_) (a' := ?_) #[true, true, true, true, true, true, true, true, true, true, true, true, true, true, false] rfl rfl (any_of HT_.out (by kernel_rfl)) (fun _ _ _ h => h) (Or.inl ⟨by rfl, ?_⟩) ?_ ?_
                        rotate_left
                        ·intro w'
                         go_simp
                         with_reducible rfl
                        rotate_left
                        ·simp only [Act.put, List.setIfInBounds_toArray, List.set_cons_zero, List.set_cons_succ, i64_w, i32_w]
                         rfl
                        refine one_ (i := 14) (N := none) #[true, true, true, true, true, true, true, true, true, true, true, true, true, true, true] rfl rfl (one_of HT_.out (by kernel_rfl)) (by decide) (fun K hK => ?_)
                        have hs51 : w49.cell? ⟨gb313, 5, none⟩ = some (.string (⟨#[]⟩ : ByteArray)) := (blk_cell BK313.out 5).trans rfl
                        have hfs51 := blk_frozen BK313.out 5
                        have hns51_0 := NB307_313.out
                        have hms51_0 := NB313_307.out
                        refine skip_ (w1 := ?_) (by rfl) rfl ?_ ?_
                        rotate_left
                        ·go_simp
                         rfl
                        refine hK.out _ _ trivial (fun hHeld => ?_)
                        clear hK K
                        refine done_ (done_of HT_.out (by kernel_rfl)) ?_
                        try go_wp2
                        go_meet
                        case rel => exact ⟨_, (a0.extract ((ji29) : Int).toNat (t312 : Int).toNat), (a0.extract ((ji45) : Int).toNat a0.size), (by first | exact H' | (have h_ := H'; simp only [hji17, hji21, hji25, hji29, hji45] at h_ ⊢; exact h_) | (have h_ := H'; simp only [← hji17, ← hji21, ← hji25, ← hji29, ← hji45] at h_ ⊢; exact h_)), ⟨by have := HJ4.out; first | omega | exact Nat.le_refl _⟩, ⟨by (with_reducible repeat (first | refine blk_drewN ?_ _ | refine blk_drew ?_ | refine blk_alloc ?_ _)); refine blk_far ?_ NB307_313.out _; (with_reducible repeat (first | refine blk_drewN ?_ _ | refine blk_drew ?_ | refine blk_alloc ?_ _)); refine blk_far ?_ NB307_313.out _; (with_reducible repeat (first | refine blk_drewN ?_ _ | refine blk_drew ?_ | refine blk_alloc ?_ _)); exact BK307.out⟩, ⟨by (with_reducible repeat (first | refine blk_drewN ?_ _ | refine blk_drew ?_ | refine blk_alloc ?_ _)); refine blk_put (cs := #[.string (a0.extract 0 (t308 : Int).toNat), .string (a0.extract ((ji17) : Int).toNat (t309 : Int).toNat), .string (a0.extract ((ji21) : Int).toNat (t310 : Int).toNat), .string (a0.extract ((ji25) : Int).toNat (t311 : Int).toNat), .string (a0.extract ((ji29) : Int).toNat (t312 : Int).toNat), .string (⟨#[]⟩ : ByteArray)]) ?_ 5 _ rfl; (with_reducible repeat (first | refine blk_drewN ?_ _ | refine blk_drew ?_ | refine blk_alloc ?_ _)); refine blk_put (cs := #[.string (a0.extract 0 (t308 : Int).toNat), .string (a0.extract ((ji17) : Int).toNat (t309 : Int).toNat), .string (a0.extract ((ji21) : Int).toNat (t310 : Int).toNat), .string (a0.extract ((ji25) : Int).toNat (t311 : Int).toNat), .string (a0.extract ((ji29) : Int).toNat a0.size), .string (⟨#[]⟩ : ByteArray)]) ?_ 4 _ rfl; (with_reducible repeat (first | refine blk_drewN ?_ _ | refine blk_drew ?_ | refine blk_alloc ?_ _)); exact BK313.out⟩, ⟨by repeat (first | (with_reducible first | exact HB.out | apply below_alloc | apply pw_below_drewN | apply below_drew1 | refine below_set ?_ GE307.out | refine below_set ?_ GE313.out) | exact HB.out)⟩⟩
                       ·rw [if_neg c47] at H
                        exact absurd H (by simp)
                      ·rw [if_neg c46] at H
                       exact absurd H (by simp)
                     ·rw [if_neg c44] at H
                      exact absurd H (by simp)
                    ·rw [if_neg c43] at H
                     exact absurd H (by simp)
                   ·rw [if_neg c41] at H
                    have c41b0 : decide (0 ≤ t312) = false := decide_eq_false c41
                    clear c41
                    (first | rw [c41b0] | (simp only [i64_w, i32_w]; rw [c41b0]) | skip)
                    have H' := Aside0.mk H
                    clear H
                    go_wp2
                    go_meet
                    case rel => exact ⟨_, (a0.extract ((ji29) : Int).toNat a0.size), ((⟨#[]⟩ : ByteArray)), (by first | exact H' | (have h_ := H'; simp only [hji17, hji21, hji25, hji29] at h_ ⊢; exact h_) | (have h_ := H'; simp only [← hji17, ← hji21, ← hji25, ← hji29] at h_ ⊢; exact h_)), ⟨by have := HJ4.out; first | omega | exact Nat.le_refl _⟩, ⟨by (with_reducible repeat (first | refine blk_drewN ?_ _ | refine blk_drew ?_ | refine blk_alloc ?_ _)); refine blk_far ?_ NB307_313.out _; (with_reducible repeat (first | refine blk_drewN ?_ _ | refine blk_drew ?_ | refine blk_alloc ?_ _)); refine blk_far ?_ NB307_313.out _; (with_reducible repeat (first | refine blk_drewN ?_ _ | refine blk_drew ?_ | refine blk_alloc ?_ _)); refine blk_far ?_ NB307_313.out _; (with_reducible repeat (first | refine blk_drewN ?_ _ | refine blk_drew ?_ | refine blk_alloc ?_ _)); refine blk_far ?_ NB307_313.out _; (with_reducible repeat (first | refine blk_drewN ?_ _ | refine blk_drew ?_ | refine blk_alloc ?_ _)); refine blk_far ?_ NB307_313.out _; (with_reducible repeat (first | refine blk_drewN ?_ _ | refine blk_drew ?_ | refine blk_alloc ?_ _)); refine blk_far ?_ NB307_313.out _; (with_reducible repeat (first | refine blk_drewN ?_ _ | refine blk_drew ?_ | refine blk_alloc ?_ _)); exact BK307.out⟩, ⟨by (with_reducible repeat (first | refine blk_drewN ?_ _ | refine blk_drew ?_ | refine blk_alloc ?_ _)); refine blk_put (cs := #[.string (a0.extract 0 (t308 : Int).toNat), .string (a0.extract ((ji17) : Int).toNat (t309 : Int).toNat), .string (a0.extract ((ji21) : Int).toNat (t310 : Int).toNat), .string (a0.extract ((ji25) : Int).toNat (t311 : Int).toNat), .string (a0.extract ((ji29) : Int).toNat a0.size), .string (⟨#[]⟩ : ByteArray)]) ?_ 5 _ rfl; (with_reducible repeat (first | refine blk_drewN ?_ _ | refine blk_drew ?_ | refine blk_alloc ?_ _)); refine blk_put (cs := #[.string (a0.extract 0 (t308 : Int).toNat), .string (a0.extract ((ji17) : Int).toNat (t309 : Int).toNat), .string (a0.extract ((ji21) : Int).toNat (t310 : Int).toNat), .string (a0.extract ((ji25) : Int).toNat (t311 : Int).toNat), .string (⟨#[]⟩ : ByteArray), .string (⟨#[]⟩ : ByteArray)]) ?_ 4 _ rfl; (with_reducible repeat (first | refine blk_drewN ?_ _ | refine blk_drew ?_ | refine blk_alloc ?_ _)); refine blk_put (cs := #[.string (a0.extract 0 (t308 : Int).toNat), .string (a0.extract ((ji17) : Int).toNat (t309 : Int).toNat), .string (a0.extract ((ji21) : Int).toNat (t310 : Int).toNat), .string (⟨#[]⟩ : ByteArray), .string (⟨#[]⟩ : ByteArray), .string (⟨#[]⟩ : ByteArray)]) ?_ 3 _ rfl; (with_reducible repeat (first | refine blk_drewN ?_ _ | refine blk_drew ?_ | refine blk_alloc ?_ _)); refine blk_put (cs := #[.string (a0.extract 0 (t308 : Int).toNat), .string (a0.extract ((ji17) : Int).toNat (t309 : Int).toNat), .string (⟨#[]⟩ : ByteArray), .string (⟨#[]⟩ : ByteArray), .string (⟨#[]⟩ : ByteArray), .string (⟨#[]⟩ : ByteArray)]) ?_ 2 _ rfl; (with_reducible repeat (first | refine blk_drewN ?_ _ | refine blk_drew ?_ | refine blk_alloc ?_ _)); refine blk_put (cs := #[.string (a0.extract 0 (t308 : Int).toNat), .string (⟨#[]⟩ : ByteArray), .string (⟨#[]⟩ : ByteArray), .string (⟨#[]⟩ : ByteArray), .string (⟨#[]⟩ : ByteArray), .string (⟨#[]⟩ : ByteArray)]) ?_ 1 _ rfl; (with_reducible repeat (first | refine blk_drewN ?_ _ | refine blk_drew ?_ | refine blk_alloc ?_ _)); refine blk_put (cs := #[.string (⟨#[]⟩ : ByteArray), .string (⟨#[]⟩ : ByteArray), .string (⟨#[]⟩ : ByteArray), .string (⟨#[]⟩ : ByteArray), .string (⟨#[]⟩ : ByteArray), .string (⟨#[]⟩ : ByteArray)]) ?_ 0 _ rfl; (with_reducible repeat (first | refine blk_drewN ?_ _ | refine blk_drew ?_ | refine blk_alloc ?_ _)); exact BK313.out⟩, ⟨by repeat (first | (with_reducible first | exact HB.out | apply below_alloc | apply pw_below_drewN | apply below_drew1 | refine below_set ?_ GE307.out | refine below_set ?_ GE313.out) | exact HB.out)⟩⟩
                  case rest =>
                   clear HC32
                   try clear c1
                   try clear c2
                   try clear p2
                   try clear c3
                   try clear c4
                   try clear p6
                   try clear c9
                   try clear c12
                   try clear c12b0
                   try clear c15
                   try clear c15b0
                   try clear c15b1
                   try clear c16
                   try clear c16b0
                   try clear c16b1
                   try clear c18
                   try clear c18b0
                   try clear c18b1
                   try clear c19
                   try clear c19b0
                   try clear c19b1
                   try clear c20
                   try clear c20b0
                   try clear c20b1
                   try clear c22
                   try clear c22b0
                   try clear c22b1
                   try clear c23
                   try clear c23b0
                   try clear c23b1
                   try clear c24
                   try clear c24b0
                   try clear c24b1
                   try clear c26
                   try clear c26b0
                   try clear c26b1
                   try clear c27
                   try clear c27b0
                   try clear c27b1
                   try clear c28
                   try clear c28b0
                   try clear c28b1
                   try clear c30
                   try clear c30b0
                   try clear c30b1
                   try clear c31
                   try clear c31b0
                   try clear c31b1
                   try clear c37
                   try clear c41
                   try clear c41b0
                   try clear c42
                   try clear c42b0
                   try clear c43
                   try clear c43b0
                   try clear c43b1
                   try clear c44
                   try clear c44b0
                   try clear c44b1
                   try clear c46
                   try clear c46b0
                   try clear c46b1
                   try clear c47
                   try clear c47b0
                   try clear c47b1
                   try clear hcz13_0
                   try clear hcz13_1
                   try clear hcz13_2
                   try clear hcz13_3
                   try clear hcz13_4
                   try clear hcz13_5
                   try clear hfz10_3
                   try clear hfz10_4
                   try clear hfz10_5
                   try clear hfz13_0
                   try clear hfz13_1
                   try clear hfz13_2
                   try clear hfz13_3
                   try clear hfz13_4
                   try clear hfz13_5
                   obtain ⟨kq, x314004_31, x314005_31, HA, HJ31, BK307, BK313, HB⟩ := hcut
                   cases kq with
                   | zero => exact absurd HA.out (by simp [entailref1_Parse.j1])
                   | succ kj31 =>
                    have H := HA.out
                    clear HA
                    simp only [entailref1_Parse.j1] at H
                    replace H := Option.bind_eq_some_iff.mp H
                    obtain ⟨t314, A520, H⟩ := H
                    replace H : (if t314.toList = a0.toList then (if a0.toList = ([] : List UInt8) then (some ((⟨#[]⟩ : ByteArray), (⟨#[]⟩ : ByteArray), (⟨#[]⟩ : ByteArray), (⟨#[]⟩ : ByteArray), (⟨#[]⟩ : ByteArray), (⟨#[]⟩ : ByteArray), false)) else (some ((a0.extract 0 (t308 : Int).toNat), (a0.extract ((ji17) : Int).toNat (t309 : Int).toNat), (a0.extract ((ji21) : Int).toNat (t310 : Int).toNat), (a0.extract ((ji25) : Int).toNat (t311 : Int).toNat), x314004_31, x314005_31, true))) else (some ((⟨#[]⟩ : ByteArray), (⟨#[]⟩ : ByteArray), (⟨#[]⟩ : ByteArray), (⟨#[]⟩ : ByteArray), (⟨#[]⟩ : ByteArray), (⟨#[]⟩ : ByteArray), false))) = some (r1, r2, r3, r4, r5, r6, r7) := H
                    have A52 := Aside0.mk A520
                    clear A520
                    by_cases c53 : t314.toList = a0.toList
                    ·rw [if_pos c53] at H
                     have c53b0 : (t314.toList == a0.toList) = true := beq_iff_eq.mpr c53
                     have c53b1 : (t314.toList != a0.toList) = false := bne_eq_false_iff_eq.mpr c53
                     clear c53
                     by_cases c54 : a0.toList = ([] : List UInt8)
                     ·rw [if_pos c54] at H
                      have c54b0 : (a0.toList == ([] : List UInt8)) = true := beq_iff_eq.mpr c54
                      have c54b1 : (a0.toList != ([] : List UInt8)) = false := bne_eq_false_iff_eq.mpr c54
                      clear c54
                      simp only [Option.some.injEq, Prod.mk.injEq] at H
                      obtain ⟨rfl, rfl, rfl, rfl, rfl, rfl, rfl⟩ := H
                      have hnb55 := NB313_307.out
                      have hnc55 := NB307_313.out
                      have hcz56_0 : wc.cell? ⟨gb313, 0, none⟩ = some (.string (a0.extract 0 (t308 : Int).toNat)) := (blk_cell BK313.out 0).trans rfl
                      have hcz56_1 : wc.cell? ⟨gb313, 1, none⟩ = some (.string (a0.extract ((ji17) : Int).toNat (t309 : Int).toNat)) := (blk_cell BK313.out 1).trans rfl
                      have hcz56_2 : wc.cell? ⟨gb313, 2, none⟩ = some (.string (a0.extract ((ji21) : Int).toNat (t310 : Int).toNat)) := (blk_cell BK313.out 2).trans rfl
                      have hcz56_3 : wc.cell? ⟨gb313, 3, none⟩ = some (.string (a0.extract ((ji25) : Int).toNat (t311 : Int).toNat)) := (blk_cell BK313.out 3).trans rfl
                      have hcz56_4 : wc.cell? ⟨gb313, 4, none⟩ = some (.string x314004_31) := (blk_cell BK313.out 4).trans rfl
                      have hcz56_5 : wc.cell? ⟨gb313, 5, none⟩ = some (.string x314005_31) := (blk_cell BK313.out 5).trans rfl
                      have hfz56_0 := blk_frozen BK313.out 0
                      have hfz56_1 := blk_frozen BK313.out 1
                      have hfz56_2 := blk_frozen BK313.out 2
                      have hfz56_3 := blk_frozen BK313.out 3
                      have hfz56_4 := blk_frozen BK313.out 4
                      have hfz56_5 := blk_frozen BK313.out 5
                      go_wp2_with (first | ((with_reducible refine gate_callee (f := 21) rfl ?_); refine goesL_ (some 79) rfl rfl Try.func21 (by kernel_rfl) rfl #[.agg #[.string (a0.extract 0 (t308 : Int).toNat), .string (a0.extract ((ji17) : Int).toNat (t309 : Int).toNat), .string (a0.extract ((ji21) : Int).toNat (t310 : Int).toNat), .string (a0.extract ((ji25) : Int).toNat (t311 : Int).toNat), .string x314004_31, .string x314005_31]] rfl (by (try simp only [List.map_toArray, List.map_cons, List.map_nil]); first | done | (simp only [hji17, hji21, hji25]; rfl) | rfl | (simp only [List.length_drop, List.length_take]; rfl)) ?_; (with_reducible refine (entailref1_Text.calls kj31 (a0.extract 0 (t308 : Int).toNat) (a0.extract ((ji17) : Int).toNat (t309 : Int).toNat) (a0.extract ((ji21) : Int).toNat (t310 : Int).toNat) (a0.extract ((ji25) : Int).toNat (t311 : Int).toNat) x314004_31 x314005_31 t314 _ A52.out).mono ?_); rintro e w57 ⟨rfl, hb⟩; refine ⟨_, rfl, ?_⟩; have n0_ := Aside0.mk (blk_below (g := gb307) (o := .cells #[.string (⟨#[]⟩ : ByteArray), .string (⟨#[]⟩ : ByteArray), .string (⟨#[]⟩ : ByteArray), .string (⟨#[]⟩ : ByteArray), .string (⟨#[]⟩ : ByteArray), .string (⟨#[]⟩ : ByteArray)] 29 (0, 0)) (by (with_reducible repeat (first | refine blk_drewN ?_ _ | refine blk_drew ?_ | refine blk_alloc ?_ _)); exact BK307.out) hb); have n1_ := Aside0.mk (blk_below (g := gb313) (o := .cells #[.string (a0.extract 0 (t308 : Int).toNat), .string (a0.extract ((ji17) : Int).toNat (t309 : Int).toNat), .string (a0.extract ((ji21) : Int).toNat (t310 : Int).toNat), .string (a0.extract ((ji25) : Int).toNat (t311 : Int).toNat), .string x314004_31, .string x314005_31] 29 (0, 0)) (by (with_reducible repeat (first | refine blk_drewN ?_ _ | refine blk_drew ?_ | refine blk_alloc ?_ _)); exact BK313.out) hb); have n2_ := Aside0.mk (below_step (by repeat (first | (with_reducible first | exact HB.out | apply below_alloc | apply pw_below_drewN | apply below_drew1 | refine below_set ?_ GE307.out | refine below_set ?_ GE313.out) | exact HB.out)) hb); clear BK307; clear BK313; clear HB; have BK307 := n0_; have BK313 := n1_; have HB := n2_; clear n0_ n1_ n2_; (try clear hb); (try clear hb2); (try clear hk); (try clear hi); have hcz58_0 : w57.cell? ⟨gb307, 0, none⟩ = some (.string (⟨#[]⟩ : ByteArray)) := (blk_cell BK307.out 0).trans rfl; have hcz58_1 : w57.cell? ⟨gb307, 1, none⟩ = some (.string (⟨#[]⟩ : ByteArray)) := (blk_cell BK307.out 1).trans rfl; have hcz58_2 : w57.cell? ⟨gb307, 2, none⟩ = some (.string (⟨#[]⟩ : ByteArray)) := (blk_cell BK307.out 2).trans rfl; have hcz58_3 : w57.cell? ⟨gb307, 3, none⟩ = some (.string (⟨#[]⟩ : ByteArray)) := (blk_cell BK307.out 3).trans rfl; have hcz58_4 : w57.cell? ⟨gb307, 4, none⟩ = some (.string (⟨#[]⟩ : ByteArray)) := (blk_cell BK307.out 4).trans rfl; have hcz58_5 : w57.cell? ⟨gb307, 5, none⟩ = some (.string (⟨#[]⟩ : ByteArray)) := (blk_cell BK307.out 5).trans rfl; have hfz58_0 := blk_frozen BK307.out 0; have hfz58_1 := blk_frozen BK307.out 1; have hfz58_2 := blk_frozen BK307.out 2; have hfz58_3 := blk_frozen BK307.out 3; have hfz58_4 := blk_frozen BK307.out 4; have hfz58_5 := blk_frozen BK307.out 5))
                      refine bodyPost_ret (results_ct rfl _ _ gb307 29 #[.string (⟨#[]⟩ : ByteArray), .string (⟨#[]⟩ : ByteArray), .string (⟨#[]⟩ : ByteArray), .string (⟨#[]⟩ : ByteArray), .string (⟨#[]⟩ : ByteArray), .string (⟨#[]⟩ : ByteArray)] (0, 0) _ rfl (by (with_reducible repeat (first | refine blk_drewN ?_ _ | refine blk_drew ?_ | refine blk_alloc ?_ _)); refine blk_put (cs := #[.string (⟨#[]⟩ : ByteArray), .string (⟨#[]⟩ : ByteArray), .string (⟨#[]⟩ : ByteArray), .string (⟨#[]⟩ : ByteArray), .string (⟨#[]⟩ : ByteArray), .string (⟨#[]⟩ : ByteArray)]) ?_ 5 _ rfl; (with_reducible repeat (first | refine blk_drewN ?_ _ | refine blk_drew ?_ | refine blk_alloc ?_ _)); refine blk_put (cs := #[.string (⟨#[]⟩ : ByteArray), .string (⟨#[]⟩ : ByteArray), .string (⟨#[]⟩ : ByteArray), .string (⟨#[]⟩ : ByteArray), .string (⟨#[]⟩ : ByteArray), .string (⟨#[]⟩ : ByteArray)]) ?_ 4 _ rfl; (with_reducible repeat (first | refine blk_drewN ?_ _ | refine blk_drew ?_ | refine blk_alloc ?_ _)); refine blk_put (cs := #[.string (⟨#[]⟩ : ByteArray), .string (⟨#[]⟩ : ByteArray), .string (⟨#[]⟩ : ByteArray), .string (⟨#[]⟩ : ByteArray), .string (⟨#[]⟩ : ByteArray), .string (⟨#[]⟩ : ByteArray)]) ?_ 3 _ rfl; (with_reducible repeat (first | refine blk_drewN ?_ _ | refine blk_drew ?_ | refine blk_alloc ?_ _)); refine blk_put (cs := #[.string (⟨#[]⟩ : ByteArray), .string (⟨#[]⟩ : ByteArray), .string (⟨#[]⟩ : ByteArray), .string (⟨#[]⟩ : ByteArray), .string (⟨#[]⟩ : ByteArray), .string (⟨#[]⟩ : ByteArray)]) ?_ 2 _ rfl; (with_reducible repeat (first | refine blk_drewN ?_ _ | refine blk_drew ?_ | refine blk_alloc ?_ _)); refine blk_put (cs := #[.string (⟨#[]⟩ : ByteArray), .string (⟨#[]⟩ : ByteArray), .string (⟨#[]⟩ : ByteArray), .string (⟨#[]⟩ : ByteArray), .string (⟨#[]⟩ : ByteArray), .string (⟨#[]⟩ : ByteArray)]) ?_ 1 _ rfl; (with_reducible repeat (first | refine blk_drewN ?_ _ | refine blk_drew ?_ | refine blk_alloc ?_ _)); refine blk_put (cs := #[.string (⟨#[]⟩ : ByteArray), .string (⟨#[]⟩ : ByteArray), .string (⟨#[]⟩ : ByteArray), .string (⟨#[]⟩ : ByteArray), .string (⟨#[]⟩ : ByteArray), .string (⟨#[]⟩ : ByteArray)]) ?_ 0 _ rfl; (with_reducible repeat (first | refine blk_drewN ?_ _ | refine blk_drew ?_ | refine blk_alloc ?_ _)); exact BK307.out) Try.underlying29 rfl (by kernel_rfl)) rfl ?_
                      exact ⟨by first | rfl | (simp [errW_none, errW_some] <;> rfl) | (simp only [← hji17, ← hji21, ← hji25, ← hji29]; first | rfl | (simp [errW_none, errW_some] <;> rfl)) | (simp [*, errW_none, errW_some] <;> rfl), by repeat (first | (with_reducible first | exact HB.out | apply below_alloc | apply pw_below_drewN | apply below_drew1 | refine below_set ?_ GE307.out | refine below_set ?_ GE313.out) | exact HB.out)⟩
                     ·rw [if_neg c54] at H
                      have c54b0 : (a0.toList == ([] : List UInt8)) = false := beq_eq_false_iff_ne.mpr c54
                      have c54b1 : (a0.toList != ([] : List UInt8)) = true := bne_iff_ne.mpr c54
                      simp only [Option.some.injEq, Prod.mk.injEq] at H
                      obtain ⟨rfl, rfl, rfl, rfl, rfl, rfl, rfl⟩ := H
                      have hnb59 := NB313_307.out
                      have hnc59 := NB307_313.out
                      have hcz60_0 : wc.cell? ⟨gb313, 0, none⟩ = some (.string (a0.extract 0 (t308 : Int).toNat)) := (blk_cell BK313.out 0).trans rfl
                      have hcz60_1 : wc.cell? ⟨gb313, 1, none⟩ = some (.string (a0.extract ((ji17) : Int).toNat (t309 : Int).toNat)) := (blk_cell BK313.out 1).trans rfl
                      have hcz60_2 : wc.cell? ⟨gb313, 2, none⟩ = some (.string (a0.extract ((ji21) : Int).toNat (t310 : Int).toNat)) := (blk_cell BK313.out 2).trans rfl
                      have hcz60_3 : wc.cell? ⟨gb313, 3, none⟩ = some (.string (a0.extract ((ji25) : Int).toNat (t311 : Int).toNat)) := (blk_cell BK313.out 3).trans rfl
                      have hcz60_4 : wc.cell? ⟨gb313, 4, none⟩ = some (.string x314004_31) := (blk_cell BK313.out 4).trans rfl
                      have hcz60_5 : wc.cell? ⟨gb313, 5, none⟩ = some (.string x314005_31) := (blk_cell BK313.out 5).trans rfl
                      have hfz60_0 := blk_frozen BK313.out 0
                      have hfz60_1 := blk_frozen BK313.out 1
                      have hfz60_2 := blk_frozen BK313.out 2
                      have hfz60_3 := blk_frozen BK313.out 3
                      have hfz60_4 := blk_frozen BK313.out 4
                      have hfz60_5 := blk_frozen BK313.out 5
                      go_wp2_with (first | ((with_reducible refine gate_callee (f := 21) rfl ?_); refine goesL_ (some 79) rfl rfl Try.func21 (by kernel_rfl) rfl #[.agg #[.string (a0.extract 0 (t308 : Int).toNat), .string (a0.extract ((ji17) : Int).toNat (t309 : Int).toNat), .string (a0.extract ((ji21) : Int).toNat (t310 : Int).toNat), .string (a0.extract ((ji25) : Int).toNat (t311 : Int).toNat), .string x314004_31, .string x314005_31]] rfl (by (try simp only [List.map_toArray, List.map_cons, List.map_nil]); first | done | (simp only [hji17, hji21, hji25]; rfl) | rfl | (simp only [List.length_drop, List.length_take]; rfl)) ?_; (with_reducible refine (entailref1_Text.calls kj31 (a0.extract 0 (t308 : Int).toNat) (a0.extract ((ji17) : Int).toNat (t309 : Int).toNat) (a0.extract ((ji21) : Int).toNat (t310 : Int).toNat) (a0.extract ((ji25) : Int).toNat (t311 : Int).toNat) x314004_31 x314005_31 t314 _ A52.out).mono ?_); rintro e w61 ⟨rfl, hb⟩; refine ⟨_, rfl, ?_⟩; have n0_ := Aside0.mk (blk_below (g := gb307) (o := .cells #[.string (⟨#[]⟩ : ByteArray), .string (⟨#[]⟩ : ByteArray), .string (⟨#[]⟩ : ByteArray), .string (⟨#[]⟩ : ByteArray), .string (⟨#[]⟩ : ByteArray), .string (⟨#[]⟩ : ByteArray)] 29 (0, 0)) (by (with_reducible repeat (first | refine blk_drewN ?_ _ | refine blk_drew ?_ | refine blk_alloc ?_ _)); exact BK307.out) hb); have n1_ := Aside0.mk (blk_below (g := gb313) (o := .cells #[.string (a0.extract 0 (t308 : Int).toNat), .string (a0.extract ((ji17) : Int).toNat (t309 : Int).toNat), .string (a0.extract ((ji21) : Int).toNat (t310 : Int).toNat), .string (a0.extract ((ji25) : Int).toNat (t311 : Int).toNat), .string x314004_31, .string x314005_31] 29 (0, 0)) (by (with_reducible repeat (first | refine blk_drewN ?_ _ | refine blk_drew ?_ | refine blk_alloc ?_ _)); exact BK313.out) hb); have n2_ := Aside0.mk (below_step (by repeat (first | (with_reducible first | exact HB.out | apply below_alloc | apply pw_below_drewN | apply below_drew1 | refine below_set ?_ GE307.out | refine below_set ?_ GE313.out) | exact HB.out)) hb); clear BK307; clear BK313; clear HB; have BK307 := n0_; have BK313 := n1_; have HB := n2_; clear n0_ n1_ n2_; (try clear hb); (try clear hb2); (try clear hk); (try clear hi); have hcz62_0 : w61.cell? ⟨gb313, 0, none⟩ = some (.string (a0.extract 0 (t308 : Int).toNat)) := (blk_cell BK313.out 0).trans rfl; have hcz62_1 : w61.cell? ⟨gb313, 1, none⟩ = some (.string (a0.extract ((ji17) : Int).toNat (t309 : Int).toNat)) := (blk_cell BK313.out 1).trans rfl; have hcz62_2 : w61.cell? ⟨gb313, 2, none⟩ = some (.string (a0.extract ((ji21) : Int).toNat (t310 : Int).toNat)) := (blk_cell BK313.out 2).trans rfl; have hcz62_3 : w61.cell? ⟨gb313, 3, none⟩ = some (.string (a0.extract ((ji25) : Int).toNat (t311 : Int).toNat)) := (blk_cell BK313.out 3).trans rfl; have hcz62_4 : w61.cell? ⟨gb313, 4, none⟩ = some (.string x314004_31) := (blk_cell BK313.out 4).trans rfl; have hcz62_5 : w61.cell? ⟨gb313, 5, none⟩ = some (.string x314005_31) := (blk_cell BK313.out 5).trans rfl; have hfz62_0 := blk_frozen BK313.out 0; have hfz62_1 := blk_frozen BK313.out 1; have hfz62_2 := blk_frozen BK313.out 2; have hfz62_3 := blk_frozen BK313.out 3; have hfz62_4 := blk_frozen BK313.out 4; have hfz62_5 := blk_frozen BK313.out 5; have hcz63_0 : w61.cell? ⟨gb307, 0, none⟩ = some (.string (⟨#[]⟩ : ByteArray)) := (blk_cell BK307.out 0).trans rfl; have hcz63_1 : w61.cell? ⟨gb307, 1, none⟩ = some (.string (⟨#[]⟩ : ByteArray)) := (blk_cell BK307.out 1).trans rfl; have hcz63_2 : w61.cell? ⟨gb307, 2, none⟩ = some (.string (⟨#[]⟩ : ByteArray)) := (blk_cell BK307.out 2).trans rfl; have hcz63_3 : w61.cell? ⟨gb307, 3, none⟩ = some (.string (⟨#[]⟩ : ByteArray)) := (blk_cell BK307.out 3).trans rfl; have hcz63_4 : w61.cell? ⟨gb307, 4, none⟩ = some (.string (⟨#[]⟩ : ByteArray)) := (blk_cell BK307.out 4).trans rfl; have hcz63_5 : w61.cell? ⟨gb307, 5, none⟩ = some (.string (⟨#[]⟩ : ByteArray)) := (blk_cell BK307.out 5).trans rfl; have hfz63_0 := blk_frozen BK307.out 0; have hfz63_1 := blk_frozen BK307.out 1; have hfz63_2 := blk_frozen BK307.out 2; have hfz63_3 := blk_frozen BK307.out 3; have hfz63_4 := blk_frozen BK307.out 4; have hfz63_5 := blk_frozen BK307.out 5))
                      refine bodyPost_ret (results_ct rfl _ _ gb307 29 #[.string (a0.extract 0 (t308 : Int).toNat), .string (a0.extract ((ji17) : Int).toNat (t309 : Int).toNat), .string (a0.extract ((ji21) : Int).toNat (t310 : Int).toNat), .string (a0.extract ((ji25) : Int).toNat (t311 : Int).toNat), .string x314004_31, .string x314005_31] (0, 0) _ rfl (by (with_reducible repeat (first | refine blk_drewN ?_ _ | refine blk_drew ?_ | refine blk_alloc ?_ _)); refine blk_put (cs := #[.string (a0.extract 0 (t308 : Int).toNat), .string (a0.extract ((ji17) : Int).toNat (t309 : Int).toNat), .string (a0.extract ((ji21) : Int).toNat (t310 : Int).toNat), .string (a0.extract ((ji25) : Int).toNat (t311 : Int).toNat), .string x314004_31, .string (⟨#[]⟩ : ByteArray)]) ?_ 5 _ rfl; (with_reducible repeat (first | refine blk_drewN ?_ _ | refine blk_drew ?_ | refine blk_alloc ?_ _)); refine blk_put (cs := #[.string (a0.extract 0 (t308 : Int).toNat), .string (a0.extract ((ji17) : Int).toNat (t309 : Int).toNat), .string (a0.extract ((ji21) : Int).toNat (t310 : Int).toNat), .string (a0.extract ((ji25) : Int).toNat (t311 : Int).toNat), .string (⟨#[]⟩ : ByteArray), .string (⟨#[]⟩ : ByteArray)]) ?_ 4 _ rfl; (with_reducible repeat (first | refine blk_drewN ?_ _ | refine blk_drew ?_ | refine blk_alloc ?_ _)); refine blk_put (cs := #[.string (a0.extract 0 (t308 : Int).toNat), .string (a0.extract ((ji17) : Int).toNat (t309 : Int).toNat), .string (a0.extract ((ji21) : Int).toNat (t310 : Int).toNat), .string (⟨#[]⟩ : ByteArray), .string (⟨#[]⟩ : ByteArray), .string (⟨#[]⟩ : ByteArray)]) ?_ 3 _ rfl; (with_reducible repeat (first | refine blk_drewN ?_ _ | refine blk_drew ?_ | refine blk_alloc ?_ _)); refine blk_put (cs := #[.string (a0.extract 0 (t308 : Int).toNat), .string (a0.extract ((ji17) : Int).toNat (t309 : Int).toNat), .string (⟨#[]⟩ : ByteArray), .string (⟨#[]⟩ : ByteArray), .string (⟨#[]⟩ : ByteArray), .string (⟨#[]⟩ : ByteArray)]) ?_ 2 _ rfl; (with_reducible repeat (first | refine blk_drewN ?_ _ | refine blk_drew ?_ | refine blk_alloc ?_ _)); refine blk_put (cs := #[.string (a0.extract 0 (t308 : Int).toNat), .string (⟨#[]⟩ : ByteArray), .string (⟨#[]⟩ : ByteArray), .string (⟨#[]⟩ : ByteArray), .string (⟨#[]⟩ : ByteArray), .string (⟨#[]⟩ : ByteArray)]) ?_ 1 _ rfl; (with_reducible repeat (first | refine blk_drewN ?_ _ | refine blk_drew ?_ | refine blk_alloc ?_ _)); refine blk_put (cs := #[.string (⟨#[]⟩ : ByteArray), .string (⟨#[]⟩ : ByteArray), .string (⟨#[]⟩ : ByteArray), .string (⟨#[]⟩ : ByteArray), .string (⟨#[]⟩ : ByteArray), .string (⟨#[]⟩ : ByteArray)]) ?_ 0 _ rfl; (with_reducible repeat (first | refine blk_drewN ?_ _ | refine blk_drew ?_ | refine blk_alloc ?_ _)); exact BK307.out) Try.underlying29 rfl (by kernel_rfl)) rfl ?_
                      exact ⟨by first | rfl | (simp [errW_none, errW_some] <;> rfl) | (simp only [← hji17, ← hji21, ← hji25, ← hji29]; first | rfl | (simp [errW_none, errW_some] <;> rfl)) | (simp [*, errW_none, errW_some] <;> rfl), by repeat (first | (with_reducible first | exact HB.out | apply below_alloc | apply pw_below_drewN | apply below_drew1 | refine below_set ?_ GE307.out | refine below_set ?_ GE313.out) | exact HB.out)⟩
                    ·rw [if_neg c53] at H
                     have c53b0 : (t314.toList == a0.toList) = false := beq_eq_false_iff_ne.mpr c53
                     have c53b1 : (t314.toList != a0.toList) = true := bne_iff_ne.mpr c53
                     simp only [Option.some.injEq, Prod.mk.injEq] at H
                     obtain ⟨rfl, rfl, rfl, rfl, rfl, rfl, rfl⟩ := H
                     have hnb64 := NB313_307.out
                     have hnc64 := NB307_313.out
                     have hcz65_0 : wc.cell? ⟨gb313, 0, none⟩ = some (.string (a0.extract 0 (t308 : Int).toNat)) := (blk_cell BK313.out 0).trans rfl
                     have hcz65_1 : wc.cell? ⟨gb313, 1, none⟩ = some (.string (a0.extract ((ji17) : Int).toNat (t309 : Int).toNat)) := (blk_cell BK313.out 1).trans rfl
                     have hcz65_2 : wc.cell? ⟨gb313, 2, none⟩ = some (.string (a0.extract ((ji21) : Int).toNat (t310 : Int).toNat)) := (blk_cell BK313.out 2).trans rfl
                     have hcz65_3 : wc.cell? ⟨gb313, 3, none⟩ = some (.string (a0.extract ((ji25) : Int).toNat (t311 : Int).toNat)) := (blk_cell BK313.out 3).trans rfl
                     have hcz65_4 : wc.cell? ⟨gb313, 4, none⟩ = some (.string x314004_31) := (blk_cell BK313.out 4).trans rfl
                     have hcz65_5 : wc.cell? ⟨gb313, 5, none⟩ = some (.string x314005_31) := (blk_cell BK313.out 5).trans rfl
                     have hfz65_0 := blk_frozen BK313.out 0
                     have hfz65_1 := blk_frozen BK313.out 1
                     have hfz65_2 := blk_frozen BK313.out 2
                     have hfz65_3 := blk_frozen BK313.out 3
                     have hfz65_4 := blk_frozen BK313.out 4
                     have hfz65_5 := blk_frozen BK313.out 5
                     go_wp2_with (first | ((with_reducible refine gate_callee (f := 21) rfl ?_); refine goesL_ (some 79) rfl rfl Try.func21 (by kernel_rfl) rfl #[.agg #[.string (a0.extract 0 (t308 : Int).toNat), .string (a0.extract ((ji17) : Int).toNat (t309 : Int).toNat), .string (a0.extract ((ji21) : Int).toNat (t310 : Int).toNat), .string (a0.extract ((ji25) : Int).toNat (t311 : Int).toNat), .string x314004_31, .string x314005_31]] rfl (by (try simp only [List.map_toArray, List.map_cons, List.map_nil]); first | done | (simp only [hji17, hji21, hji25]; rfl) | rfl | (simp only [List.length_drop, List.length_take]; rfl)) ?_; (with_reducible refine (entailref1_Text.calls kj31 (a0.extract 0 (t308 : Int).toNat) (a0.extract ((ji17) : Int).toNat (t309 : Int).toNat) (a0.extract ((ji21) : Int).toNat (t310 : Int).toNat) (a0.extract ((ji25) : Int).toNat (t311 : Int).toNat) x314004_31 x314005_31 t314 _ A52.out).mono ?_); rintro e w66 ⟨rfl, hb⟩; refine ⟨_, rfl, ?_⟩; have n0_ := Aside0.mk (blk_below (g := gb307) (o := .cells #[.string (⟨#[]⟩ : ByteArray), .string (⟨#[]⟩ : ByteArray), .string (⟨#[]⟩ : ByteArray), .string (⟨#[]⟩ : ByteArray), .string (⟨#[]⟩ : ByteArray), .string (⟨#[]⟩ : ByteArray)] 29 (0, 0)) (by (with_reducible repeat (first | refine blk_drewN ?_ _ | refine blk_drew ?_ | refine blk_alloc ?_ _)); exact BK307.out) hb); have n1_ := Aside0.mk (blk_below (g := gb313) (o := .cells #[.string (a0.extract 0 (t308 : Int).toNat), .string (a0.extract ((ji17) : Int).toNat (t309 : Int).toNat), .string (a0.extract ((ji21) : Int).toNat (t310 : Int).toNat), .string (a0.extract ((ji25) : Int).toNat (t311 : Int).toNat), .string x314004_31, .string x314005_31] 29 (0, 0)) (by (with_reducible repeat (first | refine blk_drewN ?_ _ | refine blk_drew ?_ | refine blk_alloc ?_ _)); exact BK313.out) hb); have n2_ := Aside0.mk (below_step (by repeat (first | (with_reducible first | exact HB.out | apply below_alloc | apply pw_below_drewN | apply below_drew1 | refine below_set ?_ GE307.out | refine below_set ?_ GE313.out) | exact HB.out)) hb); clear BK307; clear BK313; clear HB; have BK307 := n0_; have BK313 := n1_; have HB := n2_; clear n0_ n1_ n2_; (try clear hb); (try clear hb2); (try clear hk); (try clear hi); have hcz67_0 : w66.cell? ⟨gb307, 0, none⟩ = some (.string (⟨#[]⟩ : ByteArray)) := (blk_cell BK307.out 0).trans rfl; have hcz67_1 : w66.cell? ⟨gb307, 1, none⟩ = some (.string (⟨#[]⟩ : ByteArray)) := (blk_cell BK307.out 1).trans rfl; have hcz67_2 : w66.cell? ⟨gb307, 2, none⟩ = some (.string (⟨#[]⟩ : ByteArray)) := (blk_cell BK307.out 2).trans rfl; have hcz67_3 : w66.cell? ⟨gb307, 3, none⟩ = some (.string (⟨#[]⟩ : ByteArray)) := (blk_cell BK307.out 3).trans rfl; have hcz67_4 : w66.cell? ⟨gb307, 4, none⟩ = some (.string (⟨#[]⟩ : ByteArray)) := (blk_cell BK307.out 4).trans rfl; have hcz67_5 : w66.cell? ⟨gb307, 5, none⟩ = some (.string (⟨#[]⟩ : ByteArray)) := (blk_cell BK307.out 5).trans rfl; have hfz67_0 := blk_frozen BK307.out 0; have hfz67_1 := blk_frozen BK307.out 1; have hfz67_2 := blk_frozen BK307.out 2; have hfz67_3 := blk_frozen BK307.out 3; have hfz67_4 := blk_frozen BK307.out 4; have hfz67_5 := blk_frozen BK307.out 5))
                     refine bodyPost_ret (results_ct rfl _ _ gb307 29 #[.string (⟨#[]⟩ : ByteArray), .string (⟨#[]⟩ : ByteArray), .string (⟨#[]⟩ : ByteArray), .string (⟨#[]⟩ : ByteArray), .string (⟨#[]⟩ : ByteArray), .string (⟨#[]⟩ : ByteArray)] (0, 0) _ rfl (by (with_reducible repeat (first | refine blk_drewN ?_ _ | refine blk_drew ?_ | refine blk_alloc ?_ _)); refine blk_put (cs := #[.string (⟨#[]⟩ : ByteArray), .string (⟨#[]⟩ : ByteArray), .string (⟨#[]⟩ : ByteArray), .string (⟨#[]⟩ : ByteArray), .string (⟨#[]⟩ : ByteArray), .string (⟨#[]⟩ : ByteArray)]) ?_ 5 _ rfl; (with_reducible repeat (first | refine blk_drewN ?_ _ | refine blk_drew ?_ | refine blk_alloc ?_ _)); refine blk_put (cs := #[.string (⟨#[]⟩ : ByteArray), .string (⟨#[]⟩ : ByteArray), .string (⟨#[]⟩ : ByteArray), .string (⟨#[]⟩ : ByteArray), .string (⟨#[]⟩ : ByteArray), .string (⟨#[]⟩ : ByteArray)]) ?_ 4 _ rfl; (with_reducible repeat (first | refine blk_drewN ?_ _ | refine blk_drew ?_ | refine blk_alloc ?_ _)); refine blk_put (cs := #[.string (⟨#[]⟩ : ByteArray), .string (⟨#[]⟩ : ByteArray), .string (⟨#[]⟩ : ByteArray), .string (⟨#[]⟩ : ByteArray), .string (⟨#[]⟩ : ByteArray), .string (⟨#[]⟩ : ByteArray)]) ?_ 3 _ rfl; (with_reducible repeat (first | refine blk_drewN ?_ _ | refine blk_drew ?_ | refine blk_alloc ?_ _)); refine blk_put (cs := #[.string (⟨#[]⟩ : ByteArray), .string (⟨#[]⟩ : ByteArray), .string (⟨#[]⟩ : ByteArray), .string (⟨#[]⟩ : ByteArray), .string (⟨#[]⟩ : ByteArray), .string (⟨#[]⟩ : ByteArray)]) ?_ 2 _ rfl; (with_reducible repeat (first | refine blk_drewN ?_ _ | refine blk_drew ?_ | refine blk_alloc ?_ _)); refine blk_put (cs := #[.string (⟨#[]⟩ : ByteArray), .string (⟨#[]⟩ : ByteArray), .string (⟨#[]⟩ : ByteArray), .string (⟨#[]⟩ : ByteArray), .string (⟨#[]⟩ : ByteArray), .string (⟨#[]⟩ : ByteArray)]) ?_ 1 _ rfl; (with_reducible repeat (first | refine blk_drewN ?_ _ | refine blk_drew ?_ | refine blk_alloc ?_ _)); refine blk_put (cs := #[.string (⟨#[]⟩ : ByteArray), .string (⟨#[]⟩ : ByteArray), .string (⟨#[]⟩ : ByteArray), .string (⟨#[]⟩ : ByteArray), .string (⟨#[]⟩ : ByteArray), .string (⟨#[]⟩ : ByteArray)]) ?_ 0 _ rfl; (with_reducible repeat (first | refine blk_drewN ?_ _ | refine blk_drew ?_ | refine blk_alloc ?_ _)); exact BK307.out) Try.underlying29 rfl (by kernel_rfl)) rfl ?_
                     exact ⟨by first | rfl | (simp [errW_none, errW_some] <;> rfl) | (simp only [← hji17, ← hji21, ← hji25, ← hji29]; first | rfl | (simp [errW_none, errW_some] <;> rfl)) | (simp [*, errW_none, errW_some] <;> rfl), by repeat (first | (with_reducible first | exact HB.out | apply below_alloc | apply pw_below_drewN | apply below_drew1 | refine below_set ?_ GE307.out | refine below_set ?_ GE313.out) | exact HB.out)⟩
                 ·rw [if_neg c31] at H
                  exact absurd H (by simp)
                ·rw [if_neg c30] at H
                 exact absurd H (by simp)
               ·rw [if_neg c28] at H
                exact absurd H (by simp)
              ·rw [if_neg c27] at H
               exact absurd H (by simp)
             ·rw [if_neg c26] at H
              exact absurd H (by simp)
            ·rw [if_neg c24] at H
             exact absurd H (by simp)
           ·rw [if_neg c23] at H
            exact absurd H (by simp)
          ·rw [if_neg c22] at H
           exact absurd H (by simp)
         ·rw [if_neg c20] at H
          exact absurd H (by simp)
        ·rw [if_neg c19] at H
         exact absurd H (by simp)
       ·rw [if_neg c18] at H
        exact absurd H (by simp)
      ·rw [if_neg c16] at H
       exact absurd H (by simp)
     ·rw [if_neg c15] at H
      exact absurd H (by simp)
end Go.Proofs.Ytjmlloiolppoiaa.P
end
section
namespace Go.Proofs.Ytjmlloiolppoiaa.Tupl
open Go.RowKit Go.Proofs.Ytjmlloiolppoiaa.P Go.Proofs.YtjmlloiolppoiaaW.PrintWords Go.Proofs.YtjmlloiolppoiaaW.PrintLast Go.Proofs.Ytjmlloiolppoiaa.Base Go.Proofs.Ytjmlloiolppoiaa.Atom Go.Proofs.Ytjmlloiolppoiaa.TuplLess
theorem idx_some {c : UInt8} {x r : List UInt8} (h : c ∉ x) : Lib.indexByte (x ++ c :: r) c = (x.length : Int) := by
  have := ((index_ahead c (x ++ c :: r)).1 (by simp)).1
  rw [this, (cut_some h).1]
theorem idx_none {c : UInt8} {x : List UInt8} (h : c ∉ x) : Lib.indexByte x c = -1 := ((index_ahead c x).2 h).1
def Fnd (s : ByteArray) (c : UInt8) (n v : Int) : Prop := v = -1 ∨ (n ≤ v ∧ v < (s.size : Int) ∧ ∃ m : Nat, v = (m : Int) ∧ (A s)[m]? = some c)
theorem fnd_ev (s : ByteArray) (hs : s.size ≤ 1000000000000) (c : UInt8) (n : Nat) (hn : n ≤ s.size) : ∃ v, Ev (fun k => entailref1_Find.f k s (c.toNat : Int) (n : Int)) v ∧ Fnd s c (n : Int) v := by
  refine ⟨_, find_l0 s c hs ((A s).drop n) n rfl hn, ?_⟩
  obtain ⟨h1, h2⟩ := index_ahead c ((A s).drop n)
  by_cases g : c ∈ (A s).drop n
  · obtain ⟨h3, h4⟩ := h1 g
    rw [h3, if_neg (by omega)]
    rw [List.length_drop, A_len] at h4
    refine Or.inr ⟨by omega, by omega, n + (cutA c ((A s).drop n)).length, by simp, ?_⟩
    have e : (A s).drop n = cutA c ((A s).drop n) ++ ((A s).drop n).dropWhile (fun d => !(d == c)) := (List.takeWhile_append_dropWhile).symm
    have hlt : (cutA c ((A s).drop n)).length < ((A s).drop n).length := by rw [List.length_drop, A_len]; exact h4
    rw [← List.getElem?_drop]
    rw [List.getElem?_eq_getElem hlt]
    have hne : ((A s).drop n).dropWhile (fun d => !(d == c)) ≠ [] := by
      intro h0; rw [h0, List.append_nil] at e
      have := congrArg List.length e; omega
    have hd := List.head_dropWhile_not (p := fun d => !(d == c)) (l := (A s).drop n) hne
    have h5 : ((A s).drop n)[(cutA c ((A s).drop n)).length]'hlt = (((A s).drop n).dropWhile (fun d => !(d == c))).head hne := by
      have : ∀ (L P Q : List UInt8) (hL : L = P ++ Q) (hq : Q ≠ []) (hl : P.length < L.length), L[P.length] = Q.head hq := by
        intro L P Q hL hq hl; subst hL
        cases Q with
        | nil => exact absurd rfl hq
        | cons a r => simp
      exact this _ _ _ e hne hlt
    rw [h5]
    simp at hd
    rw [hd]
  · rw [(h2 g).1, if_pos rfl]; exact Or.inl rfl
def parseR (s : List UInt8) : ByteArray × ByteArray × ByteArray × ByteArray × ByteArray × ByteArray × Bool :=
  if fitL s = true then (toB (pa s), toB (pb s), toB (pc s), toB (pd s), toB (pe s), toB (pf s), true) else (⟨#[]⟩, ⟨#[]⟩, ⟨#[]⟩, ⟨#[]⟩, ⟨#[]⟩, ⟨#[]⟩, false)
theorem j1_ev (s : ByteArray) (u0 u1 u2 u3 u4 u5 : ByteArray) (hb : u1.size ≤ 1000000000000) (he : u4.size ≤ 1000000000000) :
    Ev (fun k => entailref1_Parse.j1 k s u0 u1 u2 u3 u4 u5) (if textR (A u0) (A u1) (A u2) (A u3) (A u4) (A u5) = A s ∧ A s ≠ [] then (u0, u1, u2, u3, u4, u5, true) else (⟨#[]⟩, ⟨#[]⟩, ⟨#[]⟩, ⟨#[]⟩, ⟨#[]⟩, ⟨#[]⟩, false)) := by
  refine Ev.step (f := fun k => (entailref1_Text.f k u0 u1 u2 u3 u4 u5).bind _) (fun k => by simp only [entailref1_Parse.j1]; rfl) (Ev.bind (rtext_ev u0 u1 u2 u3 u4 u5 hb he) ?_)
  simp only [A_toList, A_toB]
  by_cases g : textR (A u0) (A u1) (A u2) (A u3) (A u4) (A u5) = A s
  · rw [if_pos g]
    by_cases e : A s = []
    · rw [if_pos e, if_neg (fun h => h.2 e)]; exact Ev.now _
    · rw [if_neg e, if_pos ⟨g, e⟩]; exact Ev.now _
  · rw [if_neg g, if_neg (fun h => g h.1)]; exact Ev.now _
theorem j1_no (s : ByteArray) (hf : ¬ fitL (A s) = true) (u0 u1 u2 u3 u4 u5 : ByteArray) (hb : u1.size ≤ 1000000000000) (he : u4.size ≤ 1000000000000) :
    Ev (fun k => entailref1_Parse.j1 k s u0 u1 u2 u3 u4 u5) (parseR (A s)) := by
  have h := j1_ev s u0 u1 u2 u3 u4 u5 hb he
  unfold parseR
  rw [if_neg hf]
  rw [if_neg] at h
  · exact h
  · rintro ⟨g, e⟩
    unfold textR at g
    by_cases o : okL (A u0) (A u1) (A u2) (A u3) (A u4) (A u5) = true
    · rw [if_pos o] at g; exact hf (g ▸ fit_text o)
    · rw [if_neg o] at g; exact e g.symm
theorem j1_yes (s : ByteArray) (u0 u1 u2 u3 u4 u5 : ByteArray) (ho : okL (A u0) (A u1) (A u2) (A u3) (A u4) (A u5) = true) (ht : textL (A u0) (A u1) (A u2) (A u3) (A u4) (A u5) = A s) (hb : u1.size ≤ 1000000000000) (he : u4.size ≤ 1000000000000) :
    Ev (fun k => entailref1_Parse.j1 k s u0 u1 u2 u3 u4 u5) (parseR (A s)) := by
  have h := j1_ev s u0 u1 u2 u3 u4 u5 hb he
  unfold parseR
  obtain ⟨p0, p1, p2, p3, p4, p5⟩ := parts_text ho
  rw [← ht, if_pos (fit_text ho), p0, p1, p2, p3, p4, p5]
  simp only [toB_A]
  rw [if_pos] at h
  · exact h
  · unfold textR
    rw [if_pos ho]
    refine ⟨ht, ?_⟩
    rw [← ht]; intro e
    have := text_len ho; rw [e] at this; exact absurd this (by decide)
theorem chain (s : ByteArray) (hs : s.size ≤ 1000000000000) (v1 v2 v3 v4 v5 : Int) (r : ByteArray × ByteArray × ByteArray × ByteArray × ByteArray × ByteArray × Bool) (h1 : 0 ≤ v1) (h2 : v1 < v2) (h3 : v2 < v3) (h4 : v3 < v4) (h4s : v4 < (s.size : Int))
    (e4 : Ev (fun k => entailref1_Find.f k s 58 v3) v4) (e5 : Ev (fun k => entailref1_Find.f k s 35 v4) v5)
    (hj : (v5 = -1 ∧ Ev (fun k => entailref1_Parse.j1 k s (s.extract 0 v1.toNat) (s.extract (v1 + 1).toNat v2.toNat) (s.extract (v2 + 1).toNat v3.toNat) (s.extract (v3 + 1).toNat v4.toNat) (s.extract (v4 + 1).toNat s.size) ⟨#[]⟩) r) ∨
      (v4 < v5 ∧ v5 < (s.size : Int) ∧ Ev (fun k => entailref1_Parse.j1 k s (s.extract 0 v1.toNat) (s.extract (v1 + 1).toNat v2.toNat) (s.extract (v2 + 1).toNat v3.toNat) (s.extract (v3 + 1).toNat v4.toNat) (s.extract (v4 + 1).toNat v5.toNat) (s.extract (v5 + 1).toNat s.size)) r)) :
    Ev (fun k => entailref1_Parse.j0 k s v1 v2 v3 false) r := by
  have w1 : wrap64 (v1 + 1) = v1 + 1 := wrap_id (by omega) (by omega)
  have w2 : wrap64 (v2 + 1) = v2 + 1 := wrap_id (by omega) (by omega)
  have w3 : wrap64 (v3 + 1) = v3 + 1 := wrap_id (by omega) (by omega)
  have w4 : wrap64 (v4 + 1) = v4 + 1 := wrap_id (by omega) (by omega)
  refine Ev.step (f := fun k => (entailref1_Find.f k s 58 v3).bind _) (fun k => by simp only [entailref1_Parse.j0, Bool.false_eq_true, if_false]; rfl) (Ev.bind e4 ?_)
  simp only [if_neg (show ¬ v4 < 0 by omega)]
  refine Ev.bind e5 ?_
  simp only [w1, w2, w3, w4, if_pos (show 0 ≤ v1 by omega), if_pos (show v1 ≤ (s.size : Int) by omega), if_pos (show 0 ≤ v1 + 1 by omega), if_pos (show v1 + 1 ≤ v2 by omega), if_pos (show v2 ≤ (s.size : Int) by omega), if_pos (show 0 ≤ v2 + 1 by omega), if_pos (show v2 + 1 ≤ v3 by omega),
    if_pos (show v3 ≤ (s.size : Int) by omega), if_pos (show 0 ≤ v3 + 1 by omega), if_pos (show v3 + 1 ≤ v4 by omega), if_pos (show v4 ≤ (s.size : Int) by omega), if_pos (show 0 ≤ v4 + 1 by omega), if_pos (show v4 + 1 ≤ (s.size : Int) by omega)]
  rcases hj with ⟨e, h⟩ | ⟨g1, g2, h⟩
  · subst e
    simp only [if_neg (show ¬ (-1 : Int) ≥ 0 by decide)]
    exact h
  · have w5 : wrap64 (v5 + 1) = v5 + 1 := wrap_id (by omega) (by omega)
    simp only [w5, if_pos (show v5 ≥ 0 by omega), if_pos (show v4 + 1 ≤ v5 by omega), if_pos (show v5 ≤ (s.size : Int) by omega), if_pos (show 0 ≤ v5 + 1 by omega), if_pos (show v5 + 1 ≤ (s.size : Int) by omega)]
    exact h
theorem dif {s : ByteArray} {c d : UInt8} (hcd : c ≠ d) {v u : Int} (h1 : ∃ m : Nat, v = (m : Int) ∧ (A s)[m]? = some c) (h2 : ∃ m : Nat, u = (m : Int) ∧ (A s)[m]? = some d) : v ≠ u := by
  obtain ⟨m, rfl, hm⟩ := h1
  obtain ⟨n, rfl, hn⟩ := h2
  intro e
  have : m = n := by omega
  subst this
  rw [hm] at hn
  exact hcd (Option.some.inj hn)
theorem ext_le (s : ByteArray) (i j : Nat) : (s.extract i j).size ≤ s.size := by rw [ByteArray.size_extract]; omega
theorem head_ev (s : ByteArray) (v1 v2 v3 : Int) (r : ByteArray × ByteArray × ByteArray × ByteArray × ByteArray × ByteArray × Bool)
    (e1 : Ev (fun k => entailref1_Find.f k s 58 0) v1) (e2 : Ev (fun k => entailref1_Find.f k s 35 0) v2) (e3 : Ev (fun k => entailref1_Find.f k s 64 0) v3)
    (h : Ev (fun k => entailref1_Parse.j0 k s v1 v2 v3 (decide (v1 < 0) || (decide (v2 < v1) || decide (v3 < v2)))) r) : Ev (fun k => entailref1_Parse.f k s) r := by
  obtain ⟨K1, h1⟩ := e1; obtain ⟨K2, h2⟩ := e2; obtain ⟨K3, h3⟩ := e3; obtain ⟨K4, h4⟩ := h
  refine ⟨K1 + K2 + K3 + K4, fun k hk => ?_⟩
  have q1 : entailref1_Find.f k s 58 0 = some v1 := h1 k (by omega)
  have q2 : entailref1_Find.f k s 35 0 = some v2 := h2 k (by omega)
  have q3 : entailref1_Find.f k s 64 0 = some v3 := h3 k (by omega)
  have q4 := h4 k (by omega)
  show entailref1_Parse.f k s = _
  unfold entailref1_Parse.f
  rw [q1, q2, q3]
  simp only [Option.bind_some]
  by_cases c1 : v1 < 0
  · rw [if_pos c1]; simpa [c1] using q4
  · rw [if_neg c1]
    by_cases c2 : v2 < v1
    · rw [if_pos c2]; simpa [c1, c2] using q4
    · rw [if_neg c2]; simpa [c1, c2] using q4
theorem rparse_no (s : ByteArray) (hs : s.size ≤ 1000000000000) (hf : ¬ fitL (A s) = true) : Ev (fun k => entailref1_Parse.f k s) (parseR (A s)) := by
  have hz : parseR (A s) = (⟨#[]⟩, ⟨#[]⟩, ⟨#[]⟩, ⟨#[]⟩, ⟨#[]⟩, ⟨#[]⟩, false) := by unfold parseR; rw [if_neg hf]
  obtain ⟨v1, e1, F1⟩ := fnd_ev s hs 58 0 (Nat.zero_le _)
  obtain ⟨v2, e2, F2⟩ := fnd_ev s hs 35 0 (Nat.zero_le _)
  obtain ⟨v3, e3, F3⟩ := fnd_ev s hs 64 0 (Nat.zero_le _)
  refine head_ev s v1 v2 v3 _ e1 e2 e3 ?_
  by_cases bad : v1 < 0 ∨ v2 < v1 ∨ v3 < v2
  · have : (decide (v1 < 0) || (decide (v2 < v1) || decide (v3 < v2))) = true := by simpa using bad
    rw [this, hz]
    exact Ev.step (f := fun _ => some (⟨#[]⟩, ⟨#[]⟩, ⟨#[]⟩, ⟨#[]⟩, ⟨#[]⟩, ⟨#[]⟩, false)) (fun k => by simp only [entailref1_Parse.j0, if_true]) (Ev.now _)
  · have : (decide (v1 < 0) || (decide (v2 < v1) || decide (v3 < v2))) = false := by
      rw [decide_eq_false (fun h => bad (Or.inl h)), decide_eq_false (fun h => bad (Or.inr (Or.inl h))), decide_eq_false (fun h => bad (Or.inr (Or.inr h)))]; rfl
    rw [this]
    have b1 : 0 ≤ v1 := by omega
    have b2 : v1 ≤ v2 := by omega
    have b3 : v2 ≤ v3 := by omega
    obtain ⟨_, g1, i1⟩ : _ ∧ _ ∧ _ := F1.resolve_left (by omega)
    obtain ⟨_, g2, i2⟩ : _ ∧ _ ∧ _ := F2.resolve_left (by omega)
    obtain ⟨_, g3, i3⟩ : _ ∧ _ ∧ _ := F3.resolve_left (by omega)
    have d12 := dif (by decide) i1 i2
    have d23 := dif (by decide) i2 i3
    obtain ⟨m3, rfl⟩ : ∃ m : Nat, v3 = (m : Int) := ⟨v3.toNat, by omega⟩
    obtain ⟨v4, e4, F4⟩ := fnd_ev s hs 58 m3 (by omega)
    rcases F4 with rfl | ⟨g4, g4s, i4⟩
    · rw [hz]
      refine Ev.step (f := fun k => (entailref1_Find.f k s 58 (m3 : Int)).bind _) (fun k => by simp only [entailref1_Parse.j0, Bool.false_eq_true, if_false]; rfl) (Ev.bind e4 ?_)
      simp only [if_pos (show (-1 : Int) < 0 by decide)]
      exact Ev.now _
    · have d34 := dif (by decide) i3 i4
      obtain ⟨m4, rfl⟩ : ∃ m : Nat, v4 = (m : Int) := ⟨v4.toNat, by omega⟩
      obtain ⟨v5, e5, F5⟩ := fnd_ev s hs 35 m4 (by omega)
      refine chain s hs v1 v2 _ _ v5 _ (by omega) (by omega) (by omega) (by omega) (by omega) e4 e5 ?_
      rcases F5 with rfl | ⟨g5, g5s, i5⟩
      · exact Or.inl ⟨rfl, j1_no s hf _ _ _ _ _ _ (Nat.le_trans (ext_le _ _ _) hs) (Nat.le_trans (ext_le _ _ _) hs)⟩
      · have d45 := dif (by decide) i4 i5
        exact Or.inr ⟨by omega, by omega, j1_no s hf _ _ _ _ _ _ (Nat.le_trans (ext_le _ _ _) hs) (Nat.le_trans (ext_le _ _ _) hs)⟩
theorem fndx (s : ByteArray) (hs : s.size ≤ 1000000000000) (c : UInt8) (P X R : List UInt8) (n m : Nat) (h : A s = P ++ (X ++ c :: R)) (hX : c ∉ X) (hn : n = P.length) (hm : m = n + X.length) :
    Ev (fun k => entailref1_Find.f k s (c.toNat : Int) (n : Int)) (m : Int) := by
  subst hn hm
  have hz : P.length ≤ s.size := by
    have := congrArg List.length h
    rw [A_len, List.length_append] at this; omega
  have := find_l0 s c hs (X ++ c :: R) P.length (by rw [h, List.drop_left]) hz
  rw [idx_some hX, if_neg (by omega)] at this
  have e : ((P.length + X.length : Nat) : Int) = (P.length : Int) + (X.length : Int) := by omega
  rw [e]; exact this
theorem fndn (s : ByteArray) (hs : s.size ≤ 1000000000000) (c : UInt8) (P X : List UInt8) (n : Nat) (h : A s = P ++ X) (hX : c ∉ X) (hn : n = P.length) :
    Ev (fun k => entailref1_Find.f k s (c.toNat : Int) (n : Int)) (-1) := by
  subst hn
  have hz : P.length ≤ s.size := by
    have := congrArg List.length h
    rw [A_len, List.length_append] at this; omega
  have := find_l0 s c hs X P.length (by rw [h, List.drop_left]) hz
  rw [idx_none hX, if_pos rfl] at this
  exact this
theorem ext_is (s : ByteArray) (i j : Nat) (P Q R : List UInt8) (h : A s = P ++ (Q ++ R)) (hi : i = P.length) (hj : j = i + Q.length) : A (s.extract i j) = Q := by
  subst hi hj
  rw [A_cut, h, List.drop_left, show P.length + Q.length - P.length = Q.length by omega, List.take_left]
theorem rparse_yes (s : ByteArray) (hs : s.size ≤ 1000000000000) (a b c d e f : List UInt8) (ho : okL a b c d e f = true) (ht : A s = textL a b c d e f) : Ev (fun k => entailref1_Parse.f k s) (parseR (A s)) := by
  obtain ⟨ha, hb, hc, hd, he, hf⟩ := okd.1 ho
  unfold textL at ht
  have hlen := congrArg List.length ht
  simp only [List.length_append, List.length_cons, A_len] at hlen
  have n35 : (35 : UInt8) ∉ a ++ 58 :: b := by
    intro m
    simp only [List.mem_append, List.mem_cons] at m
    rcases m with m | m | m
    · exact name_no ha plain35 m
    · exact absurd m (by decide)
    · exact id_no hb id35 m
  have n58 : (58 : UInt8) ∉ 64 :: d := by
    intro m
    rcases List.mem_cons.1 m with m | m
    · exact absurd m (by decide)
    · exact name_no hd plain58 m
  have n35' : (35 : UInt8) ∉ 58 :: e := by
    intro m
    rcases List.mem_cons.1 m with m | m
    · exact absurd m (by decide)
    · exact id_no he id35 m
  have e1 := fndx s hs 58 [] a (b ++ 35 :: (c ++ 64 :: (d ++ 58 :: (e ++ (if f = [] then [] else 35 :: f))))) 0 a.length (by rw [ht]; rfl) (name_no ha plain58) rfl (by omega)
  have e2 := fndx s hs 35 [] (a ++ 58 :: b) (c ++ 64 :: (d ++ 58 :: (e ++ (if f = [] then [] else 35 :: f)))) 0 (a.length + 1 + b.length) (by rw [ht]; simp) n35 rfl (by first | (simp; done) | (simp; omega))
  have e3 := fndx s hs 64 [] (a ++ 58 :: (b ++ 35 :: c)) (d ++ 58 :: (e ++ (if f = [] then [] else 35 :: f))) 0 (a.length + 1 + b.length + 1 + c.length) (by rw [ht]; simp) (no_left ha hb hc) rfl (by first | (simp; done) | (simp; omega))
  have e4 := fndx s hs 58 (a ++ 58 :: (b ++ 35 :: c)) (64 :: d) (e ++ (if f = [] then [] else 35 :: f)) (a.length + 1 + b.length + 1 + c.length) (a.length + 1 + b.length + 1 + c.length + 1 + d.length) (by rw [ht]; simp) n58 (by first | (simp; done) | (simp; omega)) (by first | (simp; done) | (simp; omega))
  refine head_ev s _ _ _ _ e1 e2 e3 ?_
  rw [decide_eq_false (by omega), decide_eq_false (by omega), decide_eq_false (by omega)]
  have x0 : A (s.extract 0 ((a.length : Nat) : Int).toNat) = a := ext_is s 0 _ [] a _ (by rw [ht]; rfl) rfl (by omega)
  have x1 : A (s.extract (((a.length : Nat) : Int) + 1).toNat ((a.length + 1 + b.length : Nat) : Int).toNat) = b := ext_is s _ _ (a ++ [58]) b (35 :: (c ++ 64 :: (d ++ 58 :: (e ++ (if f = [] then [] else 35 :: f))))) (by rw [ht]; simp) (by first | (simp; done) | (simp; omega)) (by omega)
  have x2 : A (s.extract (((a.length + 1 + b.length : Nat) : Int) + 1).toNat ((a.length + 1 + b.length + 1 + c.length : Nat) : Int).toNat) = c := ext_is s _ _ (a ++ 58 :: (b ++ [35])) c (64 :: (d ++ 58 :: (e ++ (if f = [] then [] else 35 :: f)))) (by rw [ht]; simp) (by first | (simp; done) | (simp; omega)) (by omega)
  have x3 : A (s.extract (((a.length + 1 + b.length + 1 + c.length : Nat) : Int) + 1).toNat ((a.length + 1 + b.length + 1 + c.length + 1 + d.length : Nat) : Int).toNat) = d := ext_is s _ _ (a ++ 58 :: (b ++ 35 :: (c ++ [64]))) d (58 :: (e ++ (if f = [] then [] else 35 :: f))) (by rw [ht]; simp) (by first | (simp; done) | (simp; omega)) (by omega)
  have hle : ∀ i j : Nat, (s.extract i j).size ≤ 1000000000000 := fun i j => Nat.le_trans (ext_le _ _ _) hs
  have htx : textL a b c d e f = A s := by unfold textL; exact ht.symm
  by_cases n : f = []
  · subst n
    rw [if_pos rfl] at ht hlen
    rw [List.length_nil] at hlen
    have e5 := fndn s hs 35 (a ++ 58 :: (b ++ 35 :: (c ++ 64 :: d))) (58 :: e) (a.length + 1 + b.length + 1 + c.length + 1 + d.length) (by rw [ht]; simp) n35' (by first | (simp; done) | (simp; omega))
    have x4 : A (s.extract (((a.length + 1 + b.length + 1 + c.length + 1 + d.length : Nat) : Int) + 1).toNat s.size) = e := ext_is s _ _ (a ++ 58 :: (b ++ 35 :: (c ++ 64 :: (d ++ [58])))) e [] (by rw [ht]; simp) (by first | (simp; done) | (simp; omega)) (by omega)
    refine chain s hs _ _ _ _ _ _ (by omega) (by omega) (by omega) (by omega) (by omega) e4 e5 (Or.inl ⟨rfl, j1_yes s _ _ _ _ _ _ ?_ ?_ (hle _ _) (hle _ _)⟩)
    · rw [x0, x1, x2, x3, x4]; exact ho
    · rw [x0, x1, x2, x3, x4]; exact htx
  · rw [if_neg n] at ht hlen
    rw [List.length_cons] at hlen
    have e5 := fndx s hs 35 (a ++ 58 :: (b ++ 35 :: (c ++ 64 :: d))) (58 :: e) f (a.length + 1 + b.length + 1 + c.length + 1 + d.length) (a.length + 1 + b.length + 1 + c.length + 1 + d.length + 1 + e.length) (by rw [ht]; simp) n35' (by first | (simp; done) | (simp; omega)) (by first | (simp; done) | (simp; omega))
    have x4 : A (s.extract (((a.length + 1 + b.length + 1 + c.length + 1 + d.length : Nat) : Int) + 1).toNat ((a.length + 1 + b.length + 1 + c.length + 1 + d.length + 1 + e.length : Nat) : Int).toNat) = e := ext_is s _ _ (a ++ 58 :: (b ++ 35 :: (c ++ 64 :: (d ++ [58])))) e (35 :: f) (by rw [ht]; simp) (by first | (simp; done) | (simp; omega)) (by omega)
    have x5 : A (s.extract (((a.length + 1 + b.length + 1 + c.length + 1 + d.length + 1 + e.length : Nat) : Int) + 1).toNat s.size) = f := ext_is s _ _ (a ++ 58 :: (b ++ 35 :: (c ++ 64 :: (d ++ 58 :: (e ++ [35]))))) f [] (by rw [ht]; simp) (by first | (simp; done) | (simp; omega)) (by omega)
    refine chain s hs _ _ _ _ _ _ (by omega) (by omega) (by omega) (by omega) (by omega) e4 e5 (Or.inr ⟨by omega, by omega, j1_yes s _ _ _ _ _ _ ?_ ?_ (hle _ _) (hle _ _)⟩)
    · rw [x0, x1, x2, x3, x4, x5]; exact ho
    · rw [x0, x1, x2, x3, x4, x5]; exact htx
theorem rparse_ev (s : ByteArray) (hs : s.size ≤ 1000000000000) : Ev (fun k => entailref1_Parse.f k s) (parseR (A s)) := by
  by_cases h : fitL (A s) = true
  · obtain ⟨h1, h2⟩ := fit_is h
    exact rparse_yes s hs _ _ _ _ _ _ h1 h2.symm
  · exact rparse_no s hs h
end Go.Proofs.Ytjmlloiolppoiaa.Tupl
end
